/- The walk of the reference's 'Encode'. -/
import Derived.Test.YtomncfiklkhfjaaRecEntry
namespace Go.Proofs.Ytomncfiklkhfjaa.Rec
open Go.RowKit Mem Crc _root_.Go.Proofs.Ytomncfiklkhfjaa.Frame
attribute [local go_sem] S8_size R.size_ R.c0 R.c1 R.c34 R.c35 R.c36 R.c37 R.c38 R.g0 R.g1 R.g34 R.g35 R.g36 R.g37 R.g38
/-- Between two steps of an 'Encode': what it has written, and the record in its own block. -/
structure St (w : World) (r : R) (C : Option Addr) (cap : Nat) (bs : List UInt8) (A : Option Addr) (N c : Nat) (wr : World) : Prop where
  own : Own wr w.heap.size 5 A N c bs
  blk : Blk wr w.heap.size 26 (r.cells C cap).toArray
  below : Below w.heap.size w wr
  ne : A.map (·.block) ≠ some w.heap.size
theorem St.alloc {w : World} {r : R} {C : Option Addr} {cap : Nat} {bs : List UInt8} {A : Option Addr} {N c : Nat} {wr : World} (h : St w r C cap bs A N c wr) (o : Obj) : St w r C cap bs A N c (wr.alloc o) :=
  ⟨h.own.alloc o, h.blk.alloc o, h.below.alloc h.below.size o, h.ne⟩
theorem St.to {w : World} {r : R} {C : Option Addr} {cap : Nat} {bs : List UInt8} {A : Option Addr} {N c : Nat} {wr w2 : World} (h : St w r C cap bs A N c wr) (hb : Below wr.heap.size wr w2) : St w r C cap bs A N c w2 :=
  ⟨h.own.below hb, h.blk.below_ hb, h.below.trans (hb.mono h.below.size), h.ne⟩
theorem St.ext {w : World} {r : R} {C : Option Addr} {cap : Nat} {bs bs2 : List UInt8} {A A2 : Option Addr} {N c N2 c2 : Nat} {wr w2 : World} (h : St w r C cap bs A N c wr) (ho : Own w2 w.heap.size 5 A2 N2 c2 bs2)
    (hb : Below w.heap.size wr w2) (hx : Ext wr A w2 A2) : St w r C cap bs2 A2 N2 c2 w2 := by
  refine ⟨ho, h.blk.grown hx.1 (Ne.symm h.ne), h.below.trans hb, ?_⟩
  rcases hx.2 with rfl | ⟨g, rfl, hg⟩
  · exact h.ne
  · have := h.blk.lt
    simp
    omega
theorem St.step {w : World} {r : R} {C : Option Addr} {cap : Nat} {bs bs2 : List UInt8} {A A2 : Option Addr} {N c N2 c2 n0 c0 : Nat} {wr w2 : World} (h : St w r C cap bs A N c wr) (ho : Own w2 w.heap.size 5 A2 N2 c2 bs2)
    (hg : wr.grownBy w2 (Value.slice A n0 c0).ownBlock) (hb : Below w.heap.size wr w2) (hA : A2 = A ∨ A2 = some ⟨wr.heap.size, 0, none⟩) : St w r C cap bs2 A2 N2 c2 w2 :=
  h.ext ho hb ((Ext.refl wr A).step hg hA)
theorem rangeRec {w : World} {g : Nat} {t : TypeId} {r : R} {C : Option Addr} {cap : Nat} (h : Blk w g t (r.cells C cap).toArray) : w.rangeAt g 0 (r.cells C cap) := fun j v hv => by
  rw [Nat.zero_add, h.cell]
  simpa using hv
theorem rootAt {w : World} {g : Nat} {t : TypeId} {r : R} {C : Option Addr} {cap : Nat} (h : Blk w g t (r.cells C cap).toArray) : BAt w (some ⟨g, 2, none⟩) r.root :=
  BAt.of_block h 2 fun k hk => by
    have := r.cRoot C cap k (by have := r.h32; omega)
    simpa using this
theorem keepBlk {w w2 : World} {g : Nat} {t : TypeId} {cs : Array Value} {A A2 : Option Addr} (h : Blk w g t cs) (hne : A.map (·.block) ≠ some g) (hx : Ext w A w2 A2) : Blk w2 g t cs ∧ A2.map (·.block) ≠ some g := by
  refine ⟨h.grown hx.1 (Ne.symm hne), ?_⟩
  rcases hx.2 with rfl | ⟨g', rfl, hg⟩
  · exact hne
  · have := h.lt
    simp
    omega
/-- What is written ahead of the copies. -/
def R.front (r : R) : List UInt8 := headB r.id r.len r.root ++ beB r.idx.toNat 4 ++ beB r.exp.toNat 6 ++ [flags r.hold r.gone, UInt8.ofNat r.copies.length]
theorem enc_step (r : R) (k : Nat) (q : Cpy) (hq : r.copies[k]? = some q) : r.front ++ ((r.copies.take (k + 1)).map Cpy.bytes).flatten =
    r.front ++ ((r.copies.take k).map Cpy.bytes).flatten ++ beB q.dev.toNat 1 ++ beB q.pos.toNat 2 ++ beB q.len.toNat 1 ++ [if q.bad then 1 else 0] := by
  rw [List.take_add_one, hq]
  simp [Cpy.bytes, beB]
theorem enc_all (r : R) (h : r.may = true) : r.encode = some (r.front ++ ((r.copies.take r.copies.length).map Cpy.bytes).flatten) := by
  unfold R.encode
  rw [if_pos h, List.take_length]
  rfl
theorem own_ne {w : World} {base : Nat} {e : TypeId} {A : Option Addr} {n c : Nat} {bs : List UInt8} (h : Own w base e A n c bs) : A.map (·.block) ≠ some w.heap.size := by
  rcases h.form with ⟨rfl, _, _⟩ | ⟨g, rfl, _, hg⟩
  · simp
  · simp
    omega
theorem cpy_bytes_len (c : Cpy) : c.bytes.length = 5 := by simp [Cpy.bytes, beB_length]
/-- What holds at the head of a round of an 'Encode'. -/
def EncRel (w : World) (r : R) (C : Option Addr) (cap : Nat) (bv iv : Value) (wr : World) : Prop :=
  ∃ (k : Nat) (A : Option Addr) (N c : Nat), k ≤ r.copies.length ∧ iv = .int .i64 k ∧ bv = .slice A N c ∧ N ≤ 70 + 5 * k ∧ St w r C cap (r.front ++ ((r.copies.take k).map Cpy.bytes).flatten) A N c wr
set_option maxRecDepth 100000 in
set_option maxHeartbeats 4000000 in
theorem refEncode_any (r : R) (C : Option Addr) (cap : Nat) (w : World) (hid : r.id.length ≤ 140737488355000) (hcl : r.copies.length ≤ 140737488355328) (hC : CAt w C r.copies) :
    Calls Try.prog 15 #[.agg (r.cells C cap).toArray] w (RetW w r.encode) := by
  have HID := Lib.hid (Nat.le_trans hid (show 140737488355000 ≤ 140737488355328 by decide))
  have HCL := Lib.hid hcl
  have HC := Lib.hid hC
  have HG := Lib.hid (Blk.new w 26 (r.cells C cap).toArray)
  clear hid hcl hC
  cases hm : r.may
  case false =>
    go_enter Try.func15, Try.ntmps15
    go_wp2_with (first
      | (refine wpList_load_mid rfl 26 (.tmp 1) rfl w.heap.size 0 rfl (r.cells C cap) _ (rangeRec HG.out) Try.underlying26 rfl (by rw [R.size_]; kernel_rfl) ?_)
      | (go_at_call 57
         refine (refMay_any r C cap _ HID.out HCL.out (HC.out.below (below_al' _))).mono ?_
         rintro e w1 ⟨rfl, hb1⟩
         have HB1 := Lib.hid hb1
         clear hb1))
    go_ret2
    exact ⟨below_al HB1.out, .inl ⟨by unfold R.encode; rw [hm]; rfl, rfl⟩⟩
  case true =>
    go_enter Try.func15, Try.ntmps15
    go_wp2_with (first
      | (refine wpList_load_mid rfl 26 (.tmp 1) rfl w.heap.size 0 rfl (r.cells C cap) _ (rangeRec HG.out) Try.underlying26 rfl (by rw [R.size_]; kernel_rfl) ?_)
      | fail)
    refine (refMay_any r C cap _ HID.out HCL.out (HC.out.below (below_al' _))).mono ?_
    rintro e w1 ⟨rfl, hb1⟩
    obtain ⟨hhead, hcps⟩ := may_true hm
    obtain ⟨hn, hl0, hl1, hi0, hi1, he0, he1, hk8⟩ := (head_iff r).1 hhead
    have h16 : r.id.length ≤ 16 := by
      unfold nameM at hn
      simp at hn
      omega
    obtain ⟨l, hl⟩ := Int.eq_ofNat_of_zero_le hl0
    obtain ⟨x, hx⟩ := Int.eq_ofNat_of_zero_le hi0
    obtain ⟨t, ht⟩ := Int.eq_ofNat_of_zero_le he0
    have HB1 := Lib.hid (below_al hb1)
    have HG1 := Lib.hid (HG.out.below_ hb1)
    have HV := Lib.hid (u8_len r.id.length (by omega))
    have HCP := Lib.hid hcps
    have hl512 : l ≤ 512 := by omega
    have HXB : Hid (x ≤ 2147483647) := Lib.hid (by omega)
    have HTB : Hid (t ≤ 1099511627776) := Lib.hid (by omega)
    have HL := Lib.hid hl
    have HX := Lib.hid hx
    have HT := Lib.hid ht
    have HK8 := Lib.hid hk8
    have HMAY := Lib.hid hm
    clear hb1 hhead hn hl0 hl1 hi0 hi1 he0 he1 hk8 hl hx ht hcps
    obtain ⟨h0, h1, h34, h35, h36, h37, h38⟩ := RAt.of_blk HG1.out
    rw [HL.out] at h1
    have hz1 : w.heap.size < w1.heap.size := HG1.out.lt
    have HS1 : Hid (St w r C cap [UInt8.ofNat r.id.length] (some ⟨w1.heap.size, 0, none⟩) 1 1 (w1.alloc (.cells #[.int .u8 (r.id.length : Int)] 5))) :=
      Lib.hid ⟨Own.new (n := 1) w1 w1.heap.size _ rfl (Nat.le_of_lt hz1) (by rw [← HV.out]; rfl) rfl (by decide), HG1.out.alloc _, HB1.out.alloc (Nat.le_of_lt hz1) _, by simp; omega⟩
    go_wp2_with (first
      | (refine wpList_str_bytes rfl (.tmp 18) _ _ _ rfl strTy byteTy r.id rfl (w1.heap.size + 1) (by simp) ?_
         intro c0 w0 hB0 hb0
         have HB0 := Lib.hid hB0
         have HS0 := Lib.hid (HS1.out.to (hb0.mono (by simp)))
         clear hB0 hb0)
      | (at_builtin
         refine wpList_append_bytes rfl (.tmp 16) (.tmp 19) _ rfl w.heap.size _ byteTy _ 1 1 [UInt8.ofNat r.id.length] rfl HS0.out.own _ r.id.length c0 r.id rfl HB0.out rfl (1 + r.id.length) rfl (by omega) HS0.out.below.size ?_
         intro A2 c2 w2 ho2 hg2 hb2 hA2
         have HS2 := Lib.hid (HS0.out.step ho2 hg2 hb2 hA2)
         clear ho2 hg2 hb2 hA2 h0 h1 h34 h35 h36 h37 h38
         obtain ⟨_, h1, _, _, _, _, _⟩ := RAt.of_blk HS2.out.blk
         rw [HL.out] at h1))
    refine (put_any w.heap.size A2 _ _ c2 l 2 w2 HS2.out.own HS2.out.below.size (by omega) (by omega) (by omega) (by omega)).mono ?_
    rintro e w3 ⟨A3, N3, c3, rfl, ho, hb, hx⟩
    obtain rfl : N3 = 1 + r.id.length + 2 := by rw [← ho.len]; simp [beB_length]; omega
    have HS3 := Lib.hid (HS2.out.ext ho hb hx)
    clear ho hb hx h1 HS2 HS1 HG1 HB1
    have HCUT := Lib.hid (fun (W : World) => run_cutAll (P := Try.prog) 23 5 32 arrTy byteTy.hi w.heap.size 2 (by decide) W)
    have hcut := HCUT.out
    go_wp2_with
      (at_builtin
       refine wpList_append_bytes rfl (.tmp 25) (.tmp 27) _ rfl w.heap.size _ byteTy A3 (1 + r.id.length + 2) c3 _ rfl HS3.out.own _ 32 32 r.root rfl (rootAt HS3.out.blk) r.h32 (1 + r.id.length + 2 + 32) rfl (by omega) HS3.out.below.size ?_
       intro A4 c4 w4 ho hg hb hA
       have HS4 := Lib.hid (HS3.out.step ho hg hb hA)
       clear ho hg hb hA hcut
       obtain ⟨_, _, h34, _, _, _, _⟩ := RAt.of_blk HS4.out.blk
       rw [HX.out] at h34)
    refine (put_any w.heap.size A4 _ _ c4 x 4 w4 HS4.out.own HS4.out.below.size (by omega) (by have := HXB.out; omega) (by omega) (by omega)).mono ?_
    rintro e w5 ⟨A5, N5, c5, rfl, ho, hb, hx⟩
    obtain rfl : N5 = 1 + r.id.length + 2 + 32 + 4 := by rw [← ho.len]; simp [beB_length, r.h32]; omega
    have HS5 := Lib.hid (HS4.out.ext ho hb hx)
    clear ho hb hx h34 HS4 HS3
    obtain ⟨_, _, _, h35, _, _, _⟩ := RAt.of_blk HS5.out.blk
    rw [HT.out] at h35
    go_wp2_with fail
    refine (put_any w.heap.size A5 _ _ c5 t 6 w5 HS5.out.own HS5.out.below.size (by omega) (by have := HTB.out; omega) (by omega) (by omega)).mono ?_
    rintro e w6 ⟨A6, N6, c6, rfl, ho, hb, hx⟩
    obtain rfl : N6 = 1 + r.id.length + 2 + 32 + 4 + 6 := by rw [← ho.len]; simp [beB_length, r.h32]; omega
    have HS6 := Lib.hid (HS5.out.ext ho hb hx)
    clear ho hb hx h35 HS5
    obtain ⟨_, _, _, _, h36, h37, h38⟩ := RAt.of_blk HS6.out.blk
    have HK := Lib.hid (u8_len r.copies.length (by have := HK8.out; omega))
    have hfour : (r.hold = false ∧ r.gone = false ∧ V8 (flags r.hold r.gone) = 0) ∨ (r.hold = true ∧ r.gone = false ∧ V8 (flags r.hold r.gone) = 1) ∨ (r.hold = false ∧ r.gone = true ∧ V8 (flags r.hold r.gone) = 2) ∨ (r.hold = true ∧ r.gone = true ∧ V8 (flags r.hold r.gone) = 3) := by
      cases r.hold <;> cases r.gone <;> simp <;> decide
    have hk8 := HK8.out
    rcases hfour with ⟨hh, hg, hf⟩ | ⟨hh, hg, hf⟩ | ⟨hh, hg, hf⟩ | ⟨hh, hg, hf⟩
    all_goals
      rw [hh] at h36
      rw [hg] at h37
      have HF := Lib.hid hf
      clear hh hg hf
      go_wp2_with
        (at_builtin
         refine wpList_append_bytes rfl (.tmp 43) (.tmp 50) _ rfl w.heap.size _ byteTy A6 (1 + r.id.length + 2 + 32 + 4 + 6) c6 _ rfl (HS6.out.own.alloc _) _ 2 2 [flags r.hold r.gone, UInt8.ofNat r.copies.length] rfl
           (BAt.new _ _ _ _ (by show _ = #[Value.int .u8 (V8 _), Value.int .u8 (V8 _)]; rw [HF.out, HK.out])) rfl (1 + r.id.length + 2 + 32 + 4 + 6 + 2) rfl (by omega) (by have := HS6.out.below.size; simp; omega) ?_
         intro A7 c7 w7 ho hg hb hA
         have HS7 := Lib.hid ((HS6.out.alloc _).step ho hg hb hA)
         clear ho hg hb hA h36 h37 h38)
      go_loopw [4, 6] (fun b i wr => EncRel w r C cap b i wr) (fun _ i _ => r.copies.length - (intOf i).toNat)
      case atStart =>
        refine ⟨0, A7, _, c7, Nat.zero_le _, rfl, rfl, by omega, ?_⟩
        have := HS7.out
        simpa [R.front, headB, HL.out, HX.out, HT.out] using this
      case round =>
        obtain ⟨k, A, N, c, hk, rfl, rfl, hN, hS⟩ := hrel
        have HS := Lib.hid hS
        have hz := hS.blk.lt
        clear hS
        obtain ⟨_, _, _, _, _, _, h38⟩ := RAt.of_blk HS.out.blk
        by_cases hlt : k < r.copies.length
        · obtain ⟨q, hq⟩ : ∃ q, r.copies[k]? = some q := ⟨_, List.getElem?_eq_getElem hlt⟩
          obtain ⟨hd0, hd1, hp0, hp1, hl0, hl1⟩ := (cpy_iff q).1 (HCP.out q (List.mem_of_getElem? hq))
          obtain ⟨ad, rfl, h0, h1, h2, h3⟩ := (HC.out.below HS.out.below) k q hq
          obtain ⟨dv, pos, ln, bd⟩ := q
          obtain ⟨dv, rfl⟩ := Int.eq_ofNat_of_zero_le hd0
          obtain ⟨pos, rfl⟩ := Int.eq_ofNat_of_zero_le hp0
          obtain ⟨ln, rfl⟩ := Int.eq_ofNat_of_zero_le hl0
          have HQ := Lib.hid hq
          dsimp only at hd0 hd1 hp0 hp1 hl0 hl1 h0 h1 h2 h3
          have hdv : dv ≤ 11 := by omega
          have hpos : pos ≤ 4095 := by omega
          have hln : ln ≤ 255 := by omega
          clear hq hd0 hd1 hp0 hp1 hl0 hl1
          have HP := Lib.hid (Blk.new wr 82 #[.int .i64 (dv : Int), .int .i64 (pos : Int), .int .i64 (ln : Int), .bool bd])
          have HNE := Lib.hid (own_ne HS.out.own)
          have hzz := HS.out.below.size
          go_wp2_with fail
          refine (put_any w.heap.size A _ _ c dv 1 _ (HS.out.own.alloc _) (by simp; omega) (by omega) (by omega) (by omega) (by omega)).mono ?_
          rintro e x1 ⟨A1, N1, c1, rfl, ho, hb, hx⟩
          obtain rfl : N1 = N + 1 := by rw [← ho.len, ← HS.out.own.len]; simp [beB_length]; omega
          have HSa := Lib.hid ((HS.out.alloc _).ext ho hb hx)
          have HPa := Lib.hid (keepBlk HP.out HNE.out hx)
          have hza := HSa.out.below.size
          have g1 : x1.cell? ⟨wr.heap.size, 1, none⟩ = some (.int .i64 (pos : Int)) := by rw [HPa.out.1.cell 1]; rfl
          clear ho hb hx h0 h1 h2 h3 h38
          go_wp2_with fail
          refine (put_any w.heap.size A1 _ _ c1 pos 2 _ HSa.out.own hza (by omega) (by omega) (by omega) (by omega)).mono ?_
          rintro e x2 ⟨A2', N2, c2', rfl, ho, hb, hx⟩
          obtain rfl : N2 = N + 1 + 2 := by rw [← ho.len, ← HSa.out.own.len]; simp [beB_length]; omega
          have HSb := Lib.hid (HSa.out.ext ho hb hx)
          have HPb := Lib.hid (keepBlk HPa.out.1 HPa.out.2 hx)
          have hzb := HSb.out.below.size
          have g2 : x2.cell? ⟨wr.heap.size, 2, none⟩ = some (.int .i64 (ln : Int)) := by rw [HPb.out.1.cell 2]; rfl
          clear ho hb hx g1
          go_wp2_with fail
          refine (put_any w.heap.size A2' _ _ c2' ln 1 _ HSb.out.own hzb (by omega) (by omega) (by omega) (by omega)).mono ?_
          rintro e x3 ⟨A3', N3, c3', rfl, ho, hb, hx⟩
          obtain rfl : N3 = N + 1 + 2 + 1 := by rw [← ho.len, ← HSb.out.own.len]; simp [beB_length]; omega
          have HSc := Lib.hid (HSb.out.ext ho hb hx)
          have HPc := Lib.hid (keepBlk HPb.out.1 HPb.out.2 hx)
          have hzc := HSc.out.below.size
          have g3 : x3.cell? ⟨wr.heap.size, 3, none⟩ = some (.bool bd) := by rw [HPc.out.1.cell 3]; rfl
          clear ho hb hx g2
          cases bd
          · go_wp2_with
              (at_builtin
               refine wpList_append_bytes rfl (.tmp 81) (.tmp 82) _ rfl w.heap.size _ byteTy A3' (N + 1 + 2 + 1) c3' _ rfl (HSc.out.own.alloc _) _ 1 1 [0] rfl
                 (BAt.new _ _ _ _ (by rfl)) rfl (N + 1 + 2 + 1 + 1) rfl (by omega) (by simp; omega) ?_
               intro A4' c4' w4' ho hg hb hA
               have HSd := Lib.hid ((HSc.out.alloc _).step ho hg hb hA)
               clear ho hg hb hA g3)
            go_roundw
            case rel => exact ⟨k + 1, A4', _, c4', hlt, by go_num, rfl, by omega, by rw [enc_step r k _ HQ.out]; exact HSd.out⟩
            case measure => simp [intOf]; omega
          · go_wp2_with
              (at_builtin
               refine wpList_append_bytes rfl (.tmp 78) (.tmp 79) _ rfl w.heap.size _ byteTy A3' (N + 1 + 2 + 1) c3' _ rfl (HSc.out.own.alloc _) _ 1 1 [1] rfl
                 (BAt.new _ _ _ _ (by rfl)) rfl (N + 1 + 2 + 1 + 1) rfl (by omega) (by simp; omega) ?_
               intro A4' c4' w4' ho hg hb hA
               have HSd := Lib.hid ((HSc.out.alloc _).step ho hg hb hA)
               clear ho hg hb hA g3)
            go_roundw
            case rel => exact ⟨k + 1, A4', _, c4', hlt, by go_num, rfl, by omega, by rw [enc_step r k _ HQ.out]; exact HSd.out⟩
            case measure => simp [intOf]; omega
        · obtain rfl : k = r.copies.length := by omega
          go_wp2
          go_ret2
          exact ⟨HS.out.below, .inr ⟨_, _, _, _, enc_all r HMAY.out, rfl, HS.out.own⟩⟩
end Go.Proofs.Ytomncfiklkhfjaa.Rec
