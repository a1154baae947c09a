/- The walk of 'Encode'. -/
import Derived.Test.YtomncfiklkhfjaaRecRefEnc
import Derived.Deep.RegionHeld3
import Derived.Deep.DrawnRows
import Derived.IntWalk
namespace Go.Proofs.Ytomncfiklkhfjaa.Rec
open Go.RowKit Mem Crc _root_.Go.Proofs.Ytomncfiklkhfjaa.Frame
attribute [local go_sem] S8_size R.size_ R.c0 R.c1 R.c34 R.c35 R.c36 R.c37 R.c38 R.g0 R.g1 R.g34 R.g35 R.g36 R.g37 R.g38
theorem St.fresh {w : World} {r : R} {C : Option Addr} {cap : Nat} {bs bs2 : List UInt8} {A A2 : Option Addr} {N c N2 c2 : Nat} {wr w2 : World} (h : St w r C cap bs A N c wr) (ho : Own w2 wr.heap.size 5 A2 N2 c2 bs2)
    (hb : Below wr.heap.size wr w2) : St w r C cap bs2 A2 N2 c2 w2 := by
  have hlt := h.blk.lt
  refine ⟨ho.mono h.below.size, h.blk.below_ hb, h.below.trans (hb.mono h.below.size), ?_⟩
  rcases ho.form with ⟨rfl, _, _⟩ | ⟨g, rfl, hg, _⟩
  · simp
  · simp
    omega
theorem own_base_ne {w : World} {base : Nat} {e : TypeId} {A : Option Addr} {n c : Nat} {bs : List UInt8} (h : Own w (base + 1) e A n c bs) : A.map (·.block) ≠ some base := by
  rcases h.form with ⟨rfl, _, _⟩ | ⟨g, rfl, hg, _⟩
  · simp
  · simp
    omega
theorem St.drew {w : World} {r : R} {C : Option Addr} {cap : Nat} {bs : List UInt8} {A : Option Addr} {N c : Nat} {wr : World} (h : St w r C cap bs A N c wr) : St w r C cap bs A N c wr.drew :=
  ⟨h.own.drew, h.blk.drew, below_drewN h.below 1, h.ne⟩
theorem bat_ad {X : World} {k : Nat} {cs : Array Value} {bs : List UInt8} {t : TypeId} {fz : Nat × Nat} (hk : X.heap.size = k) (h : cs = cellsOf bs) : BAt (X.alloc (.cells cs t fz)).drew (some ⟨k, 0, none⟩) bs := BAt.new_at X k cs t fz hk h
theorem bat_aad {X : World} {k : Nat} {cs : Array Value} {bs : List UInt8} {t : TypeId} {fz : Nat × Nat} {o : Obj} (hk : X.heap.size = k) (h : cs = cellsOf bs) : BAt ((X.alloc (.cells cs t fz)).alloc o).drew (some ⟨k, 0, none⟩) bs :=
  show BAt ((X.alloc (.cells cs t fz)).alloc o) _ _ from (BAt.new_at X k cs t fz hk h).below (below_al' _)
theorem own_ne_ge {w : World} {base g : Nat} {e : TypeId} {A : Option Addr} {n c : Nat} {bs : List UInt8} (h : Own w base e A n c bs) (hg : w.heap.size ≤ g) : A.map (·.block) ≠ some g := by
  rcases h.form with ⟨rfl, _, _⟩ | ⟨g, rfl, _, hg⟩
  · simp
  · simp
    omega
theorem own_ne_lt {w : World} {base g : Nat} {e : TypeId} {A : Option Addr} {n c : Nat} {bs : List UInt8} (h : Own w base e A n c bs) (hg : g < base) : A.map (·.block) ≠ some g := by
  rcases h.form with ⟨rfl, _, _⟩ | ⟨g, rfl, hg, _⟩
  · simp
  · simp
    omega
theorem blk_bat {w : World} {g : Nat} {t : TypeId} {cs : Array Value} {bs : List UInt8} (h : Blk w g t cs) (hc : cs = cellsOf bs) : BAt w (some ⟨g, 0, none⟩) bs := by subst hc; exact h.bat
theorem four {w : World} {g : Nat} {t : TypeId} {a b c d : Value} (h : Blk w g t #[a, b, c, d]) : w.cell? ⟨g, 0, none⟩ = some a ∧ w.cell? ⟨g, 1, none⟩ = some b ∧ w.cell? ⟨g, 2, none⟩ = some c ∧ w.cell? ⟨g, 3, none⟩ = some d :=
  ⟨h.cell 0, h.cell 1, h.cell 2, h.cell 3⟩
/-- A flag's number, kept whole. -/
def fl (h : Bool) (b : UInt8) : Int := V8 (if h then b else 0)
theorem fl_lt (h : Bool) (b : UInt8) : 0 ≤ fl h b ∧ fl h b < 256 := V8_lt _
theorem or_fl (h g : Bool) : bits .or .u8 (fl h 1) (fl g 2) = V8 (flags h g) := by cases h <;> cases g <;> decide
theorem flag1_any (h : Bool) (w : World) : Calls Try.prog 56 #[.bool h, .int .u8 1] w fun e w' => e = .returned (.int .u8 (fl h 1)) ∧ w' = w := flag_any h 1 w
theorem flag2_any (h : Bool) (w : World) : Calls Try.prog 56 #[.bool h, .int .u8 2] w fun e w' => e = .returned (.int .u8 (fl h 2)) ∧ w' = w := flag_any h 2 w
def Three (g : Nat) (r : R) (C : Option Addr) (w : World) (cap : Nat) : Prop :=
  w.cell? ⟨g, 36, none⟩ = some (.bool r.hold) ∧ w.cell? ⟨g, 37, none⟩ = some (.bool r.gone) ∧ w.cell? ⟨g, 38, none⟩ = some (.slice C r.copies.length cap)
theorem three {w : World} {g : Nat} {t : TypeId} {r : R} {C : Option Addr} {cap : Nat} (h : Blk w g t (r.cells C cap).toArray) : w.cell? ⟨g, 36, none⟩ = some (.bool r.hold) ∧ w.cell? ⟨g, 37, none⟩ = some (.bool r.gone) ∧ w.cell? ⟨g, 38, none⟩ = some (.slice C r.copies.length cap) := by
  obtain ⟨_, _, _, _, h36, h37, h38⟩ := RAt.of_blk h
  exact ⟨h36, h37, h38⟩
attribute [local go_sem] or_fl
attribute [local go_sem ↓] Go.wp_at_zero Go.wp_at_succ
set_option maxRecDepth 100000 in
set_option maxHeartbeats 4000000 in
theorem encode_any (r : R) (C : Option Addr) (cap : Nat) (w : World) (hid : r.id.length ≤ 140737488355000) (hcl : r.copies.length ≤ 140737488355328) (hC : CAt w C r.copies) :
    Calls Try.prog 14 #[.agg (r.cells C cap).toArray] w (RetW w r.encode) := by
  have HID := Lib.hid (Nat.le_trans hid (show 140737488355000 ≤ 140737488355328 by decide))
  have HCL := Lib.hid hcl
  have HC := Lib.hid hC
  have HG := Lib.hid (Blk.new w 26 (r.cells C cap).toArray)
  clear hid hcl hC
  cases hm : r.may
  case false =>
    go_enter Try.func14, Try.ntmps14
    go_wp2_with (first
      | (refine wpList_load_mid rfl 26 (.tmp 1) rfl w.heap.size 0 rfl (r.cells C cap) _ (rangeRec HG.out) Try.underlying26 rfl (by rw [R.size_]; kernel_rfl) ?_)
      | (go_at_call 54
         refine (may_any r C cap _ HID.out HCL.out (HC.out.below (below_al' _))).mono ?_
         rintro e w1 ⟨rfl, hb1⟩
         have HB1 := Lib.hid hb1
         clear hb1))
    go_ret2
    exact ⟨below_al HB1.out, .inl ⟨by unfold R.encode; rw [hm]; rfl, rfl⟩⟩
  case true =>
    go_enter Try.func14, Try.ntmps14
    go_wp2_with (first
      | (refine wpList_load_mid rfl 26 (.tmp 1) rfl w.heap.size 0 rfl (r.cells C cap) _ (rangeRec HG.out) Try.underlying26 rfl (by rw [R.size_]; kernel_rfl) ?_)
      | fail)
    refine (may_any r C cap _ HID.out HCL.out (HC.out.below (below_al' _))).mono ?_
    rintro e w1 ⟨rfl, hb1⟩
    obtain ⟨hhead, hcps⟩ := may_true hm
    obtain ⟨hn, hl0, hl1, hi0, hi1, he0, he1, hk8⟩ := (head_iff r).1 hhead
    have h16 : r.id.length ≤ 16 := by
      unfold nameM at hn
      simp at hn
      omega
    obtain ⟨l, hl⟩ := Int.eq_ofNat_of_zero_le hl0
    obtain ⟨x, hx⟩ := Int.eq_ofNat_of_zero_le hi0
    obtain ⟨t, ht⟩ := Int.eq_ofNat_of_zero_le he0
    have HB1 := Lib.hid (below_al hb1)
    have HG1 := Lib.hid (HG.out.below_ hb1)
    have HV := Lib.hid (u8_len r.id.length (by omega))
    have HCP := Lib.hid hcps
    have hl512 : l ≤ 512 := by omega
    have hxb : x ≤ 2147483647 := by omega
    have htb : t ≤ 1099511627776 := by omega
    have HL := Lib.hid hl
    have HX := Lib.hid hx
    have HT := Lib.hid ht
    have HK8 := Lib.hid hk8
    have HMAY := Lib.hid hm
    clear hb1 hhead hn hl0 hl1 hi0 hi1 he0 he1 hk8 hl hx ht hcps
    obtain ⟨h0, h1, _, _, _, _, _⟩ := RAt.of_blk HG1.out
    rw [HL.out] at h1
    have hz1 : w.heap.size < w1.heap.size := HG1.out.lt
    have HO1 := Lib.hid (Own.new (e := 5) (n := 1) (base := w.heap.size + 1) (bs := [UInt8.ofNat r.id.length]) w1 w1.heap.size #[.int .u8 (r.id.length : Int)] rfl hz1 (by rw [← HV.out]; rfl) rfl (by decide))
    have HG2 := Lib.hid (HG1.out.alloc (.cells #[.int .u8 (r.id.length : Int)] 5))
    have HW2 := Lib.hid (HB1.out.alloc (Nat.le_of_lt hz1) (.cells #[.int .u8 (r.id.length : Int)] 5))
    go_wp2_with
      (at_builtin
       refine wpList_append_str rfl (.tmp 14) (.tmp 16) _ _ rfl strTy (w.heap.size + 1) _ byteTy _ 1 1 [UInt8.ofNat r.id.length] rfl HO1.out r.id rfl (1 + r.id.length) rfl (by omega) (by simp; omega) ?_
       intro A2 c2 w2 ho2 hg2 hb2
       have HS2 : Hid (St w r C cap ([UInt8.ofNat r.id.length] ++ r.id) A2 (1 + r.id.length) c2 w2) :=
         Lib.hid ⟨ho2.mono (by omega), HG2.out.grown hg2 (by simp [Value.ownBlock]; omega), HW2.out.trans (hb2.mono (by omega)), own_base_ne ho2⟩
       clear ho2 hg2 hb2 h0 h1
       obtain ⟨_, h1, _, _, _, _, _⟩ := RAt.of_blk HS2.out.blk
       rw [HL.out] at h1)
    clear HG HG1 HG2 HB1 HW2 HO1
    refine (number_any A2 _ _ c2 l 2 w2 HS2.out.own.len (by omega) HS2.out.own.bat (by omega)).mono ?_
    rintro e w3 ⟨A3, N3, c3, rfl, ho, hb⟩
    rw [show ∀ xs, number xs l 2 = xs ++ beB l 2 from fun xs => rfl] at ho
    obtain rfl : N3 = 1 + r.id.length + 2 := by rw [← ho.len]; simp [beB_length]; omega
    have HS3 := Lib.hid (HS2.out.fresh ho hb)
    clear ho hb h1 HS2
    have HCUT := Lib.hid (fun (W : World) => run_cutAll (P := Try.prog) 23 5 32 arrTy byteTy.hi w.heap.size 2 (by decide) W)
    have hcut := HCUT.out
    go_wp2_with
      (at_builtin
       refine wpList_append_bytes rfl (.tmp 23) (.tmp 25) _ rfl w.heap.size _ byteTy A3 (1 + r.id.length + 2) c3 _ rfl HS3.out.own _ 32 32 r.root rfl (rootAt HS3.out.blk) r.h32 (1 + r.id.length + 2 + 32) rfl (by omega) HS3.out.below.size ?_
       intro A4 c4 w4 ho hg hb hA
       have HS4 := Lib.hid (HS3.out.step ho hg hb hA)
       clear ho hg hb hA hcut
       obtain ⟨_, _, h34, _, _, _, _⟩ := RAt.of_blk HS4.out.blk
       rw [HX.out] at h34)
    refine (number_any A4 _ _ c4 x 4 w4 HS4.out.own.len (by omega) HS4.out.own.bat (by omega)).mono ?_
    rintro e w5 ⟨A5, N5, c5, rfl, ho, hb⟩
    rw [show ∀ xs, number xs x 4 = xs ++ beB x 4 from fun xs => rfl] at ho
    obtain rfl : N5 = 1 + r.id.length + 2 + 32 + 4 := by rw [← ho.len]; simp [beB_length, r.h32]; omega
    have HS5 := Lib.hid (HS4.out.fresh ho hb)
    clear ho hb h34 HS4 HS3
    obtain ⟨_, _, _, h35, _, _, _⟩ := RAt.of_blk HS5.out.blk
    rw [HT.out] at h35
    go_wp2_with fail
    refine (number_any A5 _ _ c5 t 6 w5 HS5.out.own.len (by omega) HS5.out.own.bat (by omega)).mono ?_
    rintro e w6 ⟨A6, N6, c6, rfl, ho, hb⟩
    rw [show ∀ xs, number xs t 6 = xs ++ beB t 6 from fun xs => rfl] at ho
    obtain rfl : N6 = 1 + r.id.length + 2 + 32 + 4 + 6 := by rw [← ho.len]; simp [beB_length, r.h32]; omega
    have HS6 := Lib.hid (HS5.out.fresh ho hb)
    clear ho hb h35 HS5
    have hk8 := HK8.out
    have hfa := fl_lt r.hold 1
    have hfb := fl_lt r.gone 2
    have HK := Lib.hid (u8_len r.copies.length (by omega))
    have hwr : IntKind.u8.wrap (r.copies.length : Int) = (r.copies.length : Int) := IntWalk.u8_in _ ⟨by omega, by omega⟩
    go_wp2_with fail
    go_region_held3 (fun w' => w'.cell? ⟨w.heap.size, 36, none⟩ = some (.bool r.hold) ∧ w'.cell? ⟨w.heap.size, 37, none⟩ = some (.bool r.gone) ∧ w'.cell? ⟨w.heap.size, 38, none⟩ = some (.slice C r.copies.length cap))
      (first
        | exact three HS6.out.blk
        | exact three (HS6.out.blk.alloc _)
        | exact three ((HS6.out.blk.alloc _).drew.grown hg7 (by rw [HS6.out.own.block]; exact Ne.symm HS6.out.ne)))
      (first
        | (go_at_call 56
           refine (flag1_any r.hold _).mono ?_
           rintro e w' ⟨rfl, rfl⟩)
        | (go_at_call 56
           refine (flag2_any r.gone _).mono ?_
           rintro e w' ⟨rfl, rfl⟩)
        | (refine step_append_bytes (by rfl) (.tmp 37) (.tmp 49) _ (by rfl) w.heap.size _ byteTy A6 (1 + r.id.length + 2 + 32 + 4 + 6) c6 _ (by rfl) (by exact (HS6.out.own.drew.alloc _)) _ 2 2 [flags r.hold r.gone, UInt8.ofNat r.copies.length] (by rfl)
             (by exact BAt.new _ _ _ _ (by show _ = #[Value.int .u8 (V8 _), Value.int .u8 (V8 _)]; rw [HK.out])) (by rfl) (1 + r.id.length + 2 + 32 + 4 + 6 + 2) rfl (by omega) (by have := HS6.out.below.size; simp; omega) ?_
           intro A7 c7 w7 ho7 hg7 hb7 hA7))
    have HS7 := Lib.hid ((HS6.out.alloc _).drew.step ho7 hg7 hb7 hA7)
    clear ho7 hg7 hb7 hA7 hwr hfa hfb
    obtain ⟨_, _, h38⟩ := three HS7.out.blk
    go_wp2
    go_loopw [4, 54] (fun b i wr => EncRel w r C cap b i wr) (fun _ i _ => r.copies.length - (intOf i).toNat)
    case atStart =>
      refine ⟨0, A7, _, c7, Nat.zero_le _, rfl, rfl, by omega, ?_⟩
      have := HS7.out
      simpa [R.front, headB, HL.out, HX.out, HT.out] using this
    case round =>
      obtain ⟨k, A, N, c, hk, rfl, rfl, hN, hS⟩ := hrel
      have HS := Lib.hid hS
      have hz := hS.blk.lt
      clear hS h38
      by_cases hlt : k < r.copies.length
      · obtain ⟨q, hq⟩ : ∃ q, r.copies[k]? = some q := ⟨_, List.getElem?_eq_getElem hlt⟩
        obtain ⟨hd0, hd1, hp0, hp1, hl0, hl1⟩ := (cpy_iff q).1 (HCP.out q (List.mem_of_getElem? hq))
        obtain ⟨ad, rfl, h0, h1, h2, h3⟩ := (HC.out.below HS.out.below) k q hq
        obtain ⟨dv, pos, ln, bd⟩ := q
        obtain ⟨dv, rfl⟩ := Int.eq_ofNat_of_zero_le hd0
        obtain ⟨pos, rfl⟩ := Int.eq_ofNat_of_zero_le hp0
        obtain ⟨ln, rfl⟩ := Int.eq_ofNat_of_zero_le hl0
        have HQ := Lib.hid hq
        dsimp only at hd0 hd1 hp0 hp1 hl0 hl1 h0 h1 h2 h3
        have hdv : dv ≤ 11 := by omega
        have hpos : pos ≤ 4095 := by omega
        have hln : ln ≤ 255 := by omega
        clear hq hd0 hd1 hp0 hp1 hl0 hl1
        have HP := Lib.hid (Blk.new wr 82 #[.int .i64 (dv : Int), .int .i64 (pos : Int), .int .i64 (ln : Int), .bool bd])
        have HNE := Lib.hid (own_ne HS.out.own)
        have hzz := HS.out.below.size
        have HDV := Lib.hid (u8_len dv (by omega))
        have HLN := Lib.hid (u8_len ln (by omega))
        have hwd : IntKind.u8.wrap (dv : Int) = (dv : Int) := IntWalk.u8_in _ ⟨by omega, by omega⟩
        have hwl : IntKind.u8.wrap (ln : Int) = (ln : Int) := IntWalk.u8_in _ ⟨by omega, by omega⟩
        have hwp : IntKind.u64.wrap (pos : Int) = (pos : Int) := IntWalk.u64_in _ ⟨by omega, by omega⟩
        have HB74 := Lib.hid (show (#[.int .u8 (ln : Int), .int .u8 (fl bd 1)] : Array Value) = cellsOf [UInt8.ofNat ln, if bd then 1 else 0] by unfold cellsOf B8 fl; simp [HLN.out])
        have HB62 := Lib.hid (show (#[.int .u8 (dv : Int)] : Array Value) = cellsOf [UInt8.ofNat dv] by unfold cellsOf B8; simp [HDV.out])
        have HSP := Lib.hid (HS.out.alloc (.cells #[.int .i64 (dv : Int), .int .i64 (pos : Int), .int .i64 (ln : Int), .bool bd] 82))
        go_wp2_with fail
        clear h0 h1 h2 h3
        go_region_held3 (fun w' => w'.cell? ⟨wr.heap.size, 0, none⟩ = some (.int .i64 (dv : Int)) ∧ w'.cell? ⟨wr.heap.size, 1, none⟩ = some (.int .i64 (pos : Int)) ∧ w'.cell? ⟨wr.heap.size, 2, none⟩ = some (.int .i64 (ln : Int)) ∧ w'.cell? ⟨wr.heap.size, 3, none⟩ = some (.bool bd))
          (first
            | exact four HPd.out
            | exact four HPb.out
            | exact four (HPb.out.alloc _)
            | exact four HPa.out
            | exact four (HPa.out.alloc _)
            | exact four HP.out.drew
            | exact four (HP.out.alloc _).drew
            | exact four ((HP.out.alloc _).alloc _).drew)
          (first
            | (go_at_call 56
               refine (flag1_any bd _).mono ?_
               rintro e w' ⟨rfl, rfl⟩)
            | (go_at_call 55
               (first
                 | (refine (number_any A1 _ _ c1 pos 2 x1 HSa.out.own.len (by omega) HSa.out.own.bat (by omega)).mono ?_
                    rintro e x2 ⟨A2', N2, c2', rfl, ho2, hb2⟩
                    rw [show ∀ xs, number xs pos 2 = xs ++ beB pos 2 from fun xs => rfl] at ho2
                    obtain rfl : N2 = N + 1 + 2 := by rw [← ho2.len, ← HS.out.own.len]; simp [beB_length]; omega
                    have HSb := Lib.hid (HSa.out.fresh ho2 hb2)
                    have HPb := Lib.hid (HPa.out.below_ hb2)
                    have HNb := Lib.hid (own_ne_lt ho2 HPa.out.lt)
                    try have HB2 := Lib.hid (HB1.out.below_ hb2))
                 | (refine (number_any A1 _ _ c1 pos 2 (x1.alloc _) HSa.out.own.len (by omega) (HSa.out.own.alloc _).bat (by omega)).mono ?_
                    rintro e x2 ⟨A2', N2, c2', rfl, ho2, hb2⟩
                    rw [show ∀ xs, number xs pos 2 = xs ++ beB pos 2 from fun xs => rfl] at ho2
                    obtain rfl : N2 = N + 1 + 2 := by rw [← ho2.len, ← HS.out.own.len]; simp [beB_length]; omega
                    have HSb := Lib.hid ((HSa.out.alloc _).fresh ho2 hb2)
                    have HPb := Lib.hid ((HPa.out.alloc _).below_ hb2)
                    have HNb := Lib.hid (own_ne_lt ho2 (HPa.out.alloc _).lt)
                    have HB2 := Lib.hid ((Blk.new x1 _ _).below_ hb2))))
            | (refine step_append_bytes (by rfl) (.tmp 58) (.tmp 62) _ (by rfl) w.heap.size _ byteTy A N c _ (by rfl) (by first | exact (HSP.out.alloc _).drew.own | exact ((HSP.out.alloc _).alloc _).drew.own) _ 1 1 [UInt8.ofNat dv] (by rfl)
                 (by first | exact bat_ad (by simp) HB62.out | exact bat_aad (by simp) HB62.out) (by rfl) (N + 1) rfl (by omega) (by simp; omega) ?_
               intro A1 c1 x1 ho1 hg1 hb1 hA1
               (first
                 | (have HSa := Lib.hid ((HSP.out.alloc _).drew.step ho1 hg1 hb1 hA1)
                    have HPa := Lib.hid (keepBlk (HP.out.alloc _).drew HNE.out ((Ext.refl _ A).step hg1 hA1)).1)
                 | (have HSa := Lib.hid (((HSP.out.alloc _).alloc _).drew.step ho1 hg1 hb1 hA1)
                    have HPa := Lib.hid (keepBlk ((HP.out.alloc _).alloc _).drew HNE.out ((Ext.refl _ A).step hg1 hA1)).1
                    (first
                      | have HB1 : Hid (Blk x1 (wr.heap.size + 1 + 1) 5 #[.int .u8 (ln : Int), .int .u8 (fl bd 1)]) := Lib.hid (keepBlk (Blk.new_at _ _ (by simp) _ _).drew (own_ne_ge HS.out.own (by omega)) ((Ext.refl _ A).step hg1 hA1)).1
                      | have HB1 : Hid (Blk x1 (wr.heap.size + 1) 5 #[.int .u8 (ln : Int), .int .u8 (fl bd 1)]) := Lib.hid (keepBlk ((Blk.new_at _ _ (by simp) _ _).alloc _).drew (own_ne_ge HS.out.own (by omega)) ((Ext.refl _ A).step hg1 hA1)).1))))
            | (refine step_append_bytes (by rfl) (.tmp 67) (.tmp 74) _ (by rfl) w.heap.size _ byteTy A2' _ c2' _ (by rfl) (by first | exact HSb.out.own | exact HSb.out.own.alloc _) _ 2 2 [UInt8.ofNat ln, if bd then 1 else 0] (by rfl)
                 (by first | exact blk_bat HB2.out HB74.out | exact BAt.new_at _ _ _ _ _ (by simp) HB74.out) (by rfl) (N + 1 + 2 + 2) (by omega) (by omega) (by have := HSb.out.below.size; first | omega | (simp; omega)) ?_
               intro A4 c4 x4 ho4 hg4 hb4 hA4
               (first
                 | (have HSd := Lib.hid (HSb.out.step ho4 hg4 hb4 hA4)
                    have HPd := Lib.hid (keepBlk HPb.out HNb.out ((Ext.refl _ A2').step hg4 hA4)).1)
                 | (have HSd := Lib.hid ((HSb.out.alloc _).step ho4 hg4 hb4 hA4)
                    have HPd := Lib.hid (keepBlk (HPb.out.alloc _) HNb.out ((Ext.refl _ A2').step hg4 hA4)).1))))
        all_goals
          clear ho1 hg1 hb1 hA1 ho2 hb2 ho4 hg4 hb4 hA4 hwd hwl hwp
          go_wp2
          go_roundw
          case rel => exact ⟨k + 1, A4, _, c4, hlt, by go_num, rfl, by omega, by rw [enc_step r k _ HQ.out]; simpa [beB] using HSd.out⟩
          case measure => simp [intOf]; omega
      · obtain rfl : k = r.copies.length := by omega
        go_wp2
        go_ret2
        exact ⟨HS.out.below, .inr ⟨_, _, _, _, enc_all r HMAY.out, rfl, HS.out.own⟩⟩
end Go.Proofs.Ytomncfiklkhfjaa.Rec
