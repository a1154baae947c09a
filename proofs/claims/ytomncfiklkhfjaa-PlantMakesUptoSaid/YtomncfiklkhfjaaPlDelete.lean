/- 'slices.DeleteFunc' with the closure of 'Flush': what was flushed is taken out of what waits. -/
import Derived.Test.YtomncfiklkhfjaaPlIndex
import Derived.Test.YtomncfiklkhfjaaClear
namespace Go.Proofs.Ytomncfiklkhfjaa.Pl
open Go Go.RowKit Mem
/-- All blocks of cells but the devices' and what waits are as they were. -/
def Kept2 (w w' : World) : Prop := ∀ (g : Nat) (cs : Array Value) (t : TypeId) (fz : Nat × Nat), t ≠ 97 → t ≠ 104 → w.heap[g]? = some (Obj.cells cs t fz) → w'.heap[g]? = some (Obj.cells cs t fz)
theorem Kept2.of (w w' : World) (h : CellsKept w w') : Kept2 w w' := fun g cs t fz h1 _ hg => h g cs t fz h1 hg
theorem Kept2.trans {w w1 w2 : World} (h : Kept2 w w1) (k : Kept2 w1 w2) : Kept2 w w2 := fun g cs t fz h1 h2 hg => k g cs t fz h1 h2 (h g cs t fz h1 h2 hg)
theorem Kept2.store {w w' : World} {g : Nat} {cs : Array Value} (hb : Blk w g 104 cs) (hg : w.grownBy w' (some g)) : Kept2 w w' := fun q cs' t fz h1 h2 hq => (hg.block q (Array.getElem?_eq_some_iff.1 hq).1 (by
  intro e
  injection e with e
  subst e
  unfold Blk at hb
  rw [hb] at hq
  injection hq with hq
  injection hq with _ hq
  exact h2 hq.symm)).trans hq
theorem Kept2.vec {w w' : World} (h : Kept2 w w') {F : Nat → Prop} {t : TypeId} {size n : Nat} {v : Value} {xs : List Value} (hb : Vec w F t size v n xs) (h1 : t ≠ 97) (h2 : t ≠ 104) : Vec w' F t size v n xs := hb.heap fun g cs hg => h g cs t _ h1 h2 hg
theorem Ctx.store {w w' : World} {F : Nat → Prop} {a b1 b2 : Nat} {pc : List Value} {V : Value} {j : Nat} {wc : Nat → Nat} {ds : List Dev} (h : Ctx w F a b1 b2 pc V j wc ds) {g : Nat} {cs : Array Value} (hb : Blk w g 104 cs) (hg : w.grownBy w' (some g)) : Ctx w' F a b1 b2 pc V j wc ds := by
  have hne : ∀ q t (cs' : Array Value), Blk w q t cs' → t ≠ 104 → some q ≠ some g := fun q t cs' hq ht e => by
    injection e with e
    subst e
    exact absurd (hq.ne_ hb ht) (by simp)
  refine ⟨h.b1.grown hg (hne _ _ _ h.b1 (by decide)), h.b2.grown hg (hne _ _ _ h.b2 (by decide)), h.pl.grown hg (hne _ _ _ h.pl (by decide)), h.v2, h.devs.heap (fun q cs' hq => ?_) (fun q es c hq => ?_)⟩
  · exact (hg.block q (Array.getElem?_eq_some_iff.1 hq).1 (hne q _ cs' hq (by decide))).trans hq
  · refine (hg.block q (Array.getElem?_eq_some_iff.1 hq).1 ?_).trans hq
    intro e
    injection e with e
    subst e
    unfold Blk at hb
    rw [hb] at hq
    cases hq
def flt (j : Nat) (ws : List Wr) : List Wr := ws.filter fun x => !(x.dev == j)
def hit (j : Nat) (ws : List Wr) : List Wr := ws.filter fun x => x.dev == j
theorem take_snoc {α : Type} {ws : List α} {k : Nat} {x : α} (hx : ws[k]? = some x) : ws.take (k + 1) = ws.take k ++ [x] := by
  obtain ⟨hk, e⟩ := List.getElem?_eq_some_iff.1 hx
  rw [List.take_succ_eq_append_getElem hk, e]
theorem drop_cons {α : Type} {ws : List α} {k : Nat} {x : α} (hx : ws[k]? = some x) : ws.drop k = x :: ws.drop (k + 1) := by
  obtain ⟨hk, e⟩ := List.getElem?_eq_some_iff.1 hx
  rw [List.drop_eq_getElem_cons hk, e]
theorem rows_len (ws : List Wr) (h : ∀ x ∈ ws, x.b.length = 64) : (ws.map wrRow).flatten.length = ws.length * 66 := by
  rw [flat_len (size := 66) _ (fun r hr => by
    obtain ⟨y, hy, rfl⟩ := List.mem_map.1 hr
    exact wrRow_len y (h y hy)), List.length_map]
theorem mid_get {α : Type} (A B R C T : List α) (o : Nat) (ho : A.length + B.length = o) : ∀ jj u, R[jj]? = some u → (A ++ B ++ (R ++ C) ++ T)[o + jj]? = some u := fun jj u hu => by
  have hj : jj < R.length := (List.getElem?_eq_some_iff.1 hu).1
  rw [List.append_assoc (A ++ B), List.getElem?_append_right (by simp; omega), List.append_assoc R, List.getElem?_append_left (by simp; omega), show o + jj - (A ++ B).length = jj by simp; omega]
  exact hu
theorem store_shift {α : Type} (K mid R C T : List α) (o s : Nat) (hK : K.length = o) (hR : R.length = s) : (K ++ mid ++ (R ++ C) ++ T).take o ++ R ++ (K ++ mid ++ (R ++ C) ++ T).drop (o + s) = K ++ R ++ (mid ++ R).drop s ++ C ++ T := by
  subst hK hR
  have e1 : (K ++ mid ++ (R ++ C) ++ T).take K.length = K := by simp [List.append_assoc]
  have e2 : (K ++ mid ++ (R ++ C) ++ T).drop (K.length + R.length) = (mid ++ R).drop R.length ++ C ++ T := by
    rw [← List.drop_drop]
    have : (K ++ mid ++ (R ++ C) ++ T).drop K.length = (mid ++ R) ++ (C ++ T) := by simp [List.append_assoc]
    rw [this, List.drop_append_of_le_length (by simp)]
    simp [List.append_assoc]
  rw [e1, e2]
  simp [List.append_assoc]
/-- What holds at the head of a round: the block has what is kept so far, what is of no use, what is still to be looked at, and room. -/
def DelR (w : World) (F : Nat → Prop) (a b1 b2 : Nat) (pc : List Value) (V : Value) (j : Nat) (wc : Nat → Nat) (ds : List Dev) (ws : List Wr) (gw : Nat) (tl : List Value) (iv jv : Value) (wr : World) : Prop :=
  ∃ (q : Nat) (mid : List Value), q ≤ ws.length ∧ (flt j (ws.take q)).length < q ∧ iv = .int .i64 ((flt j (ws.take q)).length : Int) ∧ jv = .int .i64 (q : Int) ∧ mid.length = (q - (flt j (ws.take q)).length) * 66 ∧
    Blk wr gw 104 (((flt j (ws.take q)).map wrRow).flatten ++ mid ++ ((ws.drop q).map wrRow).flatten ++ tl).toArray ∧
    Ctx wr F a b1 b2 pc V j wc ((hit j (ws.take q)).foldl settle ds) ∧ Kept2 w wr ∧ Mods w.heap.size F w wr
set_option maxRecDepth 100000 in
set_option maxHeartbeats 4000000 in
theorem delete_any {w : World} {F : Nat → Prop} {a b1 b2 : Nat} {pc : List Value} {V v : Value} {j : Nat} {wc : Nat → Nat} {ds : List Dev} {ws : List Wr} (h : Ctx w F a b1 b2 pc V j wc ds) (hw : WaitsAt w F v ws) (h64 : ∀ x ∈ ws, x.b.length = 64)
    (hs : ∀ (k : Nat) (x : Wr), ws[k]? = some x → x.dev = j → MaySet ((hit j (ws.take k)).foldl settle ds) x) (hl : ws.length ≤ 1000000000) :
    Calls Try.prog 68 #[v, clo b1 b2] w fun e w' =>
      ∃ v', e = .returned v' ∧ WaitsAt w' F v' (flt j ws) ∧ Ctx w' F a b1 b2 pc V j wc ((hit j ws).foldl settle ds) ∧ Kept2 w w' ∧ Mods w.heap.size F w w' := by
  have H := Lib.hid h
  have HW := Lib.hid hw
  have H64 := Lib.hid h64
  have HS := Lib.hid hs
  obtain ⟨A, cap, rfl⟩ := Vec.shape hw
  have hl' : (ws.length : Int) ≤ 9223372036854775806 := by omega
  have hidx := index_any h hw h64 (fun k x hx hj hno => by
    have := hs k x hx hj
    rw [show hit j (ws.take k) = [] from List.filter_eq_nil_iff.2 fun y hy => by simpa using hno y hy] at this
    exact this) hl
  unfold clo at hidx ⊢
  clear h hw h64 hs
  go_enter Try.func68, Try.ntmps68
  go_wp2_with fail
  refine hidx.mono ?_
  clear hidx
  rintro e w1 ⟨⟨hno, rfl, hc1⟩ | ⟨k, x, hx, hxj, hno, rfl, hc1⟩, hk1, hm1⟩
  · have HNO := Lib.hid hno
    have HC1 := Lib.hid hc1
    have HK1 := Lib.hid hk1
    have HM1 := Lib.hid hm1
    clear hno hc1 hk1 hm1
    go_wp2_with fail
    go_ret
    refine ⟨_, rfl, ?_, ?_, Kept2.of _ _ HK1.out, HM1.out⟩
    · rw [show flt j ws = ws from List.filter_eq_self.2 fun y hy => by simpa using HNO.out y hy]
      exact HK1.out.vec HW.out (by decide)
    · rw [show hit j ws = [] from List.filter_eq_nil_iff.2 fun y hy => by simpa using HNO.out y hy]
      exact HC1.out
  · have hkl : k < ws.length := (List.getElem?_eq_some_iff.1 hx).1
    have hw1 : WaitsAt w1 F (.slice A ws.length cap) ws := hk1.vec HW.out (by decide)
    obtain ⟨gw, cap2, cur, hv, hFg, hcur, hncap, hcm, hcsz, htk⟩ := Vec.form hw1 (by omega)
    injection hv with hA _ hcp
    subst hA
    subst hcp
    have hb1 : Blk w1 gw 104 cur.toList.toArray := hcur
    have ht1 : flt j (ws.take (k + 1)) = ws.take k := by
      rw [take_snoc hx]
      unfold flt
      rw [List.filter_append, List.filter_eq_self.2 fun y hy => by simpa using hno y hy]
      simp [hxj]
    have hh1 : hit j (ws.take (k + 1)) = [x] := by
      rw [take_snoc hx]
      unfold hit
      rw [List.filter_append, List.filter_eq_nil_iff.2 fun y hy => by simpa using hno y hy]
      simp [hxj]
    have hlk : (ws.take k).length = k := by simp; omega
    have hsplit : cur.toList = ((flt j (ws.take (k + 1))).map wrRow).flatten ++ wrRow x ++ ((ws.drop (k + 1)).map wrRow).flatten ++ cur.toList.drop (ws.length * 66) := by
      rw [ht1]
      have e1 : ((ws.take k).map wrRow).flatten ++ wrRow x ++ ((ws.drop (k + 1)).map wrRow).flatten = (ws.map wrRow).flatten := by
        conv => rhs; rw [← List.take_append_drop k ws, drop_cons hx]
        simp
      rw [e1, ← htk, List.take_append_drop]
    have hstart : DelR w F a b1 b2 pc V j wc ds ws gw (cur.toList.drop (ws.length * 66)) (.int .i64 (k : Int)) (.int .i64 ((k + 1 : Nat) : Int)) w1 := by
      refine ⟨k + 1, wrRow x, hkl, by rw [ht1, hlk]; omega, by rw [ht1, hlk], rfl, ?_, ?_, ?_, Kept2.of _ _ hk1, hm1⟩
      · rw [ht1, hlk, wrRow_len x (H64.out x (List.mem_of_getElem? hx))]
        omega
      · rw [← hsplit]
        exact hb1
      · rw [hh1]
        exact hc1
    have HST := Lib.hid hstart
    have htl : (cur.toList.drop (ws.length * 66)).length = (cap - ws.length) * 66 := by
      rw [List.length_drop, Array.length_toList, hcsz, Nat.sub_mul]
    have HTL := Lib.hid htl
    generalize cur.toList.drop (ws.length * 66) = tl at HST HTL
    clear hno hc1 hk1 hm1 hw1 hcur hcsz htk hb1 ht1 hh1 hlk hsplit hstart htl hx hxj
    have hkm : ((k : Int) == -1) = false := by
      rw [beq_eq_false_iff_ne]
      omega
    go_wp2_with fail
    go_loopw [5, 6] (fun iv jv wr => DelR w F a b1 b2 pc V j wc ds ws gw tl iv jv wr) (fun _ jv _ => ws.length - (intOf jv).toNat)
    case atStart => exact HST.out
    case round =>
      obtain ⟨q, mid, hq, hiq, rfl, rfl, hmid, hblk, hctx, hkp, hmo⟩ := hrel
      have hfl : ∀ y ∈ flt j (ws.take q), y.b.length = 64 := fun y hy => H64.out y (List.mem_of_mem_take (List.mem_filter.1 hy).1)
      have hKl := rows_len _ hfl
      have HBLK := Lib.hid hblk
      have HCTX := Lib.hid hctx
      have HKP := Lib.hid hkp
      have HMO := Lib.hid hmo
      have HMID := Lib.hid hmid
      have HKL := Lib.hid hKl
      obtain ⟨i, hi⟩ : ∃ i, (flt j (ws.take q)).length = i := ⟨_, rfl⟩
      have HI := Lib.hid hi
      rw [hi] at hiq ⊢
      clear hblk hctx hkp hmo hmid hKl hi hfl
      by_cases hlt : q < ws.length
      · obtain ⟨x, hx⟩ : ∃ x, ws[q]? = some x := ⟨_, List.getElem?_eq_getElem hlt⟩
        have HX64 := Lib.hid (H64.out x (List.mem_of_getElem? hx))
        have HDC := Lib.hid (drop_cons hx)
        have hb2 := HBLK.out
        rw [HDC.out, List.map_cons, List.flatten_cons] at hb2
        have HB2 := Lib.hid hb2
        have HRG := Lib.hid (blk_range hb2 (q * 66) (wrRow x) (mid_get _ _ _ _ _ _ (by rw [HKL.out, HMID.out, HI.out, ← Nat.add_mul]; congr 1; omega)))
        have HX := Lib.hid hx
        clear hx hb2
        go_wp2_with
          (refine wpList_load_mid rfl 104 (.tmp 24) rfl gw (q * 66) rfl (wrRow x) _ HRG.out Try.underlying104 rfl (by rw [wrRow_len _ HX64.out]; kernel_rfl) ?_
           go_wp2_with
             (refine wpList_store_all rfl 104 (.tmp 7) (.tmp 25) rfl wr.heap.size 104 Try.zeroCells104.toList (wrRow x) rfl rfl (Blk.new wr _ _) (by rw [wrRow_len _ HX64.out]; kernel_rfl) (by rw [wrRow_len _ HX64.out]; kernel_rfl) (wrRow_one _) ?_
              intro w3 hb3 hg3 hz3
              have HX3 := Lib.hid hb3
              have HW3 : Hid (Below wr.heap.size wr w3) := Lib.hid ((below_al' (.cells Try.zeroCells104 104)).grown hg3 (by simp) (fun q hq => by injection hq with hq; omega))
              clear hb3 hg3 hz3
              go_wp2_with
                (refine wpList_load_mid rfl 104 (.tmp 7) rfl wr.heap.size 0 rfl (wrRow x) _ (blk_range HX3.out 0 _ (fun q v hv => by rw [Nat.zero_add]; exact hv)) Try.underlying104 rfl (by rw [wrRow_len _ HX64.out]; kernel_rfl) ?_
                 go_wp2_with fail)))
        have hc3 := HCTX.out.kept (CellsKept.below HW3.out) (HCTX.out.devs.mods (Mods.of_below (F := fun _ => False) HW3.out) fun q hq _ => ⟨hq, fun x => x⟩)
        refine (closure_any hc3 x HX64.out (fun e => HS.out q x HX.out e)).mono ?_
        clear hc3
        rintro e w4 ⟨rfl, hc4, hk4, hm4⟩
        have HK4 := Lib.hid (HKP.out.trans (Kept2.of _ _ ((CellsKept.below HW3.out).trans hk4)))
        have HM4 := Lib.hid ((HMO.out.then_below HW3.out HMO.out.size).trans (hm4.mono (Nat.le_trans HMO.out.size HW3.out.size) fun _ _ h => h))
        have HX4 := Lib.hid (hk4.blk HX3.out (by decide))
        have HB4 := Lib.hid (hk4.blk (HB2.out.below_ HW3.out) (by decide))
        have HC4 := Lib.hid hc4
        have HTS := Lib.hid (take_snoc HX.out)
        clear hc4 hk4 hm4 HB2 HRG HBLK HCTX HKP HMO HX3 HW3
        by_cases hj : x.dev = j
        · have hqq : (x.dev == j) = true := by simpa using hj
          have hc5 := HC4.out
          rw [if_pos hj] at hc5
          have HC5 := Lib.hid hc5
          have HF : Hid (flt j (ws.take (q + 1)) = flt j (ws.take q)) := Lib.hid (by rw [HTS.out]; unfold flt; rw [List.filter_append]; simp [hj])
          have HH : Hid (hit j (ws.take (q + 1)) = hit j (ws.take q) ++ [x]) := Lib.hid (by rw [HTS.out]; unfold hit; rw [List.filter_append]; simp [hj])
          rw [hqq]
          clear hj hc5 hqq
          go_wp2_with fail
          go_roundw
          case rel =>
            refine ⟨q + 1, mid ++ wrRow x, hlt, by rw [HF.out, HI.out]; omega, by rw [HF.out, HI.out], by go_num, ?_, ?_, ?_, HK4.out, HM4.out⟩
            · rw [HF.out, HI.out, List.length_append, HMID.out, HI.out, wrRow_len x HX64.out, show q + 1 - i = q - i + 1 by omega, Nat.add_mul]
            · rw [HF.out]
              have := HB4.out
              simpa [List.append_assoc] using this
            · rw [HH.out, List.foldl_append]
              exact HC5.out
          case measure => simp [intOf]; omega
        · have hqq : (x.dev == j) = false := by simpa using hj
          have hc5 := HC4.out
          rw [if_neg hj] at hc5
          have HC5 := Lib.hid hc5
          have HF : Hid (flt j (ws.take (q + 1)) = flt j (ws.take q) ++ [x]) := Lib.hid (by rw [HTS.out]; unfold flt; rw [List.filter_append]; simp [hj])
          have HH : Hid (hit j (ws.take (q + 1)) = hit j (ws.take q)) := Lib.hid (by rw [HTS.out]; unfold hit; rw [List.filter_append]; simp [hj])
          rw [hqq]
          clear hj hc5 hqq
          go_wp2_with
            (refine wpList_load_mid rfl 104 (.tmp 7) rfl wr.heap.size 0 rfl (wrRow x) _ (blk_range HX4.out 0 _ (fun q v hv => by rw [Nat.zero_add]; exact hv)) Try.underlying104 rfl (by rw [wrRow_len _ HX64.out]; kernel_rfl) ?_
             go_wp2_with
               (refine wpList_store_in rfl 104 (.tmp 33) (.tmp 32) rfl gw (i * 66) 104 _ (wrRow x) rfl rfl HB4.out ?c1 (by rw [wrRow_len _ HX64.out]; kernel_rfl) (wrRow_one _) ?_
                case c1 => simp only [List.length_append, HKL.out, HMID.out, HI.out, wrRow_len x HX64.out]; omega
                intro w5 hb5 hg5 hz5
                have HB5 := Lib.hid hb5
                have HG5 := Lib.hid hg5
                clear hb5 hg5 hz5))
          go_roundw
          case rel =>
            refine ⟨q + 1, (mid ++ wrRow x).drop 66, hlt, by rw [HF.out, List.length_append, HI.out]; simp; omega, by rw [HF.out, List.length_append, HI.out]; go_num, by go_num, ?_, ?_, ?_, HK4.out.trans (Kept2.store HB4.out HG5.out), HM4.out.grown HG5.out HM4.out.size (fun g hg => by injection hg with hg; subst hg; exact .inl hFg)⟩
            · rw [HF.out, List.length_append, HI.out, List.length_drop, List.length_append, HMID.out, HI.out, wrRow_len x HX64.out, List.length_singleton]
              omega
            · rw [HF.out]
              have hb := HB5.out
              rw [wrRow_len x HX64.out, store_shift _ _ _ _ _ _ _ (by rw [HKL.out, HI.out]) (wrRow_len x HX64.out)] at hb
              simpa [List.append_assoc] using hb
            · rw [HH.out]
              exact HC5.out.store HB4.out HG5.out
          case measure => simp [intOf]; omega
      · obtain rfl : q = ws.length := by omega
        have hb2 := HBLK.out
        rw [List.take_length, List.drop_length, List.map_nil, List.flatten_nil, List.append_nil] at hb2
        have HB2 := Lib.hid hb2
        have hi2 := HI.out
        have hkl2 := HKL.out
        have hmid2 := HMID.out
        have hc2 := HCTX.out
        rw [List.take_length] at hi2 hkl2 hmid2 hc2
        rw [hi2] at hkl2 hmid2
        have HI2 := Lib.hid hi2
        have HKL2 := Lib.hid hkl2
        have HMID2 := Lib.hid hmid2
        have HC2 := Lib.hid hc2
        have hne : ¬ cap = i := by omega
        have hlei : (i : Int) ≤ (ws.length : Int) := by omega
        have hleic : (i : Int) ≤ (cap : Int) := by omega
        have h0i : 0 < ws.length - i := by omega
        clear hb2 hi2 hkl2 hmid2 hc2 HBLK HI HKL HMID HCTX
        go_wp2_with
          (refine wpList_clear_in rfl (.tmp 38) 91 rfl wrTy (wrRow_one ⟨0, 0, zeros⟩ |> fun h v hv => h v (by simpa using hv)) gw (i * 66) (ws.length - i) (cap - i) 104 _ rfl h0i HB2.out ?c1 ?_
           case c1 => simp only [List.length_append, HKL2.out, HMID2.out, HTL.out]; omega
           intro w5 hb5 hg5 hz5
           have HB5 := Lib.hid hb5
           have HG5 := Lib.hid hg5
           clear hb5 hg5 hz5)
        go_ret
        refine ⟨.slice (some ⟨gw, 0, none⟩) i cap, rfl, ?_, HC2.out.store HB2.out HG5.out, HKP.out.trans (Kept2.store HB2.out HG5.out), HMO.out.grown HG5.out HMO.out.size (fun g hg => by injection hg with hg; subst hg; exact .inl hFg)⟩
        have hlen : (((flt j ws).map wrRow).flatten ++ mid ++ tl).length = cap * 66 := by simp only [List.length_append, HKL2.out, HMID2.out, HTL.out]; omega
        refine ⟨some ⟨gw, 0, none⟩, cap, by rw [HI2.out], by rw [HKL2.out, HI2.out], .inr ⟨gw, _, rfl, hFg, HB5.out, by rw [HI2.out]; omega, hcm, ?_, ?_⟩⟩
        · have hz := zeroCells_len (Value.cells (.agg (wrRow ⟨0, 0, zeros⟩).toArray)) (ws.length - i)
          rw [wrTy.hz] at hz
          simp only [List.size_toArray, List.length_append, List.length_take, List.length_drop, hz, HKL2.out, HMID2.out, HTL.out]
          omega
        · rw [HI2.out]
          simp only [List.append_assoc]
          rw [List.take_append_of_le_length (by rw [List.length_take]; simp only [List.length_append, HKL2.out]; omega), List.take_take, Nat.min_self, ← HKL2.out, List.take_left']
          rfl
end Go.Proofs.Ytomncfiklkhfjaa.Pl
