/- 'settle': a write lasts. -/
import Derived.Test.YtomncfiklkhfjaaPlRead
namespace Go.Proofs.Ytomncfiklkhfjaa.Pl
open Go Go.RowKit Mem
section
variable {w : World} {ops : Array Oper} {rest : List Oper} {o : Oper} {a : Act} {Q : Exit → Act → World → Prop}
/-- 'm[k] = b' at a map of sectors. -/
theorem wpList_put_sec (hg : o.guard = none) (m x v : Operand) (hop : o.op = .mapUpdate 95 m x v) (b : Nat) (f : Nat → List UInt8) (k : Nat) (bs : List UInt8)
    (hm : a.eval m = .map (some b)) (hx : a.eval x = .int .i64 (k : Int)) (hv : a.eval v = .agg (bs.map B8).toArray) (h : SecMap w b f) (hk : k < 4096) (hb : bs.length = 64)
    (hK : ∀ w', SecMap w' b (fun j => if j = k then bs else f j) → w.grownBy w' (some b) → wpList Try.prog ops Q rest (a.put o.dst undef) w') : wpList Try.prog ops Q (o :: rest) a w := by
  refine wpList_plain hg fun K' hK' => ?_
  obtain ⟨w', hrun, r1, r2⟩ := h.run_update hk hb
  rw [show (Value.agg (cellsOf bs)) = .agg (bs.map B8).toArray from rfl] at hrun
  unfold Oper.wp
  simp [execOp, hop, hm, hx, hv, hrun, Result.andThen]
  exact hK' _ _ (hK w' r1 r2)
end
/-- All blocks of cells but the devices' are as they were. -/
def CellsKept (w w' : World) : Prop := ∀ (g : Nat) (cs : Array Value) (t : TypeId) (fz : Nat × Nat), t ≠ 97 → w.heap[g]? = some (Obj.cells cs t fz) → w'.heap[g]? = some (Obj.cells cs t fz)
theorem CellsKept.refl (w : World) : CellsKept w w := fun _ _ _ _ _ h => h
theorem CellsKept.trans {w w1 w2 : World} (h : CellsKept w w1) (k : CellsKept w1 w2) : CellsKept w w2 := fun g cs t fz ht hg => k g cs t fz ht (h g cs t fz ht hg)
theorem CellsKept.below {w w' : World} (h : Below w.heap.size w w') : CellsKept w w' := fun g cs t fz _ hg => (h.block g (Array.getElem?_eq_some_iff.1 hg).1).trans hg
theorem CellsKept.blk {w w' : World} (h : CellsKept w w') {g : Nat} {t : TypeId} {cs : Array Value} (hb : Blk w g t cs) (ht : t ≠ 97) : Blk w' g t cs := h g cs t _ ht hb
theorem CellsKept.vec {w w' : World} (h : CellsKept w w') {F : Nat → Prop} {t : TypeId} {size n : Nat} {v : Value} {xs : List Value} (hb : Vec w F t size v n xs) (ht : t ≠ 97) : Vec w' F t size v n xs := hb.heap fun g cs hg => h g cs t _ ht hg
theorem CellsKept.map {w w' : World} {m : Nat} {es : Array MapEntry} {c : Nat} (hm : w.heap[m]? = some (.map es c)) (hg : w.grownBy w' (some m)) : CellsKept w w' := fun g cs t fz _ hh => (hg.block g (Array.getElem?_eq_some_iff.1 hh).1 (by
  intro e
  injection e with e
  subst e
  rw [hm] at hh
  cases hh)).trans hh
theorem CellsKept.set {w : World} {p : Addr} {cs : Array Value} {fz : Nat × Nat} (hp : w.heap[p.block]? = some (.cells cs 97 fz)) (v : Value) : CellsKept w (w.setCell p v) := fun g cs' t fz' ht hg => (Below.heap_setCell w p v g (by
  rintro rfl
  rw [hp] at hg
  injection hg with hg
  injection hg with _ hg
  exact ht hg.symm)).trans hg
theorem Dev.settle_at (d : Dev) (k : Nat) (b : List UInt8) (h : if d.tape then k = d.has.length else k < d.has.length) : (d.settle k b).at_ = fun j => if j = k then b else d.at_ j := by
  funext j
  unfold Dev.settle Dev.at_
  cases ht : d.tape with
  | true =>
    rw [ht] at h
    simp only [if_true] at h ⊢
    subst h
    by_cases hj : j = d.has.length
    · subst hj
      simp
    · rw [if_neg hj]
      rcases Nat.lt_or_ge j d.has.length with h' | h'
      · rw [List.getD_eq_getElem?_getD, List.getD_eq_getElem?_getD, List.getElem?_append_left h']
      · rw [List.getD_eq_getElem?_getD, List.getD_eq_getElem?_getD, List.getElem?_eq_none (by simp; omega), List.getElem?_eq_none h']
  | false =>
    rw [ht] at h
    simp only [Bool.false_eq_true, if_false] at h ⊢
    by_cases hj : j = k
    · subst hj
      simp [h]
    · rw [if_neg hj]
      simp [List.getElem?_set_ne (Ne.symm hj)]
theorem settle_get (ds : List Dev) (x : Wr) {d : Dev} (hd : ds[x.dev]? = some d) : settle ds x = ds.set x.dev (d.settle x.place x.b) := by
  unfold settle
  refine List.ext_getElem? fun i => ?_
  rw [List.getElem?_modify, List.getElem?_set]
  by_cases hi : x.dev = i
  · subst hi
    obtain ⟨hlt, e⟩ := List.getElem?_eq_some_iff.1 hd
    simp [hlt, e]
  · simp [hi]
set_option maxRecDepth 100000 in
set_option maxHeartbeats 4000000 in
theorem settle_any {w : World} {F : Nat → Prop} {a : Nat} {V : Value} {ds : List Dev} {wc : Nat → Nat} (hV : w.cell? ⟨a, 2, none⟩ = some V) (h : DevsAt w F V ds wc) (x : Wr) {d : Dev} (hd : ds[x.dev]? = some d) (h64 : x.b.length = 64) (hpl : x.place < 4096)
    (hat : if d.tape then x.place = d.has.length else x.place < d.has.length) (hm : d.has.length ≤ 4096) :
    Calls Try.prog 70 #[.pointer (some ⟨a, 0, none⟩), .agg (wrRow x).toArray] w fun e w' => e = .returned (.tuple #[]) ∧ DevsAt w' F V (settle ds x) wc ∧ CellsKept w w' ∧ Mods w.heap.size F w w' := by
  have hj : x.dev < ds.length := (List.getElem?_eq_some_iff.1 hd).1
  obtain ⟨g, cap, rfl⟩ := h.form (by omega)
  have HH := Lib.hid h
  obtain ⟨ms, h1, h2, h3, h4⟩ := h
  have hmj : ms[x.dev]? = some ms[x.dev] := List.getElem?_eq_getElem (by omega)
  generalize ms[x.dev] = m at hmj
  obtain ⟨hsec, hFm⟩ := h4 x.dev d m hd hmj
  have hr := devRows_get wc 0 ds ms x.dev d _ hd hmj
  rw [Nat.zero_add] at hr
  have hc := fun (k : Nat) (u : Value) (hk : k < 5) (hu : (devRow d m (wc x.dev))[k]? = some u) => h1.at_ (k := x.dev * 5 + k) (u := u) (by rw [flat_get _ (devRows_five wc 0 ds ms) x.dev k _ hr hk, hu])
  obtain ⟨hFg, cur, hgb⟩ := HH.out.blockF (by omega)
  have HD := Lib.hid hd
  have HX := Lib.hid (Blk.new w 104 (wrRow x).toArray)
  have hx0 := (HX.out.cell 0).trans (show _ = some (.int .i64 (x.dev : Int)) from rfl)
  have hx1 := (HX.out.cell 1).trans (show _ = some (.int .i64 (x.place : Int)) from rfl)
  have k0 := hc 0 _ (by omega) rfl
  have k2 := hc 2 _ (by omega) rfl
  have hga := Array.getElem?_eq_some_iff.1 hgb |>.1
  have hVa := cell_lt hV
  have HMS := Lib.hid h1
  have HM2 := Lib.hid h2
  have HM3 := Lib.hid h3
  have HM4 := Lib.hid h4
  have HMJ := Lib.hid hmj
  have HAT := Lib.hid hat
  have HGB := Lib.hid hgb
  have hj' : (x.dev : Int) < (ds.length : Int) := by omega
  have HSEC := Lib.hid hsec
  have HC := Lib.hid hc
  clear h1 h2 h3 h4 hmj hat hgb hd hsec hc hr
  simp only [Nat.add_zero] at k0
  go_enter Try.func70, Try.ntmps70
  go_wp2_with fail
  refine Ord.region_ord [] [0, 1, 2, 3, 4, 5, 6, 7] (by kernel_rfl) (by kernel_rfl) (by kernel_rfl) (by kernel_rfl) (Ord.ord_all [_, _, _, _, _, _, _, _] rfl (by kernel_rfl) ?_)
  go_wp2_with fail
  refine Ord.nx_end ?_
  go_wp2_with fail
  refine Ord.region_ord [] [0, 1, 2, 3, 4, 5, 6, 7, 8] (by kernel_rfl) (by kernel_rfl) (by kernel_rfl) (by kernel_rfl) (Ord.ord_all [_, _, _, _, _, _, _, _, _] rfl (by kernel_rfl) ?_)
  go_wp2_with
    (refine wpList_load_mid rfl 102 (.tmp 18) rfl w.heap.size 2 rfl (x.b.map B8) _ (blk_range HX.out 2 _ (fun j v hv => by rw [Nat.add_comm]; exact hv)) secTy rfl (by rw [List.length_map, h64]; kernel_rfl) ?_
     refine wpList_put_sec rfl (.tmp 15) (.tmp 17) (.tmp 19) rfl m d.at_ x.place x.b rfl rfl rfl (HSEC.out.heap (Below.heap_alloc w _ m HSEC.out.lt)) hpl h64 ?_
     intro w2 hs2 hg2
     have HS2 := Lib.hid hs2
     have HG2 := Lib.hid hg2
     clear hs2 hg2)
  refine Ord.nx_end ?_
  have hmn : m ≠ g := by
    rintro rfl
    obtain ⟨es, c, he⟩ := HSEC.out.obj
    rw [HGB.out] at he
    cases he
  have hold : ∀ q, q < w.heap.size → q ≠ m → w2.heap[q]? = w.heap[q]? := fun q hq hne => (HG2.out.block q (by show q < (w.alloc _).heap.size; simp; omega) (by simpa using hne)).trans (Below.heap_alloc w _ q hq)
  have hgb2 : w2.heap[g]? = some (.cells cur 97 (0, 0)) := (hold g hga hmn.symm).trans HGB.out
  have hcell2 : ∀ q, w2.cell? ⟨g, q, none⟩ = w.cell? ⟨g, q, none⟩ := fun q => by simp [World.cell?, hgb2, HGB.out]
  have q0 := (hcell2 (x.dev * 5)).trans k0
  have q3 := (hcell2 (x.dev * 5 + 3)).trans (HC.out 3 _ (by omega) rfl)
  have z3 : w2.frozen? ⟨g, x.dev * 5 + 3, none⟩ = false := by simp [World.frozen?, hgb2]
  have hvec2 : Vec w2 F 97 5 (.slice (some ⟨g, 0, none⟩) ds.length cap) ds.length (devRows wc 0 ds ms).flatten := HMS.out.heap fun q cs hq => (hold q (Array.getElem?_eq_some_iff.1 hq).1 (by
    rintro rfl
    obtain ⟨es, c, he⟩ := HSEC.out.obj
    rw [hq] at he
    cases he)).trans hq
  have hmaps2 : ∀ (i : Nat) (d2 : Dev) (m2 : Nat), (ds.set x.dev (d.settle x.place x.b))[i]? = some d2 → ms[i]? = some m2 → SecMap w2 m2 d2.at_ ∧ F m2 := fun i d2 m2 hd2 hm2 => by
    by_cases hi : i = x.dev
    · subst hi
      simp [hj] at hd2
      subst hd2
      have : m2 = m := Option.some.inj (hm2.symm.trans HMJ.out)
      subst this
      rw [Dev.settle_at d _ _ HAT.out]
      exact ⟨HS2.out, hFm⟩
    · rw [List.getElem?_set_ne (Ne.symm hi)] at hd2
      obtain ⟨h5, h6⟩ := HM4.out i d2 m2 hd2 hm2
      have hne : m2 ≠ m := by
        rintro rfl
        obtain ⟨hi1, e1⟩ := List.getElem?_eq_some_iff.1 hm2
        obtain ⟨hi2, e2⟩ := List.getElem?_eq_some_iff.1 HMJ.out
        exact hi ((List.getElem_inj HM3.out).1 (e1.trans e2.symm))
      exact ⟨h5.heap (hold m2 h5.lt hne), h6⟩
  have hkept2 : CellsKept w w2 := fun q cs t fz _ hq => (hold q (Array.getElem?_eq_some_iff.1 hq).1 (by
    rintro rfl
    obtain ⟨es, c, he⟩ := HSEC.out.obj
    rw [hq] at he
    cases he)).trans hq
  have hmods2 : Mods w.heap.size F w w2 := ⟨HG2.out.os, HG2.out.tape, HG2.out.output, Nat.le_trans (by show w.heap.size ≤ (w.alloc _).heap.size; simp) HG2.out.size, fun q hq hn => hold q hq (by rintro rfl; exact hn hFm)⟩
  have HGB2 := Lib.hid hgb2
  have HV2 := Lib.hid hvec2
  have HMP2 := Lib.hid hmaps2
  have HK2 := Lib.hid hkept2
  have HMO2 := Lib.hid hmods2
  have HSG := Lib.hid (settle_get ds x HD.out)
  have hr5 : ∀ d', devRows wc 0 (ds.set x.dev d') ms = (devRows wc 0 ds ms).set x.dev (devRow d' m (wc x.dev)) := fun d' => by
    have := devRows_set wc wc d' 0 ds ms x.dev m hj HMJ.out (fun _ _ => rfl)
    rwa [Nat.zero_add] at this
  have HR5 := Lib.hid hr5
  have hr := devRows_get wc 0 ds ms x.dev d _ HD.out HMJ.out
  rw [Nat.zero_add] at hr
  have HR := Lib.hid hr
  clear hgb2 hvec2 hmaps2 hkept2 hmods2 hcell2 hold k0 k2 hx0 hx1 hV hr5 hr
  cases ht : d.tape with
  | false =>
    rw [ht] at q0
    have HT := Lib.hid ht
    clear ht
    go_wp2_with fail
    go_end0
    refine ⟨rfl, ?_, HK2.out, HMO2.out⟩
    rw [HSG.out]
    refine ⟨ms, ?_, by simpa using HM2.out, HM3.out, HMP2.out⟩
    rw [HR5.out, show devRow (d.settle x.place x.b) m (wc x.dev) = devRow d m (wc x.dev) by simp [devRow, Dev.settle, HT.out], list_set_self HR.out, List.length_set]
    exact HV2.out
  | true =>
    rw [ht] at q0 q3
    simp only [if_true] at q3
    have HT := Lib.hid ht
    clear ht
    go_wp2_with fail
    go_end0
    refine ⟨rfl, ?_, HK2.out.trans (CellsKept.set (p := ⟨g, x.dev * 5 + 3, none⟩) HGB2.out _), HMO2.out.setCell (p := ⟨g, x.dev * 5 + 3, none⟩) (.inl hFg) _⟩
    rw [HSG.out]
    refine ⟨ms, ?_, by simpa using HM2.out, HM3.out, fun i d2 m2 hd2 hm2 => ?_⟩
    · rw [HR5.out, List.length_set]
      have hs := HV2.out.set (x.dev * 5 + 3) (.int .i64 ((d.has.length : Int) + 1))
      rw [flat_set _ (devRows_five wc 0 ds ms) x.dev 3 _ _ HR.out (by omega)] at hs
      rw [show devRow (d.settle x.place x.b) m (wc x.dev) = (devRow d m (wc x.dev)).set 3 (.int .i64 ((d.has.length : Int) + 1)) by simp [devRow, Dev.settle, HT.out]]
      exact hs
    · obtain ⟨h5, h6⟩ := HMP2.out i d2 m2 hd2 hm2
      refine ⟨h5.heap ?_, h6⟩
      obtain ⟨es, c, he⟩ := h5.obj
      exact Below.heap_setCell w2 ⟨g, x.dev * 5 + 3, none⟩ _ m2 (by
        rintro rfl
        rw [HGB2.out] at he
        cases he)
end Go.Proofs.Ytomncfiklkhfjaa.Pl
