/- 'settle': a write lasts. -/
import Derived.Test.YtloffgoenaomkaaDoorPlRead
import Derived.Test.YtloffgoenaomkaaDoorFold2
import Derived.Laws.IdiomCopy
import Derived.Test.YtloffgoenaomkaaDoorFold0
import Derived.Deep.RegionHeld3
import Derived.Test.YtloffgoenaomkaaDoorPlAppend
import Derived.RegionTactic
import Derived.StillTailTactics
import Derived.Deep.AppendSrc
namespace Go.Proofs.YtloffgoenaomkaaDoor.Pl
open Go Go.RowKit Mem
section
variable {w : World} {ops : Array Oper} {rest : List Oper} {o : Oper} {a : Act} {Q : Exit → Act → World → Prop}
/-- 'm[k] = b' at a map of sectors. -/
theorem wpList_put_sec (hg : o.guard = none) (m x v : Operand) (hop : o.op = .mapUpdate 84 m x v) (b : Nat) (f : Nat → List UInt8) (k : Nat) (bs : List UInt8)
    (hm : a.eval m = .map (some b)) (hx : a.eval x = .int .i64 (k : Int)) (hv : a.eval v = .agg (bs.map B8).toArray) (h : SecMap w b f) (hk : k < 4096) (hb : bs.length = 64)
    (hK : ∀ w', SecMap w' b (fun j => if j = k then bs else f j) → w.grownBy w' (some b) → wpList Tryd.prog ops Q rest (a.put o.dst undef) w') : wpList Tryd.prog ops Q (o :: rest) a w := by
  refine wpList_plain hg fun K' hK' => ?_
  obtain ⟨w', hrun, r1, r2⟩ := h.run_update hk hb
  rw [show (Value.agg (cellsOf bs)) = .agg (bs.map B8).toArray from rfl] at hrun
  unfold Oper.wp
  simp [execOp, hop, hm, hx, hv, hrun, Result.andThen]
  exact hK' _ _ (hK w' r1 r2)
end
/-- All blocks of cells but the devices' are as they were. -/
def CellsKept (w w' : World) : Prop := ∀ (g : Nat) (cs : Array Value) (t : TypeId) (fz : Nat × Nat), t ≠ 86 → w.heap[g]? = some (Obj.cells cs t fz) → w'.heap[g]? = some (Obj.cells cs t fz)
theorem CellsKept.refl (w : World) : CellsKept w w := fun _ _ _ _ _ h => h
theorem CellsKept.trans {w w1 w2 : World} (h : CellsKept w w1) (k : CellsKept w1 w2) : CellsKept w w2 := fun g cs t fz ht hg => k g cs t fz ht (h g cs t fz ht hg)
theorem CellsKept.below {w w' : World} (h : Below w.heap.size w w') : CellsKept w w' := fun g _cs _t _fz _ hg => (h.block g (Array.getElem?_eq_some_iff.1 hg).1).trans hg
theorem CellsKept.blk {w w' : World} (h : CellsKept w w') {g : Nat} {t : TypeId} {cs : Array Value} (hb : Blk w g t cs) (ht : t ≠ 86) : Blk w' g t cs := h g cs t _ ht hb
theorem CellsKept.vec {w w' : World} (h : CellsKept w w') {F : Nat → Prop} {t : TypeId} {size n : Nat} {v : Value} {xs : List Value} (hb : Vec w F t size v n xs) (ht : t ≠ 86) : Vec w' F t size v n xs := hb.heap fun g cs hg => h g cs t _ ht hg
theorem CellsKept.map {w w' : World} {m : Nat} {es : Array MapEntry} {c : Nat} (hm : w.heap[m]? = some (.map es c)) (hg : w.grownBy w' (some m)) : CellsKept w w' := fun g cs t fz _ hh => (hg.block g (Array.getElem?_eq_some_iff.1 hh).1 (by
  intro e
  injection e with e
  subst e
  rw [hm] at hh
  cases hh)).trans hh
theorem CellsKept.set {w : World} {p : Addr} {cs : Array Value} {fz : Nat × Nat} (hp : w.heap[p.block]? = some (.cells cs 86 fz)) (v : Value) : CellsKept w (w.setCell p v) := fun g cs' t fz' ht hg => (Below.heap_setCell w p v g (by
  rintro rfl
  rw [hp] at hg
  injection hg with hg
  injection hg with _ hg
  exact ht hg.symm)).trans hg
theorem Dev.settle_at (d : Dev) (k : Nat) (b : List UInt8) (h : if d.tape then k = d.has.length else k < d.has.length) : (d.settle k b).at_ = fun j => if j = k then b else d.at_ j := by
  funext j
  unfold Dev.settle Dev.at_
  cases ht : d.tape with
  | true =>
    rw [ht] at h
    simp only [if_true] at h ⊢
    subst h
    by_cases hj : j = d.has.length
    · subst hj
      simp
    · rw [if_neg hj]
      rcases Nat.lt_or_ge j d.has.length with h' | h'
      · rw [List.getD_eq_getElem?_getD, List.getD_eq_getElem?_getD, List.getElem?_append_left h']
      · rw [List.getD_eq_getElem?_getD, List.getD_eq_getElem?_getD, List.getElem?_eq_none (by simp; omega), List.getElem?_eq_none h']
  | false =>
    rw [ht] at h
    simp only [Bool.false_eq_true, if_false] at h ⊢
    by_cases hj : j = k
    · subst hj
      simp [h]
    · rw [if_neg hj]
      simp [List.getElem?_set_ne (Ne.symm hj)]
theorem settle_get (ds : List Dev) (x : Wr) {d : Dev} (hd : ds[x.dev]? = some d) : settle ds x = ds.set x.dev (d.settle x.place x.b) := by
  unfold settle
  refine List.ext_getElem? fun i => ?_
  rw [List.getElem?_modify, List.getElem?_set]
  by_cases hi : x.dev = i
  · subst hi
    obtain ⟨hlt, e⟩ := List.getElem?_eq_some_iff.1 hd
    simp [hlt, e]
  · simp [hi]
set_option maxRecDepth 100000 in
set_option maxHeartbeats 4000000 in
theorem settle_any {w : World} {F : Nat → Prop} {a : Nat} {V : Value} {ds : List Dev} {wc : Nat → Nat} (hV : w.cell? ⟨a, 2, none⟩ = some V) (h : DevsAt w F V ds wc) (x : Wr) {d : Dev} (hd : ds[x.dev]? = some d) (h64 : x.b.length = 64) (hpl : x.place < 4096)
    (hat : if d.tape then x.place = d.has.length else x.place < d.has.length) (hm : d.has.length ≤ 4096) :
    Calls Tryd.prog 61 #[.pointer (some ⟨a, 0, none⟩), .agg (wrRow x).toArray] w fun e w' => e = .returned (.tuple #[]) ∧ DevsAt w' F V (settle ds x) wc ∧ CellsKept w w' ∧ Mods w.heap.size F w w' := by
  have hj : x.dev < ds.length := (List.getElem?_eq_some_iff.1 hd).1
  obtain ⟨g, cap, rfl⟩ := h.form (by omega)
  have HH := Lib.hid h
  obtain ⟨ms, h1, h2, h3, h4⟩ := h
  have hmj : ms[x.dev]? = some ms[x.dev] := List.getElem?_eq_getElem (by omega)
  generalize ms[x.dev] = m at hmj
  obtain ⟨hsec, hFm⟩ := h4 x.dev d m hd hmj
  have hr := devRows_get wc 0 ds ms x.dev d _ hd hmj
  rw [Nat.zero_add] at hr
  have hc := fun (k : Nat) (u : Value) (hk : k < 5) (hu : (devRow d m (wc x.dev))[k]? = some u) => h1.at_ (k := x.dev * 5 + k) (u := u) (by rw [flat_get _ (devRows_five wc 0 ds ms) x.dev k _ hr hk, hu])
  obtain ⟨hFg, cur, hgb⟩ := HH.out.blockF (by omega)
  have HD := Lib.hid hd
  have HX := Lib.hid (Blk.new w 117 (wrRow x).toArray)
  have hx0 := (HX.out.cell 0).trans (show _ = some (.int .i64 (x.dev : Int)) from rfl)
  have hx1 := (HX.out.cell 1).trans (show _ = some (.int .i64 (x.place : Int)) from rfl)
  have k0 := hc 0 _ (by omega) rfl
  have k2 := hc 2 _ (by omega) rfl
  have hga := Array.getElem?_eq_some_iff.1 hgb |>.1
  have hVa := cell_lt hV
  have HMS := Lib.hid h1
  have HM2 := Lib.hid h2
  have HM3 := Lib.hid h3
  have HM4 := Lib.hid h4
  have HMJ := Lib.hid hmj
  have HAT := Lib.hid hat
  have HGB := Lib.hid hgb
  have hj' : (x.dev : Int) < (ds.length : Int) := by omega
  have HSEC := Lib.hid hsec
  have HC := Lib.hid hc
  clear h1 h2 h3 h4 hmj hat hgb hd hsec hc hr
  simp only [Nat.add_zero] at k0
  go_enter Tryd.func61, Tryd.ntmps61
  go_wp2_with fail
  refine Ord.region_ord [] [0, 1, 2, 3, 4, 5, 6, 7] (by kernel_rfl) (by kernel_rfl) (by kernel_rfl) (by kernel_rfl) (Ord.ord_all [_, _, _, _, _, _, _, _] rfl (by kernel_rfl) ?_)
  go_wp2_with fail
  refine Ord.nx_end ?_
  go_wp2_with fail
  refine Ord.region_ord [] [0, 1, 2, 3, 4, 5, 6, 7, 8] (by kernel_rfl) (by kernel_rfl) (by kernel_rfl) (by kernel_rfl) (Ord.ord_all [_, _, _, _, _, _, _, _, _] rfl (by kernel_rfl) ?_)
  go_wp2_with
    (refine wpList_load_mid rfl 115 (.tmp 18) rfl w.heap.size 2 rfl (x.b.map B8) _ (blk_range HX.out 2 _ (fun j v hv => by rw [Nat.add_comm]; exact hv)) secTy rfl (by rw [List.length_map, h64]; kernel_rfl) ?_
     refine wpList_put_sec rfl (.tmp 15) (.tmp 17) (.tmp 19) rfl m d.at_ x.place x.b rfl rfl rfl (HSEC.out.heap (Below.heap_alloc w _ m HSEC.out.lt)) hpl h64 ?_
     intro w2 hs2 hg2
     have HS2 := Lib.hid hs2
     have HG2 := Lib.hid hg2
     clear hs2 hg2)
  refine Ord.nx_end ?_
  have hmn : m ≠ g := by
    rintro rfl
    obtain ⟨es, c, he⟩ := HSEC.out.obj
    rw [HGB.out] at he
    cases he
  have hold : ∀ q, q < w.heap.size → q ≠ m → w2.heap[q]? = w.heap[q]? := fun q hq hne => (HG2.out.block q (by show q < (w.alloc _).heap.size; simp; omega) (by simpa using hne)).trans (Below.heap_alloc w _ q hq)
  have hgb2 : w2.heap[g]? = some (.cells cur 86 (0, 0)) := (hold g hga hmn.symm).trans HGB.out
  have hcell2 : ∀ q, w2.cell? ⟨g, q, none⟩ = w.cell? ⟨g, q, none⟩ := fun q => by simp [World.cell?, hgb2, HGB.out]
  have q0 := (hcell2 (x.dev * 5)).trans k0
  have q3 := (hcell2 (x.dev * 5 + 3)).trans (HC.out 3 _ (by omega) rfl)
  have z3 : w2.frozen? ⟨g, x.dev * 5 + 3, none⟩ = false := by simp [World.frozen?, hgb2]
  have hvec2 : Vec w2 F 86 5 (.slice (some ⟨g, 0, none⟩) ds.length cap) ds.length (devRows wc 0 ds ms).flatten := HMS.out.heap fun q cs hq => (hold q (Array.getElem?_eq_some_iff.1 hq).1 (by
    rintro rfl
    obtain ⟨es, c, he⟩ := HSEC.out.obj
    rw [hq] at he
    cases he)).trans hq
  have hmaps2 : ∀ (i : Nat) (d2 : Dev) (m2 : Nat), (ds.set x.dev (d.settle x.place x.b))[i]? = some d2 → ms[i]? = some m2 → SecMap w2 m2 d2.at_ ∧ F m2 := fun i d2 m2 hd2 hm2 => by
    by_cases hi : i = x.dev
    · subst hi
      simp [hj] at hd2
      subst hd2
      have : m2 = m := Option.some.inj (hm2.symm.trans HMJ.out)
      subst this
      rw [Dev.settle_at d _ _ HAT.out]
      exact ⟨HS2.out, hFm⟩
    · rw [List.getElem?_set_ne (Ne.symm hi)] at hd2
      obtain ⟨h5, h6⟩ := HM4.out i d2 m2 hd2 hm2
      have hne : m2 ≠ m := by
        rintro rfl
        obtain ⟨hi1, e1⟩ := List.getElem?_eq_some_iff.1 hm2
        obtain ⟨hi2, e2⟩ := List.getElem?_eq_some_iff.1 HMJ.out
        exact hi ((List.getElem_inj HM3.out).1 (e1.trans e2.symm))
      exact ⟨h5.heap (hold m2 h5.lt hne), h6⟩
  have hkept2 : CellsKept w w2 := fun q cs t fz _ hq => (hold q (Array.getElem?_eq_some_iff.1 hq).1 (by
    rintro rfl
    obtain ⟨es, c, he⟩ := HSEC.out.obj
    rw [hq] at he
    cases he)).trans hq
  have hmods2 : Mods w.heap.size F w w2 := ⟨HG2.out.os, HG2.out.tape, HG2.out.output, Nat.le_trans (by show w.heap.size ≤ (w.alloc _).heap.size; simp) HG2.out.size, fun q hq hn => hold q hq (by rintro rfl; exact hn hFm)⟩
  have HGB2 := Lib.hid hgb2
  have HV2 := Lib.hid hvec2
  have HMP2 := Lib.hid hmaps2
  have HK2 := Lib.hid hkept2
  have HMO2 := Lib.hid hmods2
  have HSG := Lib.hid (settle_get ds x HD.out)
  have hr5 : ∀ d', devRows wc 0 (ds.set x.dev d') ms = (devRows wc 0 ds ms).set x.dev (devRow d' m (wc x.dev)) := fun d' => by
    have := devRows_set wc wc d' 0 ds ms x.dev m hj HMJ.out (fun _ _ => rfl)
    rwa [Nat.zero_add] at this
  have HR5 := Lib.hid hr5
  have hr := devRows_get wc 0 ds ms x.dev d _ HD.out HMJ.out
  rw [Nat.zero_add] at hr
  have HR := Lib.hid hr
  clear hgb2 hvec2 hmaps2 hkept2 hmods2 hcell2 hold k0 k2 hx0 hx1 hV hr5 hr
  cases ht : d.tape with
  | false =>
    rw [ht] at q0
    have HT := Lib.hid ht
    clear ht
    go_wp2_with fail
    go_end0
    refine ⟨rfl, ?_, HK2.out, HMO2.out⟩
    rw [HSG.out]
    refine ⟨ms, ?_, by simpa using HM2.out, HM3.out, HMP2.out⟩
    rw [HR5.out, show devRow (d.settle x.place x.b) m (wc x.dev) = devRow d m (wc x.dev) by simp [devRow, Dev.settle, HT.out], list_set_self HR.out, List.length_set]
    exact HV2.out
  | true =>
    rw [ht] at q0 q3
    simp only [if_true] at q3
    have HT := Lib.hid ht
    clear ht
    go_wp2_with fail
    go_end0
    refine ⟨rfl, ?_, HK2.out.trans (CellsKept.set (p := ⟨g, x.dev * 5 + 3, none⟩) HGB2.out _), HMO2.out.setCell (p := ⟨g, x.dev * 5 + 3, none⟩) (.inl hFg) _⟩
    rw [HSG.out]
    refine ⟨ms, ?_, by simpa using HM2.out, HM3.out, fun i d2 m2 hd2 hm2 => ?_⟩
    · rw [HR5.out, List.length_set]
      have hs := HV2.out.set (x.dev * 5 + 3) (.int .i64 ((d.has.length : Int) + 1))
      rw [flat_set _ (devRows_five wc 0 ds ms) x.dev 3 _ _ HR.out (by omega)] at hs
      rw [show devRow (d.settle x.place x.b) m (wc x.dev) = (devRow d m (wc x.dev)).set 3 (.int .i64 ((d.has.length : Int) + 1)) by simp [devRow, Dev.settle, HT.out]]
      exact hs
    · obtain ⟨h5, h6⟩ := HMP2.out i d2 m2 hd2 hm2
      refine ⟨h5.heap ?_, h6⟩
      obtain ⟨es, c, he⟩ := h5.obj
      exact Below.heap_setCell w2 ⟨g, x.dev * 5 + 3, none⟩ _ m2 (by
        rintro rfl
        rw [HGB2.out] at he
        cases he)
end Go.Proofs.YtloffgoenaomkaaDoor.Pl
/- The closure of 'Flush', and 'slices.IndexFunc' with it. -/
namespace Go.Proofs.YtloffgoenaomkaaDoor.Pl
open Go Go.RowKit Mem
/-- What the closure of 'Flush' reads: the device's number, the plant, its devices. -/
structure Ctx (w : World) (F : Nat → Prop) (a b1 b2 : Nat) (pc : List Value) (V : Value) (j : Nat) (wc : Nat → Nat) (ds : List Dev) : Prop where
  b1 : Blk w b1 3 #[.int .i64 (j : Int)]
  b2 : Blk w b2 24 #[.pointer (some ⟨a, 0, none⟩)]
  pl : Blk w a 82 pc.toArray
  v2 : pc[2]? = some V
  devs : DevsAt w F V ds wc
theorem Ctx.kept {w w' : World} {F : Nat → Prop} {a b1 b2 : Nat} {pc : List Value} {V : Value} {j : Nat} {wc : Nat → Nat} {ds ds' : List Dev} (h : Ctx w F a b1 b2 pc V j wc ds) (hk : CellsKept w w') (hd : DevsAt w' F V ds' wc) : Ctx w' F a b1 b2 pc V j wc ds' :=
  ⟨hk.blk h.b1 (by decide), hk.blk h.b2 (by decide), hk.blk h.pl (by decide), h.v2, hd⟩
/-- May this write be made to last? -/
def MaySet (ds : List Dev) (x : Wr) : Prop := ∃ d, ds[x.dev]? = some d ∧ x.place < 4096 ∧ (if d.tape then x.place = d.has.length else x.place < d.has.length) ∧ d.has.length ≤ 4096
set_option maxRecDepth 100000 in
set_option maxHeartbeats 2000000 in
theorem closure_any {w : World} {F : Nat → Prop} {a b1 b2 : Nat} {pc : List Value} {V : Value} {j : Nat} {wc : Nat → Nat} {ds : List Dev} (h : Ctx w F a b1 b2 pc V j wc ds) (x : Wr) (h64 : x.b.length = 64) (hs : x.dev = j → MaySet ds x) :
    Calls Tryd.prog 60 #[.agg (wrRow x).toArray, .pointer (some ⟨b1, 0, none⟩), .pointer (some ⟨b2, 0, none⟩)] w fun e w' =>
      e = .returned (.bool (x.dev == j)) ∧ Ctx w' F a b1 b2 pc V j wc (if x.dev = j then settle ds x else ds) ∧ CellsKept w w' ∧ Mods w.heap.size F w w' := by
  have HX := Lib.hid (Blk.new w 117 (wrRow x).toArray)
  have hx0 := (HX.out.cell 0).trans (show _ = some (.int .i64 (x.dev : Int)) from rfl)
  have H := Lib.hid h
  have hc1 := (h.b1.cell 0).trans (show _ = some (.int .i64 (j : Int)) from rfl)
  have hc2 := (h.b2.cell 0).trans (show _ = some (.pointer (some ⟨a, 0, none⟩)) from rfl)
  have hl1 := h.b1.lt
  have hl2 := h.b2.lt
  clear h
  by_cases hj : x.dev = j
  · obtain ⟨d, hd, hpl, hat, hm⟩ := hs hj
    have HD := Lib.hid hd
    have HAT := Lib.hid hat
    have hq : ((x.dev : Int) == (j : Int)) = true := by simp; omega
    have HJ := Lib.hid hj
    rw [if_pos hj, show (x.dev == j) = true by simpa using hj]
    clear hs hd hat hj
    go_enter Tryd.func60, Tryd.ntmps60
    go_wp2_with
      (refine wpList_load_mid rfl 117 (.tmp 3) rfl w.heap.size 0 rfl (wrRow x) _ (blk_range HX.out 0 _ (fun q v hv => by rw [Nat.zero_add]; exact hv)) Tryd.underlying117 rfl (by rw [wrRow_len _ h64]; kernel_rfl) ?_
       go_wp2_with fail)
    have HW : Hid (Below w.heap.size w (w.alloc (.cells (wrRow x).toArray 117))) := Lib.hid (below_al' _)
    have hv : (w.alloc (.cells (wrRow x).toArray 117)).cell? ⟨a, 2, none⟩ = some V := ((H.out.pl.alloc _).cell 2).trans (by simpa using H.out.v2)
    have hdv : DevsAt (w.alloc (.cells (wrRow x).toArray 117)) F V ds wc := H.out.devs.mods (Mods.of_below (F := fun _ => False) HW.out) fun q hq _ => ⟨hq, fun x => x⟩
    refine (settle_any hv hdv x HD.out h64 hpl HAT.out hm).mono ?_
    rintro e w2 ⟨rfl, hd2, hk2, hm2⟩
    have HD2 := Lib.hid hd2
    have HK2 := Lib.hid ((CellsKept.below HW.out).trans hk2)
    have HM2 : Hid (Mods w.heap.size F w w2) := Lib.hid ((Mods.of_below HW.out).trans (hm2.mono (by simp) fun _ _ h => h))
    have g0 := ((hk2.blk HX.out (by decide)).cell 0).trans (show _ = some (.int .i64 (x.dev : Int)) from rfl)
    have g1 := ((HK2.out.blk H.out.b1 (by decide)).cell 0).trans (show _ = some (.int .i64 (j : Int)) from rfl)
    clear hd2 hk2 hm2 hv hdv hx0 hc1 hc2
    go_wp2_with fail
    go_ret
    exact ⟨rfl, H.out.kept HK2.out HD2.out, HK2.out, HM2.out⟩
  · have hq : ((x.dev : Int) == (j : Int)) = false := by simp; omega
    rw [if_neg hj, show (x.dev == j) = false by simpa using hj]
    clear hs hj
    go_enter Tryd.func60, Tryd.ntmps60
    go_wp2_with fail
    go_ret
    have HW : Below w.heap.size w (w.alloc (.cells (wrRow x).toArray 117)) := below_al' _
    exact ⟨rfl, H.out.kept (CellsKept.below HW) (H.out.devs.mods (Mods.of_below (F := fun _ => False) HW) fun q hq _ => ⟨hq, fun x => x⟩), CellsKept.below HW, Mods.of_below HW⟩
def clo (b1 b2 : Nat) : Value := .func (.func 60) #[] #[.pointer (some ⟨b1, 0, none⟩), .pointer (some ⟨b2, 0, none⟩)]
def IdxR (w : World) (F : Nat → Prop) (a b1 b2 : Nat) (pc : List Value) (V : Value) (j : Nat) (wc : Nat → Nat) (ds : List Dev) (ws : List Wr) (iv : Value) (wr : World) : Prop :=
  ∃ k : Nat, k ≤ ws.length ∧ iv = .int .i64 (k : Int) ∧ (∀ x ∈ ws.take k, x.dev ≠ j) ∧ Ctx wr F a b1 b2 pc V j wc ds ∧ CellsKept w wr ∧ Mods w.heap.size F w wr
set_option maxRecDepth 100000 in
set_option maxHeartbeats 2000000 in
theorem index_any {w : World} {F Fw : Nat → Prop} {a b1 b2 : Nat} {pc : List Value} {V v : Value} {j : Nat} {wc : Nat → Nat} {ds : List Dev} {ws : List Wr} (h : Ctx w F a b1 b2 pc V j wc ds) (hw : WaitsAt w Fw v ws) (h64 : ∀ x ∈ ws, x.b.length = 64)
    (hs : ∀ (k : Nat) (x : Wr), ws[k]? = some x → x.dev = j → (∀ y ∈ ws.take k, y.dev ≠ j) → MaySet ds x) (hl : ws.length ≤ 1000000000) :
    Calls Tryd.prog 75 #[v, clo b1 b2] w fun e w' =>
      (((∀ x ∈ ws, x.dev ≠ j) ∧ e = .returned (.int .i64 (-1)) ∧ Ctx w' F a b1 b2 pc V j wc ds) ∨ ∃ (k : Nat) (x : Wr), ws[k]? = some x ∧ x.dev = j ∧ (∀ y ∈ ws.take k, y.dev ≠ j) ∧ e = .returned (.int .i64 (k : Int)) ∧ Ctx w' F a b1 b2 pc V j wc (settle ds x)) ∧ CellsKept w w' ∧ Mods w.heap.size F w w' := by
  have H := Lib.hid h
  have HW := Lib.hid hw
  have H64 := Lib.hid h64
  have HS := Lib.hid hs
  obtain ⟨A, cap, rfl⟩ := Vec.shape hw
  have hl' : (ws.length : Int) ≤ 9223372036854775806 := by omega
  clear h hw h64 hs
  unfold clo
  go_enter Tryd.func75, Tryd.ntmps75
  go_wp2
  go_loopw [8] (fun iv wr => IdxR w F a b1 b2 pc V j wc ds ws iv wr) (fun iv _ => ws.length - (intOf iv).toNat)
  case atStart => exact ⟨0, Nat.zero_le _, rfl, by simp, H.out, CellsKept.refl _, Mods.refl _ _ _⟩
  case round =>
    obtain ⟨k, hk, rfl, hno, hc, hkp, hmo⟩ := hrel
    have HNO := Lib.hid hno
    have HC := Lib.hid hc
    have HKP := Lib.hid hkp
    have HMO := Lib.hid hmo
    clear hno hc hkp hmo
    by_cases hlt : k < ws.length
    · obtain ⟨gw, cap2, cur2, hv, hrest⟩ := Vec.form HW.out (by omega)
      injection hv with hA _ hcp
      subst hA
      clear hcp hrest
      obtain ⟨x, hx⟩ : ∃ x, ws[k]? = some x := ⟨_, List.getElem?_eq_getElem hlt⟩
      have hx64 := H64.out x (List.mem_of_getElem? hx)
      have HRG := Lib.hid (WaitsAt.row (HKP.out.vec HW.out (by decide)) H64.out hx)
      have HX := Lib.hid hx
      have HX64 := Lib.hid hx64
      clear hx hx64
      go_wp2_with
        (refine wpList_load_mid rfl 117 (.tmp 14) rfl gw (k * 66) rfl (wrRow x) _ HRG.out Tryd.underlying117 rfl (by rw [wrRow_len _ HX64.out]; kernel_rfl) ?_
         go_wp2_with fail)
      refine (closure_any HC.out x HX64.out (fun e => HS.out k x HX.out e HNO.out)).mono ?_
      rintro e w2 ⟨rfl, hc2, hk2, hm2⟩
      have HC2 := Lib.hid hc2
      have HK2 := Lib.hid (HKP.out.trans hk2)
      have HM2 := Lib.hid (HMO.out.trans (hm2.mono HMO.out.size fun _ _ h => h))
      clear hc2 hk2 hm2
      by_cases hj : x.dev = j
      · have hq : (x.dev == j) = true := by simpa using hj
        have HJ := Lib.hid hj
        have hc3 := HC2.out
        rw [if_pos hj] at hc3
        have HC3 := Lib.hid hc3
        rw [hq]
        clear hj hc3 hq
        go_wp2_with fail
        go_ret
        exact ⟨.inr ⟨k, x, HX.out, HJ.out, HNO.out, rfl, HC3.out⟩, HK2.out, HM2.out⟩
      · have hq : (x.dev == j) = false := by simpa using hj
        have HJ := Lib.hid hj
        have hc3 := HC2.out
        rw [if_neg hj] at hc3
        have HC3 := Lib.hid hc3
        rw [hq]
        clear hj hc3 hq
        go_wp2_with fail
        go_roundw
        case rel =>
          refine ⟨k + 1, hlt, by go_num, fun y hy => ?_, HC3.out, HK2.out, HM2.out⟩
          obtain ⟨hk1, e⟩ := List.getElem?_eq_some_iff.1 HX.out
          rw [List.take_succ_eq_append_getElem hk1, e] at hy
          rcases List.mem_append.1 hy with hy | hy
          · exact HNO.out y hy
          · simp at hy
            subst hy
            exact HJ.out
        case measure => simp [intOf]; omega
    · obtain rfl : k = ws.length := by omega
      go_wp2_with fail
      go_ret
      have hn := HNO.out
      rw [List.take_length] at hn
      exact ⟨.inl ⟨hn, rfl, HC.out⟩, HKP.out, HMO.out⟩
end Go.Proofs.YtloffgoenaomkaaDoor.Pl
/- 'clear' of a part of a block. Over any program. No program's function is walked here. -/
namespace Go.Proofs.YtloffgoenaomkaaDoor.Mem
open Go Go.RowKit
theorem zeroCells_len (zs : Array Value) (k : Nat) : (Builtin.zeroCells zs k).toList.length = k * zs.size := by simp [Builtin.zeroCells]
theorem zeroCells_one {zs : Array Value} (h : ∀ v ∈ zs.toList, v.oneCell' = true) (k : Nat) : ∀ v ∈ (Builtin.zeroCells zs k).toList, v.oneCell' = true := by
  intro v hv
  unfold Builtin.zeroCells at hv
  simp only [Array.toList_map, List.mem_map, Array.mem_toList_iff, Array.mem_range] at hv
  obtain ⟨i, hi, rfl⟩ := hv
  have h0 : 0 < zs.size := by
    rcases Nat.eq_zero_or_pos zs.size with h0 | h0
    · rw [h0] at hi; omega
    · exact h0
  have hlt := Nat.mod_lt i h0
  rw [getElem!_pos zs (i % zs.size) hlt]
  exact h _ (by simp)
theorem wpList_clear_in {P : Program} {w : World} {ops : Array Oper} {rest : List Oper} {o : Oper} {a : Act} {Q : Exit → Act → World → Prop} (hgd : o.guard = none) (x : Operand) (t : TypeId)
    (ho : o.op = .call { callee := .builtin .clear, args := #[x], argTypes := #[t] }) {e : TypeId} {size bytes : Nat} {z : Value} (T : ElTy P t e size bytes z) (hz1 : ∀ v ∈ z.cells.toList, v.oneCell' = true)
    (g off k c te : Nat) (old : List Value) (hx : a.eval x = .slice (some ⟨g, off, none⟩) k c) (h0 : 0 < k) (hb : Blk w g te old.toArray) (hfit : off + k * size ≤ old.length)
    (h : ∀ w', Blk w' g te (old.take off ++ (Builtin.zeroCells z.cells k).toList ++ old.drop (off + k * size)).toArray → w.grownBy w' (some g) → w'.heap.size = w.heap.size → wpList P ops Q rest (a.put o.dst (.tuple #[])) w') : wpList P ops Q (o :: rest) a w := by
  refine wpList_plain hgd fun _ hK => ?_
  obtain ⟨i, hi, hz, hs, hby⟩ := T.info
  obtain ⟨k', rfl⟩ : ∃ k', k = k' + 1 := ⟨k - 1, by omega⟩
  have hlen := zeroCells_len z.cells (k' + 1)
  rw [T.hz] at hlen
  have hone := zeroCells_one hz1 (k' + 1)
  have hrun := run_storeCells_cells (P := P) g off (Builtin.zeroCells z.cells (k' + 1)).toList 0 w (fun j hj => by rw [hb.cell]; simp; omega) (fun j hj => hb.frozen _) hone
  have hrun2 : (Builtin.clear_ #[t] o.type #[.slice (some ⟨g, off, none⟩) (k' + 1) c]).run P w = .ok (.tuple #[]) (w.setCells g off (Builtin.zeroCells z.cells (k' + 1)).toList) := by
    simp only [Nat.add_zero] at hrun
    simp [Builtin.clear_, run_underlying T.ht, zeroValue, typeInfo, hi, hz, hrun]
  obtain ⟨k1, k2, k3⟩ := setCells_blk (Builtin.zeroCells z.cells (k' + 1)).toList old off w hb (by omega)
  unfold Oper.wp execOp
  simp only [ho, resolve, invoke, builtin, Sem.run_bind, Sem.run_pure, Result.andThen_ok, List.map_toArray, List.map_cons, List.map_nil, hx, hrun2]
  rw [hlen] at k1
  exact hK _ _ (h _ k1 k2 k3)
end Go.Proofs.YtloffgoenaomkaaDoor.Mem
/- 'slices.DeleteFunc' with the closure of 'Flush': what was flushed is taken out of what waits. -/
namespace Go.Proofs.YtloffgoenaomkaaDoor.Pl
open Go Go.RowKit Mem
/-- All blocks of cells but the devices' and what waits are as they were. -/
def Kept2 (w w' : World) : Prop := ∀ (g : Nat) (cs : Array Value) (t : TypeId) (fz : Nat × Nat), t ≠ 86 → t ≠ 117 → w.heap[g]? = some (Obj.cells cs t fz) → w'.heap[g]? = some (Obj.cells cs t fz)
theorem Kept2.of (w w' : World) (h : CellsKept w w') : Kept2 w w' := fun g cs t fz h1 _ hg => h g cs t fz h1 hg
theorem Kept2.trans {w w1 w2 : World} (h : Kept2 w w1) (k : Kept2 w1 w2) : Kept2 w w2 := fun g cs t fz h1 h2 hg => k g cs t fz h1 h2 (h g cs t fz h1 h2 hg)
theorem Kept2.store {w w' : World} {g : Nat} {cs : Array Value} (hb : Blk w g 117 cs) (hg : w.grownBy w' (some g)) : Kept2 w w' := fun q cs' t fz h1 h2 hq => (hg.block q (Array.getElem?_eq_some_iff.1 hq).1 (by
  intro e
  injection e with e
  subst e
  unfold Blk at hb
  rw [hb] at hq
  injection hq with hq
  injection hq with _ hq
  exact h2 hq.symm)).trans hq
theorem Kept2.vec {w w' : World} (h : Kept2 w w') {F : Nat → Prop} {t : TypeId} {size n : Nat} {v : Value} {xs : List Value} (hb : Vec w F t size v n xs) (h1 : t ≠ 86) (h2 : t ≠ 117) : Vec w' F t size v n xs := hb.heap fun g cs hg => h g cs t _ h1 h2 hg
theorem Ctx.store {w w' : World} {F : Nat → Prop} {a b1 b2 : Nat} {pc : List Value} {V : Value} {j : Nat} {wc : Nat → Nat} {ds : List Dev} (h : Ctx w F a b1 b2 pc V j wc ds) {g : Nat} {cs : Array Value} (hb : Blk w g 117 cs) (hg : w.grownBy w' (some g)) : Ctx w' F a b1 b2 pc V j wc ds := by
  have hne : ∀ q t (cs' : Array Value), Blk w q t cs' → t ≠ 117 → some q ≠ some g := fun q t cs' hq ht e => by
    injection e with e
    subst e
    exact absurd (hq.ne_ hb ht) (by simp)
  refine ⟨h.b1.grown hg (hne _ _ _ h.b1 (by decide)), h.b2.grown hg (hne _ _ _ h.b2 (by decide)), h.pl.grown hg (hne _ _ _ h.pl (by decide)), h.v2, h.devs.heap (fun q cs' hq => ?_) (fun q es c hq => ?_)⟩
  · exact (hg.block q (Array.getElem?_eq_some_iff.1 hq).1 (hne q _ cs' hq (by decide))).trans hq
  · refine (hg.block q (Array.getElem?_eq_some_iff.1 hq).1 ?_).trans hq
    intro e
    injection e with e
    subst e
    unfold Blk at hb
    rw [hb] at hq
    cases hq
def flt (j : Nat) (ws : List Wr) : List Wr := ws.filter fun x => !(x.dev == j)
def hit (j : Nat) (ws : List Wr) : List Wr := ws.filter fun x => x.dev == j
theorem take_snoc {α : Type} {ws : List α} {k : Nat} {x : α} (hx : ws[k]? = some x) : ws.take (k + 1) = ws.take k ++ [x] := by
  obtain ⟨hk, e⟩ := List.getElem?_eq_some_iff.1 hx
  rw [List.take_succ_eq_append_getElem hk, e]
theorem drop_cons {α : Type} {ws : List α} {k : Nat} {x : α} (hx : ws[k]? = some x) : ws.drop k = x :: ws.drop (k + 1) := by
  obtain ⟨hk, e⟩ := List.getElem?_eq_some_iff.1 hx
  rw [List.drop_eq_getElem_cons hk, e]
theorem rows_len (ws : List Wr) (h : ∀ x ∈ ws, x.b.length = 64) : (ws.map wrRow).flatten.length = ws.length * 66 := by
  rw [flat_len (size := 66) _ (fun r hr => by
    obtain ⟨y, hy, rfl⟩ := List.mem_map.1 hr
    exact wrRow_len y (h y hy)), List.length_map]
theorem mid_get {α : Type} (A B R C T : List α) (o : Nat) (ho : A.length + B.length = o) : ∀ jj u, R[jj]? = some u → (A ++ B ++ (R ++ C) ++ T)[o + jj]? = some u := fun jj u hu => by
  have hj : jj < R.length := (List.getElem?_eq_some_iff.1 hu).1
  rw [List.append_assoc (A ++ B), List.getElem?_append_right (by simp; omega), List.append_assoc R, List.getElem?_append_left (by simp; omega), show o + jj - (A ++ B).length = jj by simp; omega]
  exact hu
theorem store_shift {α : Type} (K mid R C T : List α) (o s : Nat) (hK : K.length = o) (hR : R.length = s) : (K ++ mid ++ (R ++ C) ++ T).take o ++ R ++ (K ++ mid ++ (R ++ C) ++ T).drop (o + s) = K ++ R ++ (mid ++ R).drop s ++ C ++ T := by
  subst hK hR
  have e1 : (K ++ mid ++ (R ++ C) ++ T).take K.length = K := by simp [List.append_assoc]
  have e2 : (K ++ mid ++ (R ++ C) ++ T).drop (K.length + R.length) = (mid ++ R).drop R.length ++ C ++ T := by
    rw [← List.drop_drop]
    have : (K ++ mid ++ (R ++ C) ++ T).drop K.length = (mid ++ R) ++ (C ++ T) := by simp [List.append_assoc]
    rw [this, List.drop_append_of_le_length (by simp)]
    simp [List.append_assoc]
  rw [e1, e2]
  simp [List.append_assoc]
/-- What holds at the head of a round: the block has what is kept so far, what is of no use, what is still to be looked at, and room. -/
def DelR (w : World) (F : Nat → Prop) (a b1 b2 : Nat) (pc : List Value) (V : Value) (j : Nat) (wc : Nat → Nat) (ds : List Dev) (ws : List Wr) (gw : Nat) (tl : List Value) (iv jv : Value) (wr : World) : Prop :=
  ∃ (q : Nat) (mid : List Value), q ≤ ws.length ∧ (flt j (ws.take q)).length < q ∧ iv = .int .i64 ((flt j (ws.take q)).length : Int) ∧ jv = .int .i64 (q : Int) ∧ mid.length = (q - (flt j (ws.take q)).length) * 66 ∧
    Blk wr gw 117 (((flt j (ws.take q)).map wrRow).flatten ++ mid ++ ((ws.drop q).map wrRow).flatten ++ tl).toArray ∧
    Ctx wr F a b1 b2 pc V j wc ((hit j (ws.take q)).foldl settle ds) ∧ Kept2 w wr ∧ Mods w.heap.size F w wr
set_option maxRecDepth 100000 in
set_option maxHeartbeats 4000000 in
theorem delete_any {w : World} {F : Nat → Prop} {a b1 b2 : Nat} {pc : List Value} {V v : Value} {j : Nat} {wc : Nat → Nat} {ds : List Dev} {ws : List Wr} (h : Ctx w F a b1 b2 pc V j wc ds) (hw : WaitsAt w F v ws) (h64 : ∀ x ∈ ws, x.b.length = 64)
    (hs : ∀ (k : Nat) (x : Wr), ws[k]? = some x → x.dev = j → MaySet ((hit j (ws.take k)).foldl settle ds) x) (hl : ws.length ≤ 1000000000) :
    Calls Tryd.prog 59 #[v, clo b1 b2] w fun e w' =>
      ∃ v', e = .returned v' ∧ WaitsAt w' F v' (flt j ws) ∧ Ctx w' F a b1 b2 pc V j wc ((hit j ws).foldl settle ds) ∧ Kept2 w w' ∧ Mods w.heap.size F w w' := by
  have H := Lib.hid h
  have HW := Lib.hid hw
  have H64 := Lib.hid h64
  have HS := Lib.hid hs
  obtain ⟨A, cap, rfl⟩ := Vec.shape hw
  have hl' : (ws.length : Int) ≤ 9223372036854775806 := by omega
  have hidx := index_any h hw h64 (fun k x hx hj hno => by
    have := hs k x hx hj
    rw [show hit j (ws.take k) = [] from List.filter_eq_nil_iff.2 fun y hy => by simpa using hno y hy] at this
    exact this) hl
  unfold clo at hidx ⊢
  clear h hw h64 hs
  go_enter Tryd.func59, Tryd.ntmps59
  go_wp2_with fail
  refine hidx.mono ?_
  clear hidx
  rintro e w1 ⟨⟨hno, rfl, hc1⟩ | ⟨k, x, hx, hxj, hno, rfl, hc1⟩, hk1, hm1⟩
  · have HNO := Lib.hid hno
    have HC1 := Lib.hid hc1
    have HK1 := Lib.hid hk1
    have HM1 := Lib.hid hm1
    clear hno hc1 hk1 hm1
    go_wp2_with fail
    go_ret
    refine ⟨_, rfl, ?_, ?_, Kept2.of _ _ HK1.out, HM1.out⟩
    · rw [show flt j ws = ws from List.filter_eq_self.2 fun y hy => by simpa using HNO.out y hy]
      exact HK1.out.vec HW.out (by decide)
    · rw [show hit j ws = [] from List.filter_eq_nil_iff.2 fun y hy => by simpa using HNO.out y hy]
      exact HC1.out
  · have hkl : k < ws.length := (List.getElem?_eq_some_iff.1 hx).1
    have hw1 : WaitsAt w1 F (.slice A ws.length cap) ws := hk1.vec HW.out (by decide)
    obtain ⟨gw, cap2, cur, hv, hFg, hcur, hncap, hcm, hcsz, htk⟩ := Vec.form hw1 (by omega)
    injection hv with hA _ hcp
    subst hA
    subst hcp
    have hb1 : Blk w1 gw 117 cur.toList.toArray := hcur
    have ht1 : flt j (ws.take (k + 1)) = ws.take k := by
      rw [take_snoc hx]
      unfold flt
      rw [List.filter_append, List.filter_eq_self.2 fun y hy => by simpa using hno y hy]
      simp [hxj]
    have hh1 : hit j (ws.take (k + 1)) = [x] := by
      rw [take_snoc hx]
      unfold hit
      rw [List.filter_append, List.filter_eq_nil_iff.2 fun y hy => by simpa using hno y hy]
      simp [hxj]
    have hlk : (ws.take k).length = k := by simp; omega
    have hsplit : cur.toList = ((flt j (ws.take (k + 1))).map wrRow).flatten ++ wrRow x ++ ((ws.drop (k + 1)).map wrRow).flatten ++ cur.toList.drop (ws.length * 66) := by
      rw [ht1]
      have e1 : ((ws.take k).map wrRow).flatten ++ wrRow x ++ ((ws.drop (k + 1)).map wrRow).flatten = (ws.map wrRow).flatten := by
        conv => rhs; rw [← List.take_append_drop k ws, drop_cons hx]
        simp
      rw [e1, ← htk, List.take_append_drop]
    have hstart : DelR w F a b1 b2 pc V j wc ds ws gw (cur.toList.drop (ws.length * 66)) (.int .i64 (k : Int)) (.int .i64 ((k + 1 : Nat) : Int)) w1 := by
      refine ⟨k + 1, wrRow x, hkl, by rw [ht1, hlk]; omega, by rw [ht1, hlk], rfl, ?_, ?_, ?_, Kept2.of _ _ hk1, hm1⟩
      · rw [ht1, hlk, wrRow_len x (H64.out x (List.mem_of_getElem? hx))]
        omega
      · rw [← hsplit]
        exact hb1
      · rw [hh1]
        exact hc1
    have HST := Lib.hid hstart
    have htl : (cur.toList.drop (ws.length * 66)).length = (cap - ws.length) * 66 := by
      rw [List.length_drop, Array.length_toList, hcsz, Nat.sub_mul]
    have HTL := Lib.hid htl
    generalize cur.toList.drop (ws.length * 66) = tl at HST HTL
    clear hno hc1 hk1 hm1 hw1 hcur hcsz htk hb1 ht1 hh1 hlk hsplit hstart htl hx hxj
    have hkm : ((k : Int) == -1) = false := by
      rw [beq_eq_false_iff_ne]
      omega
    go_wp2_with fail
    go_loopw [5, 6] (fun iv jv wr => DelR w F a b1 b2 pc V j wc ds ws gw tl iv jv wr) (fun _ jv _ => ws.length - (intOf jv).toNat)
    case atStart => exact HST.out
    case round =>
      obtain ⟨q, mid, hq, hiq, rfl, rfl, hmid, hblk, hctx, hkp, hmo⟩ := hrel
      have hfl : ∀ y ∈ flt j (ws.take q), y.b.length = 64 := fun y hy => H64.out y (List.mem_of_mem_take (List.mem_filter.1 hy).1)
      have hKl := rows_len _ hfl
      have HBLK := Lib.hid hblk
      have HCTX := Lib.hid hctx
      have HKP := Lib.hid hkp
      have HMO := Lib.hid hmo
      have HMID := Lib.hid hmid
      have HKL := Lib.hid hKl
      obtain ⟨i, hi⟩ : ∃ i, (flt j (ws.take q)).length = i := ⟨_, rfl⟩
      have HI := Lib.hid hi
      rw [hi] at hiq ⊢
      clear hblk hctx hkp hmo hmid hKl hi hfl
      by_cases hlt : q < ws.length
      · obtain ⟨x, hx⟩ : ∃ x, ws[q]? = some x := ⟨_, List.getElem?_eq_getElem hlt⟩
        have HX64 := Lib.hid (H64.out x (List.mem_of_getElem? hx))
        have HDC := Lib.hid (drop_cons hx)
        have hb2 := HBLK.out
        rw [HDC.out, List.map_cons, List.flatten_cons] at hb2
        have HB2 := Lib.hid hb2
        have HRG := Lib.hid (blk_range hb2 (q * 66) (wrRow x) (mid_get _ _ _ _ _ _ (by rw [HKL.out, HMID.out, HI.out, ← Nat.add_mul]; congr 1; omega)))
        have HX := Lib.hid hx
        clear hx hb2
        go_wp2_with
          (refine wpList_load_mid rfl 117 (.tmp 24) rfl gw (q * 66) rfl (wrRow x) _ HRG.out Tryd.underlying117 rfl (by rw [wrRow_len _ HX64.out]; kernel_rfl) ?_
           go_wp2_with
             (refine wpList_store_all rfl 117 (.tmp 7) (.tmp 25) rfl wr.heap.size 117 Tryd.zeroCells117.toList (wrRow x) rfl rfl (Blk.new wr _ _) (by rw [wrRow_len _ HX64.out]; kernel_rfl) (by rw [wrRow_len _ HX64.out]; kernel_rfl) (wrRow_one _) ?_
              intro w3 hb3 hg3 hz3
              have HX3 := Lib.hid hb3
              have HW3 : Hid (Below wr.heap.size wr w3) := Lib.hid ((below_al' (.cells Tryd.zeroCells117 117)).grown hg3 (by simp) (fun q hq => by injection hq with hq; omega))
              clear hb3 hg3 hz3
              go_wp2_with
                (refine wpList_load_mid rfl 117 (.tmp 7) rfl wr.heap.size 0 rfl (wrRow x) _ (blk_range HX3.out 0 _ (fun q v hv => by rw [Nat.zero_add]; exact hv)) Tryd.underlying117 rfl (by rw [wrRow_len _ HX64.out]; kernel_rfl) ?_
                 go_wp2_with fail)))
        have hc3 := HCTX.out.kept (CellsKept.below HW3.out) (HCTX.out.devs.mods (Mods.of_below (F := fun _ => False) HW3.out) fun q hq _ => ⟨hq, fun x => x⟩)
        refine (closure_any hc3 x HX64.out (fun e => HS.out q x HX.out e)).mono ?_
        clear hc3
        rintro e w4 ⟨rfl, hc4, hk4, hm4⟩
        have HK4 := Lib.hid (HKP.out.trans (Kept2.of _ _ ((CellsKept.below HW3.out).trans hk4)))
        have HM4 := Lib.hid ((HMO.out.then_below HW3.out HMO.out.size).trans (hm4.mono (Nat.le_trans HMO.out.size HW3.out.size) fun _ _ h => h))
        have HX4 := Lib.hid (hk4.blk HX3.out (by decide))
        have HB4 := Lib.hid (hk4.blk (HB2.out.below_ HW3.out) (by decide))
        have HC4 := Lib.hid hc4
        have HTS := Lib.hid (take_snoc HX.out)
        clear hc4 hk4 hm4 HB2 HRG HBLK HCTX HKP HMO HX3 HW3
        by_cases hj : x.dev = j
        · have hqq : (x.dev == j) = true := by simpa using hj
          have hc5 := HC4.out
          rw [if_pos hj] at hc5
          have HC5 := Lib.hid hc5
          have HF : Hid (flt j (ws.take (q + 1)) = flt j (ws.take q)) := Lib.hid (by rw [HTS.out]; unfold flt; rw [List.filter_append]; simp [hj])
          have HH : Hid (hit j (ws.take (q + 1)) = hit j (ws.take q) ++ [x]) := Lib.hid (by rw [HTS.out]; unfold hit; rw [List.filter_append]; simp [hj])
          rw [hqq]
          clear hj hc5 hqq
          go_wp2_with fail
          go_roundw
          case rel =>
            refine ⟨q + 1, mid ++ wrRow x, hlt, by rw [HF.out, HI.out]; omega, by rw [HF.out, HI.out], by go_num, ?_, ?_, ?_, HK4.out, HM4.out⟩
            · rw [HF.out, HI.out, List.length_append, HMID.out, HI.out, wrRow_len x HX64.out, show q + 1 - i = q - i + 1 by omega, Nat.add_mul]
            · rw [HF.out]
              have := HB4.out
              simpa [List.append_assoc] using this
            · rw [HH.out, List.foldl_append]
              exact HC5.out
          case measure => simp [intOf]; omega
        · have hqq : (x.dev == j) = false := by simpa using hj
          have hc5 := HC4.out
          rw [if_neg hj] at hc5
          have HC5 := Lib.hid hc5
          have HF : Hid (flt j (ws.take (q + 1)) = flt j (ws.take q) ++ [x]) := Lib.hid (by rw [HTS.out]; unfold flt; rw [List.filter_append]; simp [hj])
          have HH : Hid (hit j (ws.take (q + 1)) = hit j (ws.take q)) := Lib.hid (by rw [HTS.out]; unfold hit; rw [List.filter_append]; simp [hj])
          rw [hqq]
          clear hj hc5 hqq
          go_wp2_with
            (refine wpList_load_mid rfl 117 (.tmp 7) rfl wr.heap.size 0 rfl (wrRow x) _ (blk_range HX4.out 0 _ (fun q v hv => by rw [Nat.zero_add]; exact hv)) Tryd.underlying117 rfl (by rw [wrRow_len _ HX64.out]; kernel_rfl) ?_
             go_wp2_with
               (refine wpList_store_in rfl 117 (.tmp 33) (.tmp 32) rfl gw (i * 66) 117 _ (wrRow x) rfl rfl HB4.out ?c1 (by rw [wrRow_len _ HX64.out]; kernel_rfl) (wrRow_one _) ?_
                case c1 => simp only [List.length_append, HKL.out, HMID.out, HI.out, wrRow_len x HX64.out]; omega
                intro w5 hb5 hg5 hz5
                have HB5 := Lib.hid hb5
                have HG5 := Lib.hid hg5
                clear hb5 hg5 hz5))
          go_roundw
          case rel =>
            refine ⟨q + 1, (mid ++ wrRow x).drop 66, hlt, by rw [HF.out, List.length_append, HI.out]; simp; omega, by rw [HF.out, List.length_append, HI.out]; go_num, by go_num, ?_, ?_, ?_, HK4.out.trans (Kept2.store HB4.out HG5.out), HM4.out.grown HG5.out HM4.out.size (fun g hg => by injection hg with hg; subst hg; exact .inl hFg)⟩
            · rw [HF.out, List.length_append, HI.out, List.length_drop, List.length_append, HMID.out, HI.out, wrRow_len x HX64.out, List.length_singleton]
              omega
            · rw [HF.out]
              have hb := HB5.out
              rw [wrRow_len x HX64.out, store_shift _ _ _ _ _ _ _ (by rw [HKL.out, HI.out]) (wrRow_len x HX64.out)] at hb
              simpa [List.append_assoc] using hb
            · rw [HH.out]
              exact HC5.out.store HB4.out HG5.out
          case measure => simp [intOf]; omega
      · obtain rfl : q = ws.length := by omega
        have hb2 := HBLK.out
        rw [List.take_length, List.drop_length, List.map_nil, List.flatten_nil, List.append_nil] at hb2
        have HB2 := Lib.hid hb2
        have hi2 := HI.out
        have hkl2 := HKL.out
        have hmid2 := HMID.out
        have hc2 := HCTX.out
        rw [List.take_length] at hi2 hkl2 hmid2 hc2
        rw [hi2] at hkl2 hmid2
        have HI2 := Lib.hid hi2
        have HKL2 := Lib.hid hkl2
        have HMID2 := Lib.hid hmid2
        have HC2 := Lib.hid hc2
        have hne : ¬ cap = i := by omega
        have hlei : (i : Int) ≤ (ws.length : Int) := by omega
        have hleic : (i : Int) ≤ (cap : Int) := by omega
        have h0i : 0 < ws.length - i := by omega
        clear hb2 hi2 hkl2 hmid2 hc2 HBLK HI HKL HMID HCTX
        go_wp2_with
          (refine wpList_clear_in rfl (.tmp 38) 80 rfl wrTy (wrRow_one ⟨0, 0, zeros⟩ |> fun h v hv => h v (by simpa using hv)) gw (i * 66) (ws.length - i) (cap - i) 117 _ rfl h0i HB2.out ?c1 ?_
           case c1 => simp only [List.length_append, HKL2.out, HMID2.out, HTL.out]; omega
           intro w5 hb5 hg5 hz5
           have HB5 := Lib.hid hb5
           have HG5 := Lib.hid hg5
           clear hb5 hg5 hz5)
        go_ret
        refine ⟨.slice (some ⟨gw, 0, none⟩) i cap, rfl, ?_, HC2.out.store HB2.out HG5.out, HKP.out.trans (Kept2.store HB2.out HG5.out), HMO.out.grown HG5.out HMO.out.size (fun g hg => by injection hg with hg; subst hg; exact .inl hFg)⟩
        have hlen : (((flt j ws).map wrRow).flatten ++ mid ++ tl).length = cap * 66 := by simp only [List.length_append, HKL2.out, HMID2.out, HTL.out]; omega
        refine ⟨some ⟨gw, 0, none⟩, cap, by rw [HI2.out], by rw [HKL2.out, HI2.out], .inr ⟨gw, _, rfl, hFg, HB5.out, by rw [HI2.out]; omega, hcm, ?_, ?_⟩⟩
        · have hz := zeroCells_len (Value.cells (.agg (wrRow ⟨0, 0, zeros⟩).toArray)) (ws.length - i)
          rw [wrTy.hz] at hz
          simp only [List.size_toArray, List.length_append, List.length_take, List.length_drop, hz, HKL2.out, HMID2.out, HTL.out]
          omega
        · rw [HI2.out]
          simp only [List.append_assoc]
          rw [List.take_append_of_le_length (by rw [List.length_take]; simp only [List.length_append, HKL2.out]; omega), List.take_take, Nat.min_self, ← HKL2.out, List.take_left']
          rfl
end Go.Proofs.YtloffgoenaomkaaDoor.Pl
/- A drawn region: one condition on the world that holds throughout, a second that holds till operation 'n' has come up. -/
namespace Go.Proofs.YtloffgoenaomkaaDoor.Held
open Go.RowKit Mem
section
variable {P : Program} {ops : Array Oper} {Q : Exit → Act → World → Prop} {md : Region.Mode} {S T : World → Prop} {n : Nat}
/-- S throughout; T while 'n' has not come up. -/
def Both (S T : World → Prop) (n : Nat) (listed : Array Bool) (w : World) : Prop := S w ∧ (listed.getD n true = false → T w)
/-- The rest of the region in whatever order, 'Both' shown behind each operation. -/
def anyT (P : Program) (md : Region.Mode) (ops : Array Oper) (Q : Exit → Act → World → Prop) (S T : World → Prop) (n : Nat) : Nat → Array Bool → Act → World → Prop
  | 0, listed, a, w => Region.ready md ops listed = [] ∧ Q .normal a w
  | k + 1, listed, a, w => (Region.ready md ops listed = [] → Q .normal a w) ∧
      ∀ i ∈ Region.ready md ops listed, wpOp P ops Q i (fun a' w' => Both S T n (listed.setIfInBounds i true) w' ∧ anyT P md ops Q S T n k (listed.setIfInBounds i true) a' w') a w
theorem anyT_any : ∀ (k : Nat) (listed : Array Bool) (a : Act) (w : World), anyT P md ops Q S T n k listed a w → wpAny P md ops Q k listed a w
  | 0, _, _, _, h => h
  | k + 1, _, _, _, h => ⟨h.1, fun i hi => wpOp_mono (fun a' w' x => anyT_any k _ a' w' x.2) (h.2 i hi)⟩
/-- Does 'n' wait for 'i'? -/
def waits (md : Region.Mode) (ops : Array Oper) (n i : Nat) : Bool := match ops[n]? with
  | some o => o.after.any fun e => Region.binds md e && e.on == i
  | none => false
theorem anyT_first {i : Nat} {oi : Oper} {v : Value} (U : World → Prop) (hi : ops[i]? = some oi) (hsel : ∀ (j : Nat) (o : Oper) cs b, ops[j]? = some o → o.op ≠ .select cs b)
    (hQ : ∀ c a w, Q (.panic c) (a.put oi.dst v) w → Q (.panic c) a w) (hin : i ≠ n) :
    ∀ (k : Nat) (listed : Array Bool) (a : Act) (w : World),
      (∀ j oj, ops[j]? = some oj → j ≠ i → listed.getD j true = false → (∀ e ∈ oj.after, Region.binds md e = true → e.on ≠ i) → oi.apart ops oj = true) →
      ((∀ x, S x → U x) ∨ (∀ x, S x → T x → U x) ∧ waits md ops n i = true ∧ listed.getD n true = false) →
      i ∈ Region.ready md ops listed → YieldsIf P ops U oi v a → Both S T n listed w →
      anyT P md ops Q S T n k (listed.setIfInBounds i true) (a.put oi.dst v) w → anyT P md ops Q S T n (k + 1) listed a w := by
  intro k
  induction k with
  | zero =>
    intro listed a w _ hU hr hy hB H
    have hu : U w := by
      rcases hU with h | ⟨h, _, hn⟩
      · exact h _ hB.1
      · exact h _ hB.1 (hB.2 hn)
    refine ⟨fun h => absurd hr (by rw [h]; simp), fun j hj => ?_⟩
    by_cases hji : j = i
    · subst hji
      exact hy.wpOp hi hu ⟨⟨hB.1, fun hn => hB.2 (by rwa [getD_set_ne true hin] at hn)⟩, H⟩
    · exact absurd (ready_mono hj hji) (by rw [H.1]; simp)
  | succ k ih =>
    intro listed a w hfree hU hr hy hB H
    have hu : U w := by
      rcases hU with h | ⟨h, _, hn⟩
      · exact h _ hB.1
      · exact h _ hB.1 (hB.2 hn)
    refine ⟨fun h => absurd hr (by rw [h]; simp), fun j hj => ?_⟩
    by_cases hji : j = i
    · subst hji
      exact hy.wpOp hi hu ⟨⟨hB.1, fun hn => hB.2 (by rwa [getD_set_ne true hin] at hn)⟩, H⟩
    · obtain ⟨hun, oj, hoj, hall⟩ := mem_ready.1 hj
      have hi0 := (mem_ready.1 hr).1
      have hno : ∀ e ∈ oj.after, Region.binds md e = true → e.on ≠ i := fun e he hb heq => by
        have h1 := hall e he hb
        rw [heq] at h1
        rcases Nat.lt_or_ge i listed.size with h' | h'
        · simp [h'] at hi0 h1; rw [hi0] at h1; cases h1
        · simp [Array.getElem?_eq_none h'] at h1
      have hU' : (∀ x, S x → U x) ∨ (∀ x, S x → T x → U x) ∧ waits md ops n i = true ∧ (listed.setIfInBounds j true).getD n true = false := by
        rcases hU with h | ⟨h, hw, hn⟩
        · exact .inl h
        · refine .inr ⟨h, hw, ?_⟩
          have hjn : j ≠ n := fun e => by
            subst e
            unfold waits at hw
            rw [hoj] at hw
            obtain ⟨m, hm, hb⟩ := Array.any_eq_true.1 hw
            simp only [Bool.and_eq_true, beq_iff_eq] at hb
            exact hno _ (Array.getElem_mem hm) hb.1 hb.2
          rw [getD_set_ne true hjn]
          exact hn
      refine wpOp_mono (fun a' w' x => ?_) (wpOp_putIf hoj (hfree j oj hoj hji hun hno) (fun cs b => hsel i oi cs b hi) (fun cs b => hsel j oj cs b hoj) hQ hy (H.2 j (ready_mono hj hji)))
      have hB' : Both S T n (listed.setIfInBounds j true) w' := ⟨x.2.1.1, fun hn => x.2.1.2 (by
        rw [Array.setIfInBounds_comm _ _ (Ne.symm hji), getD_set_ne true hin]; exact hn)⟩
      refine ⟨hB', ih (listed.setIfInBounds j true) a' w' (fun m om hm hmi hmu hmo => ?_) hU' (ready_mono hr (Ne.symm hji)) x.1 hB' ?_⟩
      · refine hfree m om hm hmi ?_ hmo
        by_cases hjm : j = m
        · subst hjm; exact hun
        · rw [getD_set_ne true hjm] at hmu; exact hmu
      · rw [Array.setIfInBounds_comm _ _ hji]
        exact x.2.2
theorem Both.next {i : Nat} {listed : Array Bool} {w : World} (h : Both S T n listed w) (hin : (i == n) = false) : Both S T n (listed.setIfInBounds i true) w :=
  ⟨h.1, fun hn => h.2 (by rwa [getD_set_ne true (by simpa using hin)] at hn)⟩
/-- Take 'i' first: it yields 'v' wherever S holds. -/
theorem take_s {i : Nat} {oi : Oper} {v : Value} {k : Nat} {listed : Array Bool} {a : Act} {w : World} (hi : ops[i]? = some oi)
    (hs : Region.noSelect ops = true) (hf : Region.free md ops listed i = true) (hr : (Region.ready md ops listed).contains i = true) (hin : (i == n) = false)
    (hQ : ∀ c a w, Q (.panic c) (a.put oi.dst v) w → Q (.panic c) a w) (hy : YieldsIf P ops S oi v a) (hB : Both S T n listed w)
    (h : Both S T n (listed.setIfInBounds i true) w → anyT P md ops Q S T n k (listed.setIfInBounds i true) (a.put oi.dst v) w) : anyT P md ops Q S T n (k + 1) listed a w :=
  have hne : i ≠ n := by simpa using hin
  anyT_first S hi (Region.noSelect_spec hs) hQ hne k listed a w (Region.free_spec hi hf) (.inl fun _ x => x) (by simpa using hr) hy hB (h ⟨hB.1, fun hn => hB.2 (by rwa [getD_set_ne true hne] at hn)⟩)
/-- Take 'i' first: it yields 'v' wherever S and T hold, and 'n' waits for it. -/
theorem take_t {i : Nat} {oi : Oper} {v : Value} {k : Nat} {listed : Array Bool} {a : Act} {w : World} (hi : ops[i]? = some oi)
    (hs : Region.noSelect ops = true) (hf : Region.free md ops listed i = true) (hr : (Region.ready md ops listed).contains i = true) (hin : (i == n) = false)
    (hn : listed.getD n true = false) (hw : waits md ops n i = true)
    (hQ : ∀ c a w, Q (.panic c) (a.put oi.dst v) w → Q (.panic c) a w) (hy : YieldsIf P ops (fun x => S x ∧ T x) oi v a) (hB : Both S T n listed w)
    (h : Both S T n (listed.setIfInBounds i true) w → anyT P md ops Q S T n k (listed.setIfInBounds i true) (a.put oi.dst v) w) : anyT P md ops Q S T n (k + 1) listed a w :=
  have hne : i ≠ n := by simpa using hin
  anyT_first (fun x => S x ∧ T x) hi (Region.noSelect_spec hs) hQ hne k listed a w (Region.free_spec hi hf) (.inr ⟨fun _ x y => ⟨x, y⟩, hw, hn⟩) (by simpa using hr) hy hB (h ⟨hB.1, fun hn => hB.2 (by rwa [getD_set_ne true hne] at hn)⟩)
/-- Each of these comes up next. -/
def Each (P : Program) (md : Region.Mode) (ops : Array Oper) (Q : Exit → Act → World → Prop) (S T : World → Prop) (n k : Nat) (listed : Array Bool) (a : Act) (w : World) (rs : List Nat) : Prop :=
  ∀ i ∈ rs, wpOp P ops Q i (fun a' w' => Both S T n (listed.setIfInBounds i true) w' ∧ anyT P md ops Q S T n k (listed.setIfInBounds i true) a' w') a w
theorem Each.nil {k : Nat} {listed : Array Bool} {a : Act} {w : World} : Each P md ops Q S T n k listed a w [] := fun _ h => absurd h (by simp)
theorem Each.cons {k : Nat} {listed : Array Bool} {a : Act} {w : World} {i : Nat} {o : Oper} {rs : List Nat} (ho : ops[i]? = some o)
    (h : ∀ K : Act → World → Prop, Shut (∀ a w, Both S T n (listed.setIfInBounds i true) w → anyT P md ops Q S T n k (listed.setIfInBounds i true) a w → K a w) → if Region.wanted o (yielded ops a.tmps) = true then Oper.wp P o a w K Q else K (a.put o.dst undef) w)
    (hs : Each P md ops Q S T n k listed a w rs) : Each P md ops Q S T n k listed a w (i :: rs) := fun j hj => by
  rcases List.mem_cons.1 hj with rfl | hj
  · exact wpOp_step ho fun K hK => h K fun a w h1 h2 => hK a w ⟨h1, h2⟩
  · exact hs j hj
theorem ready_t {rs : List Nat} {k : Nat} {listed : Array Bool} {a : Act} {w : World} (hr : Region.ready md ops listed = rs) (hne : rs ≠ []) (h : Each P md ops Q S T n k listed a w rs) : anyT P md ops Q S T n (k + 1) listed a w :=
  ⟨fun h0 => absurd (hr ▸ h0) hne, fun i hi => h i (hr ▸ hi)⟩
theorem done_t {listed : Array Bool} {a : Act} {w : World} (hr : Region.ready md ops listed = []) (h : Q .normal a w) : ∀ k, anyT P md ops Q S T n k listed a w
  | 0 => ⟨hr, h⟩
  | _ + 1 => ⟨fun _ => h, by rw [hr]; simp⟩
/-- The beginning. -/
theorem begin_t (S T : World → Prop) (n : Nat) {id : Nat} {a : Act} {w : World} (hm : P.follows .mixedOrders = true) (hS : S w.drew) (hT : T w.drew)
    (h : Both S T n (Array.replicate ops.size false) w.drew → anyT P .any ops Q S T n ops.size (Array.replicate ops.size false) a w.drew) : (Code.region id ops true).wp P Q a w :=
  wp_region_any hm (anyT_any _ _ _ _ (h ⟨hS, fun _ => hT⟩))
end
end Go.Proofs.YtloffgoenaomkaaDoor.Held
/- 'Flush' of a plant. -/
namespace Go.Proofs.YtloffgoenaomkaaDoor.Pl
open Go Go.RowKit Mem
theorem fold_hit {j : Nat} : ∀ (xs : List Wr) (ds : List Dev) (d : Dev), (∀ x ∈ xs, x.dev = j) → ds[j]? = some d →
    ∃ d', (xs.foldl settle ds)[j]? = some d' ∧ d'.tape = d.tape ∧ d'.most = d.most ∧ d'.has.length = (if d.tape then d.has.length + xs.length else d.has.length) ∧ (∀ i, i ≠ j → (xs.foldl settle ds)[i]? = ds[i]?) ∧ (xs.foldl settle ds).length = ds.length
  | [], ds, d, _, hd => ⟨d, hd, rfl, rfl, by simp, fun _ _ => rfl, rfl⟩
  | x :: xs, ds, d, hx, hd => by
    have hxj := hx x (by simp)
    rw [List.foldl_cons, settle_get ds x (by rw [hxj]; exact hd), hxj]
    have hlt := (List.getElem?_eq_some_iff.1 hd).1
    obtain ⟨d', h1, h2, h3, h4, h5, h6⟩ := fold_hit xs (ds.set j (d.settle x.place x.b)) (d.settle x.place x.b) (fun y hy => hx y (by simp [hy])) (by simp [hlt])
    refine ⟨d', h1, ?_, ?_, ?_, fun i hi => ?_, by rw [h6]; simp⟩
    · rw [h2]; unfold Dev.settle; split <;> rfl
    · rw [h3]; unfold Dev.settle; split <;> rfl
    · rw [h4]
      unfold Dev.settle
      cases ht : d.tape
      · simp
      · simp; omega
    · rw [h5 i hi, List.getElem?_set_ne (Ne.symm hi)]
theorem hit_take_len (j : Nat) (ws : List Wr) {k : Nat} {x : Wr} (hx : ws[k]? = some x) (hj : x.dev = j) : (hit j ws)[(hit j (ws.take k)).length]? = some x := by
  have e : hit j ws = hit j (ws.take k) ++ x :: hit j (ws.drop (k + 1)) := by
    conv => lhs; rw [← List.take_append_drop k ws, drop_cons hx]
    unfold hit
    rw [List.filter_append, List.filter_cons, if_pos (by simpa using hj)]
  rw [e]
  simp
theorem PM.Ok.maySet {p : PM} (h : p.Ok) {j : Nat} {d : Dev} (hd : p.devs[j]? = some d) : ∀ (k : Nat) (x : Wr), p.waits[k]? = some x → x.dev = j → MaySet ((hit j (p.waits.take k)).foldl settle p.devs) x := fun k x hx hj => by
  obtain ⟨d', h1, h2, h3, h4, _, _⟩ := fold_hit (hit j (p.waits.take k)) p.devs d (fun y hy => by simpa using (List.mem_filter.1 hy).2) hd
  have hm := h.most j d hd
  have hp := h.wplace x (List.mem_of_getElem? hx) d (by rw [hj]; exact hd)
  refine ⟨d', by rw [hj]; exact h1, by omega, ?_, ?_⟩
  · rw [h2, h4]
    cases ht : d.tape with
    | true =>
      simp only [if_true]
      have hw := h.wtape j d hd ht
      have hg := hit_take_len j p.waits hx hj
      have hg2 : ((hit j p.waits).map (·.place))[(hit j (p.waits.take k)).length]? = some x.place := by rw [List.getElem?_map, hg]; rfl
      unfold hit at hg2 hg
      have hlk := (List.getElem?_eq_some_iff.1 hg).1
      rw [← List.countP_eq_length_filter (l := p.waits)] at hlk
      rw [hw, List.getElem?_range' (show _ < cnt p.waits j from hlk)] at hg2
      injection hg2 with hg2
      unfold hit
      omega
    | false =>
      simp only [Bool.false_eq_true, if_false]
      rw [h.disk j d hd ht]
      exact hp
  · rw [h4]
    cases ht : d.tape with
    | true =>
      simp only [if_true]
      have hr := h.room j d hd ht
      have hc : (hit j (p.waits.take k)).length ≤ cnt p.waits j := by
        unfold hit cnt
        rw [← List.countP_eq_length_filter]
        exact (List.take_sublist k p.waits).countP_le
      omega
    | false =>
      simp only [Bool.false_eq_true, if_false]
      have := h.disk j d hd ht
      omega
theorem wc_flush (p : PM) (j : Nat) : wcOf { p with devs := (hit j p.waits).foldl settle p.devs, waits := flt j p.waits } = fun i => if i = j then 0 else wcOf p i := by
  funext i
  have hcnt : cnt (flt j p.waits) i = if i = j then 0 else cnt p.waits i := by
    unfold cnt flt
    rw [List.countP_filter]
    by_cases hi : i = j
    · subst hi
      rw [if_pos rfl]
      refine List.countP_eq_zero.2 fun y _ => ?_
      cases h : (y.dev == i) <;> simp
    · rw [if_neg hi]
      refine List.countP_congr fun y _ => ?_
      cases h : (y.dev == i) with
      | false => simp
      | true =>
        have : y.dev = i := by simpa using h
        simp [this, hi]
  unfold wcOf
  simp only
  rw [hcnt]
  cases hd : p.devs[j]? with
  | none =>
    have e : (hit j p.waits).foldl settle p.devs = p.devs := by
      have : ∀ (xs : List Wr), (∀ x ∈ xs, x.dev = j) → xs.foldl settle p.devs = p.devs := by
        intro xs
        induction xs with
        | nil => intro _; rfl
        | cons x xs ih =>
          intro hx
          rw [List.foldl_cons, show settle p.devs x = p.devs by
            unfold settle
            refine List.ext_getElem? fun q => ?_
            rw [List.getElem?_modify, hx x (by simp)]
            by_cases hq : j = q
            · subst hq; simp [hd]
            · simp [hq]]
          exact ih fun y hy => hx y (by simp [hy])
      exact this _ fun y hy => by simpa using (List.mem_filter.1 hy).2
    rw [e]
    by_cases hi : i = j
    · subst hi; simp [hd]
    · simp [hi]
  | some d =>
    obtain ⟨d', h1, h2, _, _, h5, _⟩ := fold_hit (hit j p.waits) p.devs d (fun y hy => by simpa using (List.mem_filter.1 hy).2) hd
    by_cases hi : i = j
    · subst hi; simp
    · rw [if_neg hi, if_neg hi, h5 i hi]
set_option maxHeartbeats 8000000 in
theorem flush_any {w : World} {F : Nat → Prop} {a : Nat} {p : PM} (h : PlantAt w F a p) (hok : p.Ok) (hlow : p.Low) (i : Int) :
    Calls Tryd.prog 29 #[.pointer (some ⟨a, 0, none⟩), .int .i64 i] w fun e w' => e = .returned (.int .i64 (p.flush i).2) ∧ PlantAt w' (Grow F w w') a (p.flush i).1 ∧ Mods w.heap.size F w w' := by
  have hal : ∀ o1 o2 : Obj, Below w.heap.size w ((w.alloc o1).alloc o2) := fun o1 o2 => ((Below.refl _ _).alloc (Nat.le_refl _) o1).alloc (by simp) o2
  have HS2 : Hid (∀ o1 o2 : Obj, PlantAt ((w.alloc o1).alloc o2) (Grow F w ((w.alloc o1).alloc o2)) a p ∧ Mods w.heap.size F w ((w.alloc o1).alloc o2)) := Lib.hid fun o1 o2 => ⟨(h.below (hal o1 o2)).mono fun g _ hg => .inl hg, Mods.of_below (hal o1 o2)⟩
  obtain ⟨D, T, V, W, hp⟩ := h
  have HP2 : Hid (∀ o1 o2 : Obj, PlantB ((w.alloc o1).alloc o2) F a p (wcOf p) D T V W) := Lib.hid fun o1 o2 => hp.mods (Mods.of_below (F := fun _ => False) (hal o1 o2)) fun g hg _ => ⟨hg, fun x => x⟩
  have hlt := hp.blk.lt
  have h4 := hp.c4
  have HB := Lib.hid hp
  have HAL := Lib.hid hal
  clear hal
  rcases num_cases p i with ⟨hn, hi⟩ | ⟨j, d, rfl, hn, hj, hd⟩
  · clear hp
    cases hoff : p.off with
    | true =>
      have e : p.flush i = (p, 2) := by unfold PM.flush; rw [hoff]; rfl
      rw [e]
      rw [hoff] at h4
      clear hn hoff e
      go_enter Tryd.func29, Tryd.ntmps29
      go_wp2_with fail
      refine (dev_none (w := (w.alloc (.cells #[.pointer (some ⟨a, 0, none⟩)] 24)).alloc (.cells #[.int .i64 i] 3)) (HP2.out _ _) i hi).mono ?_
      rintro e w1 ⟨rfl, rfl⟩
      go_wp2_with fail
      go_ret
      exact ⟨rfl, HS2.out _ _⟩
    | false =>
      have e : p.flush i = (p, 31) := by unfold PM.flush; rw [hoff, hn]; rfl
      rw [e]
      rw [hoff] at h4
      clear hn hoff e
      go_enter Tryd.func29, Tryd.ntmps29
      go_wp2_with fail
      refine (dev_none (w := (w.alloc (.cells #[.pointer (some ⟨a, 0, none⟩)] 24)).alloc (.cells #[.int .i64 i] 3)) (HP2.out _ _) i hi).mono ?_
      rintro e w1 ⟨rfl, rfl⟩
      go_wp2_with fail
      go_ret
      exact ⟨rfl, HS2.out _ _⟩
  · obtain ⟨g, c1, rfl⟩ := hp.devs.form (by omega)
    have HD := Lib.hid hd
    clear hp
    cases hoff : p.off with
    | true =>
      have e : p.flush (j : Int) = (p, 2) := by unfold PM.flush; rw [hoff]; rfl
      rw [e]
      rw [hoff] at h4
      clear hn hoff e hd
      go_enter Tryd.func29, Tryd.ntmps29
      go_wp2_with fail
      refine (dev_some (HP2.out (.cells #[.pointer (some ⟨a, 0, none⟩)] 24) (.cells #[.int .i64 (j : Int)] 3)) j hj).mono ?_
      rintro e w1 ⟨rfl, rfl⟩
      go_wp2_with fail
      go_ret
      exact ⟨rfl, HS2.out _ _⟩
    | false =>
      rw [hoff] at h4
      have HF : Hid (p.flush (j : Int) = if p.step.2 then ({ p.step.1 with devs := (hit j p.waits).foldl settle p.devs, waits := flt j p.waits }, 0) else (p.step.1, 2)) := Lib.hid (by
        unfold PM.flush
        rw [hoff, hn]
        rfl)
      have HMS := Lib.hid (hok.maySet hd)
      have HST := Lib.hid (PM.step_same p)
      clear hn hoff hd
      go_enter Tryd.func29, Tryd.ntmps29
      go_wp2_with fail
      refine (dev_some (HP2.out (.cells #[.pointer (some ⟨a, 0, none⟩)] 24) (.cells #[.int .i64 (j : Int)] 3)) j hj).mono ?_
      rintro e w1 ⟨rfl, rfl⟩
      go_wp2_with fail
      refine (step_any (HP2.out (.cells #[.pointer (some ⟨a, 0, none⟩)] 24) (.cells #[.int .i64 (j : Int)] 3)) hlow.steps hok.fuse).mono ?_
      rintro e w2 ⟨rfl, hp2, hk2, hm2⟩
      have hb2 : Blk w2 w.heap.size 24 #[.pointer (some ⟨a, 0, none⟩)] := (hk2 _ (by omega)).trans ((Blk.new w _ _).alloc _)
      have hb1 : Blk w2 (w.heap.size + 1) 3 #[.int .i64 (j : Int)] := (hk2 _ (by omega)).trans (Blk.new_at _ _ (by simp) _ _)
      have HX2 := Lib.hid hp2
      have HM2 : Hid (Mods w.heap.size F w w2) := Lib.hid ((Mods.of_below (HAL.out _ _)).trans (hm2.mono (by simp; omega) fun g _ hg => by subst hg; exact HB.out.own))
      have HB1 := Lib.hid hb1
      have HB2 := Lib.hid hb2
      have e1 := hb1.cell 0
      have e2 := hb2.cell 0
      simp at e1 e2
      clear hb1 hb2 hp2 hk2 hm2
      cases hst : p.step.2 with
      | false =>
        have HE : Hid (p.flush (j : Int) = (p.step.1, 2)) := Lib.hid (HF.out.trans (by rw [hst]; simp))
        clear hst
        go_wp2_with fail
        go_ret
        rw [HE.out]
        have hwc : wcOf p.step.1 = wcOf p := funext fun i => by unfold wcOf; rw [HST.out.2.2.1, HST.out.2.2.2.1]
        refine ⟨rfl, ⟨D, T, _, W, by rw [hwc]; exact HX2.out.mono fun g _ hg => .inl hg⟩, HM2.out⟩
      | true =>
        have HQ : Hid (p.flush (j : Int) = ({ p.step.1 with devs := (hit j p.waits).foldl settle p.devs, waits := flt j p.waits }, 0)) := Lib.hid (HF.out.trans (by rw [hst]; simp))
        clear hst
        have h3 := HX2.out.c3
        have z3 := HX2.out.fz 3
        go_wp2_with fail
        refine Held.begin_t (fun x => x.cell? ⟨w.heap.size, 0, none⟩ = some (.pointer (some ⟨a, 0, none⟩))) (fun x => x.cell? ⟨a, 3, none⟩ = some W) 9 (by kernel_rfl) e2 h3 ?_
        intro hB
        refine Held.take_s (i := 0) (oi := ⟨some 21, _, _, _, _, _⟩) (v := ?_) rfl (by kernel_rfl) (by kernel_rfl) (by kernel_rfl) (by rfl) (fun _ _ _ h => h) (.inl ⟨by rfl, ?_⟩) hB ?_
        rotate_left
        · intro x hS
          go_simp <;> with_reducible rfl
        clear hB
        intro hB
        simp only [Act.put, List.setIfInBounds_toArray, List.set_cons_zero, List.set_cons_succ]
        refine Held.take_s (i := 1) (oi := ⟨some 22, _, _, _, _, _⟩) (v := ?_) rfl (by kernel_rfl) (by kernel_rfl) (by kernel_rfl) (by rfl) (fun _ _ _ h => h) (.inl ⟨by rfl, ?_⟩) hB ?_
        rotate_left
        · intro x hS
          go_simp <;> with_reducible rfl
        clear hB
        intro hB
        simp only [Act.put, List.setIfInBounds_toArray, List.set_cons_zero, List.set_cons_succ]
        refine Held.take_s (i := 2) (oi := ⟨some 23, _, _, _, _, _⟩) (v := ?_) rfl (by kernel_rfl) (by kernel_rfl) (by kernel_rfl) (by rfl) (fun _ _ _ h => h) (.inl ⟨by rfl, ?_⟩) hB ?_
        rotate_left
        · intro x hS
          go_simp <;> with_reducible rfl
        clear hB
        intro hB
        simp only [Act.put, List.setIfInBounds_toArray, List.set_cons_zero, List.set_cons_succ]
        refine Held.take_s (i := 3) (oi := ⟨some 24, _, _, _, _, _⟩) (v := ?_) rfl (by kernel_rfl) (by kernel_rfl) (by kernel_rfl) (by rfl) (fun _ _ _ h => h) (.inl ⟨by rfl, ?_⟩) hB ?_
        rotate_left
        · intro x hS
          go_simp <;> with_reducible rfl
        clear hB
        intro hB
        simp only [Act.put, List.setIfInBounds_toArray, List.set_cons_zero, List.set_cons_succ]
        refine Held.take_t (i := 4) (oi := ⟨some 25, _, _, _, _, _⟩) (v := ?_) rfl (by kernel_rfl) (by kernel_rfl) (by kernel_rfl) (by rfl) (by kernel_rfl) (by kernel_rfl) (fun _ _ _ h => h) (.inl ⟨by rfl, ?_⟩) hB ?_
        rotate_left
        · intro x hS
          have hx := hS.2
          go_simp <;> with_reducible rfl
        clear hB
        intro hB
        simp only [Act.put, List.setIfInBounds_toArray, List.set_cons_zero, List.set_cons_succ]
        refine Held.take_s (i := 5) (oi := ⟨some 26, _, _, _, _, _⟩) (v := ?_) rfl (by kernel_rfl) (by kernel_rfl) (by kernel_rfl) (by rfl) (fun _ _ _ h => h) (.inl ⟨by rfl, ?_⟩) hB ?_
        rotate_left
        · intro x hS
          go_simp <;> with_reducible rfl
        clear hB
        intro hB
        simp only [Act.put, List.setIfInBounds_toArray, List.set_cons_zero, List.set_cons_succ]
        refine Held.ready_t (rs := [6]) (by kernel_rfl) (by simp) ?_
        refine Held.Each.cons (o := ⟨some 27, _, _, _, _, _⟩) rfl (fun K hK => ?_) Held.Each.nil
        go_simp
        have hdv0 : DevsAt w2.drew F (.slice (some ⟨g, 0, none⟩) p.devs.length c1) p.devs (wcOf p) := by
          have := HX2.out.devs
          rw [HST.out.2.2.1] at this
          exact this
        have hwt0 : WaitsAt w2.drew F W p.waits := by
          have := HX2.out.waits
          rw [HST.out.2.2.2.1] at this
          exact this
        have hdel := delete_any (w := w2.drew) (pc := plCells D T (.slice (some ⟨g, 0, none⟩) p.devs.length c1) W p.step.1) ⟨HB1.out, HB2.out, HX2.out.blk, rfl, hdv0⟩ hwt0 hok.wlen HMS.out hlow.waits
        unfold clo at hdel
        refine hdel.mono ?_
        clear hdel hdv0 hwt0
        rintro e w3 ⟨v', rfl, hwt, hct, hk3, hm3⟩
        obtain ⟨A3, c3, rfl⟩ := Vec.shape hwt
        have hS3 := (hct.b2.cell 0).trans (show _ = some (.pointer (some ⟨a, 0, none⟩)) from rfl)
        have h33 := (hct.pl.cell 3).trans (show _ = some W from rfl)
        have z33 := hct.pl.frozen 3
        have hfh := fold_hit (hit j p.waits) p.devs d (fun y hy => by simpa using (List.mem_filter.1 hy).2) HD.out
        have HFH := Lib.hid hfh
        have HLEN : Hid (((hit j p.waits).foldl settle p.devs).length = p.devs.length) := Lib.hid (by obtain ⟨_, _, _, _, _, _, h6⟩ := hfh; exact h6)
        clear hfh
        have HWT := Lib.hid hwt
        have HCT := Lib.hid hct
        have HK3 := Lib.hid hk3
        have HM3 : Hid (Mods w.heap.size F w w3) := Lib.hid (HM2.out.trans (Mods.mono ⟨hm3.os, hm3.tape, hm3.output, hm3.size, hm3.keep⟩ HM2.out.size fun _ _ h => h))
        clear hwt hct hk3 hm3 h3 z3 hB
        go_wp2_with fail
        refine hK.out _ _ ⟨hS3, fun _ => h33⟩ ?_
        clear hK K
        refine Held.take_s (i := 7) (oi := ⟨some 28, _, _, _, _, _⟩) (v := ?_) rfl (by kernel_rfl) (by kernel_rfl) (by kernel_rfl) (by rfl) (fun _ _ _ h => h) (.inl ⟨by rfl, ?_⟩) ⟨hS3, fun _ => h33⟩ ?_
        rotate_left
        · intro x hS
          go_simp <;> with_reducible rfl
        intro hB
        clear hB
        simp only [Act.put, List.setIfInBounds_toArray, List.set_cons_zero, List.set_cons_succ]
        refine Held.take_s (i := 8) (oi := ⟨some 29, _, _, _, _, _⟩) (v := ?_) rfl (by kernel_rfl) (by kernel_rfl) (by kernel_rfl) (by rfl) (fun _ _ _ h => h) (.inl ⟨by rfl, ?_⟩) ⟨hS3, fun _ => h33⟩ ?_
        rotate_left
        · intro x hS
          go_simp <;> with_reducible rfl
        intro hB
        clear hB
        simp only [Act.put, List.setIfInBounds_toArray, List.set_cons_zero, List.set_cons_succ]
        refine Held.ready_t (rs := [9]) (by kernel_rfl) (by simp) ?_
        refine Held.Each.cons (o := ⟨none, _, _, _, _, _⟩) rfl (fun K hK => ?_) Held.Each.nil
        go_simp
        have hag : a ≠ g := by
          rintro rfl
          obtain ⟨_, cur, hcur⟩ := HCT.out.devs.blockF (by rw [HLEN.out]; omega)
          have := HCT.out.pl
          unfold Blk at this
          rw [hcur] at this
          injection this with this
          injection this with _ this
          exact absurd this (by decide)
        refine hK.out _ _ ⟨((show _ = _ by simp [World.cell?, Below.heap_setCell w3 ⟨a, 3, none⟩ _ w.heap.size (by simp; omega)]).trans hS3), fun hn => absurd (show false = true from hn.symm.trans (by kernel_rfl)) (by decide)⟩ ?_
        clear hK K h33 z33 hS3 e1 e2
        refine Held.done_t (by kernel_rfl) ?_ _
        have hp4 : PlantB (w3.setCell ⟨a, 3, none⟩ (.slice A3 (flt j p.waits).length c3)) F a { p.step.1 with devs := (hit j p.waits).foldl settle p.devs, waits := flt j p.waits } (wcOf p) D T (.slice (some ⟨g, 0, none⟩) p.devs.length c1) (.slice A3 (flt j p.waits).length c3) := by
          refine ⟨?_, HB.out.own, ?_, ?_, ?_, ?_⟩
          · have hb := HCT.out.pl.set_ 3 (.slice A3 (flt j p.waits).length c3)
            simpa [plCells, PM.fuseI] using hb
          · exact (HK3.out.vec (show Vec w2.drew _ _ _ _ _ _ from HX2.out.disks) (by decide) (by decide)).far (p := ⟨a, 3, none⟩) HCT.out.pl (by decide) _
          · exact (HK3.out.vec (show Vec w2.drew _ _ _ _ _ _ from HX2.out.tapes) (by decide) (by decide)).far (p := ⟨a, 3, none⟩) HCT.out.pl (by decide) _
          · refine HCT.out.devs.heap (fun q cs hq => (heap_set_ne _ _ _ _ _ ?_).trans hq) (fun q es c hq => (heap_set_ne _ _ _ _ _ ?_).trans hq)
            · rintro rfl
              have := HCT.out.pl
              unfold Blk at this
              rw [hq] at this
              injection this with this
              injection this with _ this
              exact absurd this (by decide)
            · rintro rfl
              have := HCT.out.pl
              unfold Blk at this
              rw [hq] at this
              cases this
          · exact HWT.out.far (p := ⟨a, 3, none⟩) HCT.out.pl (by decide) _
        obtain ⟨d', hd', htp, _, _, _, _⟩ := HFH.out
        obtain ⟨m', _, _, _, _, _, _, q4⟩ := hp4.devs.cells hd'
        have qz := hp4.devs.free (by rw [HLEN.out]; omega) (j * 5 + 4)
        have HP4 := Lib.hid hp4
        have HD' := Lib.hid hd'
        clear hp4 hd' htp hag
        go_wp2
        go_ret
        rw [HQ.out]
        have ht := HP4.out.turnDev (wc' := fun i => if i = j then 0 else wcOf p i) HD'.out 4 (by omega) (.int .i64 0) d' (fun i hi => by simp [hi]) (fun m => by simp [devRow]) rfl
        simp only [list_set_self HD'.out] at ht
        have hwc : wcOf ({ p.step.1 with devs := (hit j p.waits).foldl settle p.devs, waits := flt j p.waits } : PM) = fun i => if i = j then 0 else wcOf p i := wc_flush p j
        refine ⟨rfl, ⟨D, T, _, _, by rw [hwc]; exact ht.mono fun g _ hg => .inl hg⟩, ?_⟩
        have hFg : F g := (HCT.out.devs.blockF (by rw [HLEN.out]; omega)).1
        exact (HM3.out.setCell (p := ⟨a, 3, none⟩) (.inl HB.out.own) _).setCell (p := ⟨g, j * 5 + 4, none⟩) (.inl hFg) _
end Go.Proofs.YtloffgoenaomkaaDoor.Pl
/- The small functions of a plant: 'On', 'Steps', 'Now', 'Fuse', 'Tick'. -/
namespace Go.Proofs.YtloffgoenaomkaaDoor.Pl
open Go Go.RowKit Mem
section
variable {w : World} {F : Nat → Prop} {a : Nat} {p : PM}
theorem on_any (h : PlantAt w F a p) : Calls Tryd.prog 31 #[.pointer (some ⟨a, 0, none⟩)] w fun e w' => e = .returned (.bool (!p.off)) ∧ w = w' := by
  obtain ⟨D, T, V, W, hp⟩ := h
  have h4 := hp.c4
  clear hp
  go_enter Tryd.func31, Tryd.ntmps31
  go_wp2
  go_ret
  exact ⟨rfl, rfl⟩
theorem PlantB.turnAt {D T V W : Value} {q : PM} (h : PlantB w F a p (wcOf p) D T V W) (hq : q.disks = p.disks ∧ q.tapes = p.tapes ∧ q.devs = p.devs ∧ q.waits = p.waits) {w' : World}
    (hb : Blk w' a 82 (plCells D T V W q).toArray) (hk : ∀ k, k ≠ a → w'.heap[k]? = w.heap[k]?) : PlantAt w' (Grow F w w') a q := by
  have hwc : wcOf q = wcOf p := funext fun i => by unfold wcOf; rw [hq.2.2.1, hq.2.2.2]
  exact ⟨D, T, V, W, by rw [hwc]; exact (h.turn hq hb hk).mono fun g _ hg => .inl hg⟩
set_option maxHeartbeats 1000000 in
theorem fuse_any (h : PlantAt w F a p) (n : Int) : Calls Tryd.prog 32 #[.pointer (some ⟨a, 0, none⟩), .int .i64 n] w fun e w' => e = .returned (.tuple #[]) ∧ PlantAt w' (Grow F w w') a (p.setFuse n) ∧ Mods w.heap.size F w w' := by
  have HP := Lib.hid h
  obtain ⟨D, T, V, W, hp⟩ := h
  have h4 := hp.c4
  have h5 := hp.c5
  have z5 := hp.fz 5
  have HB := Lib.hid hp
  clear hp
  cases hoff : p.off with
  | true =>
    have e : p.setFuse n = p := by unfold PM.setFuse; rw [hoff]; rfl
    rw [e]
    rw [hoff] at h4
    clear hoff e
    go_enter Tryd.func32, Tryd.ntmps32
    go_wp2
    go_end0
    exact ⟨rfl, HP.out.same⟩
  | false =>
    have HE : Hid (p.setFuse n = { p with fuse := if n < 0 then none else some n.toNat }) := Lib.hid (by unfold PM.setFuse; rw [hoff]; rfl)
    rw [hoff] at h4
    clear hoff
    have hfin : ∀ (x : Int), x = ({ p with fuse := if n < 0 then none else some n.toNat } : PM).fuseI → PlantAt (w.setCell ⟨a, 5, none⟩ (.int .i64 x)) (Grow F w (w.setCell ⟨a, 5, none⟩ (.int .i64 x))) a (p.setFuse n) ∧ Mods w.heap.size F w (w.setCell ⟨a, 5, none⟩ (.int .i64 x)) := fun x hx => by
      subst hx
      rw [HE.out]
      refine ⟨HB.out.turnAt (q := { p with fuse := if n < 0 then none else some n.toNat }) ⟨rfl, rfl, rfl, rfl⟩ ?_ (fun k hk => heap_set_ne _ _ _ _ _ hk), (mods_set _ _ _ _ _ (Mods.refl _ _ _)).mono (Nat.le_refl _) fun g _ hg => by subst hg; exact HB.out.own⟩
      have hb := HB.out.blk.set_ 5 (.int .i64 ({ p with fuse := if n < 0 then none else some n.toNat } : PM).fuseI)
      simpa [plCells] using hb
    have HFIN := Lib.hid hfin
    clear hfin
    by_cases hn : n < -1
    · go_enter Tryd.func32, Tryd.ntmps32
      go_wp2
      go_end0
      exact ⟨rfl, HFIN.out _ (by unfold PM.fuseI; rw [if_pos (by omega)])⟩
    · have hn' : -1 ≤ n := by omega
      clear hn
      go_enter Tryd.func32, Tryd.ntmps32
      go_wp2
      go_end0
      refine ⟨rfl, HFIN.out _ ?_⟩
      unfold PM.fuseI
      by_cases h0 : n < 0
      · rw [if_pos h0]
        simp only
        omega
      · rw [if_neg h0]
        simp only
        omega
end
end Go.Proofs.YtloffgoenaomkaaDoor.Pl
/- 'slices.Clone' at the element types of a plant, and its shape. -/
namespace Go.Proofs.YtloffgoenaomkaaDoor.Pl
open Go Go.RowKit Mem
theorem _root_.Go.Proofs.YtloffgoenaomkaaDoor.Mem.Vec.nil_none {w : World} {F : Nat → Prop} {e : TypeId} {size n cap : Nat} {xs : List Value} (h : Vec w F e size (.slice none n cap) n xs) : n = 0 ∧ xs = [] := by
  obtain ⟨A, c, he, hl, ⟨h1, _⟩ | ⟨g, cur, hA, _⟩⟩ := h
  · subst h1
    exact ⟨rfl, List.eq_nil_of_length_eq_zero (by simpa using hl)⟩
  · injection he with he
    rw [hA] at he
    cases he
theorem _root_.Go.Proofs.YtloffgoenaomkaaDoor.Mem.Vec.news {w : World} {F : Nat → Prop} {e : TypeId} {size n cap : Nat} {xs : List Value} {ad : Addr} (h : Vec w F e size (.slice (some ad) n cap) n xs) : ∀ j u, xs[j]? = some u → w.cell? (ad.add j) = some u := fun j u hu => by
  obtain ⟨g, he, hc⟩ := h.cell j u hu
  injection he with he
  subst he
  rw [add_off, Nat.zero_add]
  exact hc
/-- What the call gives back: a slice of its own. -/
def RetV (w : World) (e : TypeId) (size n : Nat) (xs : List Value) (en : Ending) (w' : World) : Prop :=
  ∃ v, en = .returned v ∧ Vec w' (fun g => w.heap.size ≤ g ∧ g < w'.heap.size) e size v n xs ∧ Below w.heap.size w w'
theorem intTy : ElTy Tryd.prog 28 3 1 8 (.int .i64 0) := ⟨Tryd.underlying28, by kernel_rfl, by kernel_rfl, by decide⟩
theorem devTy : ElTy Tryd.prog 79 86 5 40 (.agg #[.bool false, .int .i64 0, .map none, .int .i64 0, .int .i64 0]) := ⟨Tryd.underlying79, by kernel_rfl, by kernel_rfl, by decide⟩
set_option maxHeartbeats 1000000 in
theorem cloneInts_any {w : World} {F : Nat → Prop} {v : Value} {n : Nat} {xs : List Value} (h : Vec w F 3 1 v n xs) (h1 : ∀ u ∈ xs, u.oneCell' = true) (hn : n ≤ 1000000000) :
    Calls Tryd.prog 34 #[v] w (RetV w 3 1 n xs) := by
  obtain ⟨A, cap, rfl⟩ := h.shape
  have H := Lib.hid h
  have H1 := Lib.hid h1
  clear h h1
  cases A with
  | none =>
    have he : ∀ W, (binOp .eql 28 (.slice none n cap) (.slice none 0 0)).run Tryd.prog W = .ok (.bool true) W := fun W => Lib.run_eql_slice_nil W 28 3 none n cap 0 0 Tryd.underlying28
    go_enter Tryd.func34, Tryd.ntmps34
    go_wp2_with fail
    go_ret
    obtain ⟨rfl, hx⟩ := H.out.nil_none
    rw [hx]
    exact ⟨_, rfl, Vec.nil_ _ _ _ _ _, Below.refl _ _⟩
  | some ad =>
    have he : ∀ W, (binOp .eql 28 (.slice (some ad) n cap) (.slice none 0 0)).run Tryd.prog W = .ok (.bool false) W := fun W => Lib.run_eql_slice_nil W 28 3 (some ad) n cap 0 0 Tryd.underlying28
    go_enter Tryd.func34, Tryd.ntmps34
    go_wp2_with
      (at_builtin
       refine wpList_append_vec rfl (.tmp 5) (.tmp 6) _ rfl 8 _ intTy rfl (Vec.nil_ _ (fun _ => False) 3 1 (some ⟨w.heap.size, 0, none⟩)) ad n cap xs rfl H.out.len (H.out.alloc _).news H1.out ?c1 ?c2 ?_
       case c1 => unfold maxLen; omega
       case c2 => omega
       intro v2 w2 row hv2 hg2 hr2
       have HV2 := Lib.hid hv2
       have HG2 := Lib.hid hg2
       have HR2 := Lib.hid hr2
       clear hv2 hg2 hr2)
    go_ret
    refine ⟨v2, rfl, ?_, ?_⟩
    · have hv := HV2.out
      rw [Nat.zero_add, List.nil_append] at hv
      exact hv.mono fun g hg h => by
        rcases h with h | ⟨h, _⟩
        · exact h.elim
        · exact ⟨by simp at h; omega, hg⟩
    · refine (below_al' _).grown HG2.out (by simp) (fun g hg => ?_)
      rcases HR2.out with h | ⟨g', cs, _, h, _⟩
      · rw [h] at hg; cases hg
      · exact h.elim
end Go.Proofs.YtloffgoenaomkaaDoor.Pl
/- 'slices.Grow' of nil and 'slices.Concat' of two rows of numbers. -/
namespace Go.Proofs.YtloffgoenaomkaaDoor.Pl
open Go Go.RowKit Mem
/-- The slice at A has these numbers. -/
def IAt (w : World) (A : Option Addr) (zs : List Int) : Prop := zs = [] ∨ ∃ ad : Addr, A = some ad ∧ ∀ (k : Nat) (z : Int), zs[k]? = some z → w.cell? (ad.add k) = some (.int .i64 z)
theorem IAt.below {w w' : World} {A : Option Addr} {zs : List Int} (h : IAt w A zs) (hb : Below w.heap.size w w') : IAt w' A zs := by
  rcases h with h | ⟨ad, hA, hc⟩
  · exact .inl h
  · exact .inr ⟨ad, hA, fun k z hz => (hb.cell (cell_lt (hc k z hz))).trans (hc k z hz)⟩
def intV (z : Int) : Value := .int .i64 z
theorem intV_one (l : List Int) : ∀ u ∈ l.map intV, u.oneCell' = true := by
  intro u hu
  obtain ⟨x, _, rfl⟩ := List.mem_map.1 hu
  rfl
theorem run_append_make (w : World) (n : Nat) (h0 : 0 < n) (hn : n ≤ 1000000) :
    (Builtin.append_ #[28, 3] 28 #[.slice none 0 0, .int .i64 (n : Int)]).run Tryd.prog w =
      .ok (.slice (some ⟨w.heap.size, 0, none⟩) n (grownCap w n 0 3)) (w.drew.alloc (.cells (Builtin.zeroCells #[.int .i64 0] n ++ Builtin.zeroCells #[.int .i64 0] (grownCap w n 0 3 - n)) 3)) := by
  obtain ⟨i, hi, hz, hs, hby⟩ := intTy.info
  have hne : n ≠ 0 := by omega
  have hw : IntKind.i64.wrap (n : Int) = (n : Int) := IntWalk.i64_in _ (by omega)
  have h63 : ¬ (9223372036854775807 < (n : Int)) := by omega
  have h48 : ¬ (281474976710656 < Builtin.nextslicecap n 0 * 8) := by rw [nextslicecap_zero h0]; omega
  have hb : ¬ (281474976710656 < (n : Int) * 8) := by omega
  have hneg : ¬ ((n : Int) < 0) := by omega
  simp [Builtin.append_, run_underlying Tryd.underlying28, run_underlying Tryd.underlying3, sizeOf, typeInfo, zeroValue, hi, hz, hs, hby, asInt, asIntOf, hw, hneg, hb, hne, h63, h48, Question.forced, run_firstCells_none, newRow, grownCap, Value.cells]
/-- An 'append' whose run is known. -/
theorem wpList_append_run {P : Program} {w : World} {ops : Array Oper} {rest : List Oper} {o : Oper} {a : Act} {Q : Exit → Act → World → Prop} (hgd : o.guard = none) (s x : Operand) (t tx : TypeId)
    (ho : o.op = .call { callee := .builtin .append, args := #[s, x], argTypes := #[t, tx] }) (vs vx v : Value) (w' : World) (hs : a.eval s = vs) (hx : a.eval x = vx)
    (hrun : (Builtin.append_ #[t, tx] o.type #[vs, vx]).run P w = .ok v w') (h : wpList P ops Q rest (a.put o.dst v) w') : wpList P ops Q (o :: rest) a w :=
  wpList_plain hgd fun _ hK => by
    subst hs hx
    unfold Oper.wp execOp
    simp only [ho, resolve, invoke, builtin, Sem.run_bind, Sem.run_pure, Result.andThen_ok, List.map_toArray, List.map_cons, List.map_nil, hrun]
    exact hK _ _ h
set_option maxRecDepth 100000 in
set_option maxHeartbeats 1000000 in
theorem grow_any (w : World) (n : Nat) (h0 : 0 < n) (hn : n ≤ 12) :
    Calls Tryd.prog 62 #[.slice none 0 0, .int .i64 (n : Int)] w fun e w' =>
      ∃ v, e = .returned v ∧ Vec w' (fun g => w.heap.size ≤ g ∧ g < w'.heap.size) 3 1 v 0 [] ∧ Below w.heap.size w w' := by
  have hap := run_append_make w n h0 (by omega)
  have hge := grownCap_ge w n 0 3
  have hle : grownCap w n 0 3 ≤ maxLen := grownCap_le_maxLen w n 0 3 (by unfold maxLen; omega)
  generalize hc : grownCap w n 0 3 = c at hap hge hle
  have hcl : (Builtin.zeroCells #[Value.int .i64 0] n ++ Builtin.zeroCells #[Value.int .i64 0] (c - n)).size = c := by simp [Builtin.zeroCells]; omega
  generalize Builtin.zeroCells #[Value.int .i64 0] n ++ Builtin.zeroCells #[Value.int .i64 0] (c - n) = cs at hap hcl
  have HCL := Lib.hid hcl
  have hn0 : (0 : Int) < (n : Int) := by omega
  clear hcl hc
  go_enter Tryd.func62, Tryd.ntmps62
  have HAP := Lib.hid hap
  clear hap
  go_wp2_with
    (refine wpList_append_run rfl (.tmp 20) (.tmp 21) 28 3 rfl _ _ _ _ rfl rfl HAP.out ?_)
  go_ret
  refine ⟨.slice (some ⟨w.heap.size, 0, none⟩) 0 c, rfl, ?_, ?_⟩
  · exact ⟨_, _, rfl, by simp, .inr ⟨w.heap.size, cs, rfl, ⟨Nat.le_refl _, by show w.heap.size < (w.alloc _).heap.size; simp⟩, heap_alloc_new w _, by omega, hle, by simp [HCL.out], by simp⟩⟩
  · exact (below_al' (w := w) (.cells cs 3)).drew
/-- 'append' of numbers that are read anywhere. -/
theorem wpList_append_ints {w : World} {F : Nat → Prop} {v : Value} {n : Nat} {xs : List Value} {ops : Array Oper} {rest : List Oper} {o : Oper} {a : Act} {Q : Exit → Act → World → Prop} (hgd : o.guard = none) (s x : Operand)
    (ho : o.op = .call { callee := .builtin .append, args := #[s, x], argTypes := #[28, 28] })
    (hs : a.eval s = v) (hv : Vec w F 3 1 v n xs) (A : Option Addr) (m d : Nat) (zs : List Int) (hx : a.eval x = .slice A m d) (hz : IAt w A zs) (hl : zs.length = m) (hm : n + m ≤ 1000000000)
    (h : ∀ v' w' row, Vec w' (Grow F w w') 3 1 v' (n + m) (xs ++ zs.map intV) → w.grownBy w' row → (row = none ∨ ∃ g cs, row = some g ∧ F g ∧ w.heap[g]? = some (.cells cs 3 (0, 0))) → wpList Tryd.prog ops Q rest (a.put o.dst v') w') : wpList Tryd.prog ops Q (o :: rest) a w := by
  cases A with
  | some ad =>
    refine wpList_append_vec hgd s x _ ho 8 _ intTy hs hv ad m d (zs.map intV) hx (by simp [hl]) (fun j u hu => ?_) (intV_one zs) (by unfold maxLen; omega) (by omega) h
    rw [List.getElem?_map] at hu
    cases hzj : zs[j]? with
    | none => rw [hzj] at hu; cases hu
    | some z =>
      rw [hzj] at hu
      injection hu with hu
      subst hu
      rcases hz with hz | ⟨ad', hA, hc⟩
      · subst hz; simp at hzj
      · injection hA with hA
        subst hA
        exact hc j z hzj
  | none =>
    have hz0 : zs = [] := by
      rcases hz with hz | ⟨ad', hA, _⟩
      · exact hz
      · cases hA
    subst hz0
    simp at hl
    subst hl
    have hrun : (Builtin.append_ #[28, 28] o.type #[v, .slice none 0 d]).run Tryd.prog w = .ok v w := by
      obtain ⟨i, hi, hz, hs, hby⟩ := intTy.info
      obtain ⟨A', cap, rfl, _, ⟨rfl, rfl⟩ | ⟨g, cur, rfl, _, _, hnc, _⟩⟩ := hv
      · cases A' <;> simp [Builtin.append_, run_underlying intTy.ht, sizeOf, typeInfo, hi, Builtin.lenOf, Builtin.firstCells, storeCells]
      · simp [Builtin.append_, run_underlying intTy.ht, sizeOf, typeInfo, hi, Builtin.lenOf, Builtin.firstCells, hnc, storeCells]
    exact wpList_append_run hgd s x _ _ ho v (.slice none 0 d) v w hs hx hrun (h v w none (by simpa using hv.mono fun g _ hg => .inl hg) (World.grownBy.refl w _) (.inl rfl))
set_option maxHeartbeats 1000000 in
/-- 'slices.Clone' of numbers that are read anywhere. -/
theorem cloneI_any {w : World} {A : Option Addr} {n cap : Nat} {zs : List Int} (h : IAt w A zs) (hl : zs.length = n) (hn : n ≤ 1000000000) :
    Calls Tryd.prog 34 #[.slice A n cap] w (RetV w 3 1 n (zs.map intV)) := by
  have H := Lib.hid h
  have HL := Lib.hid hl
  clear h hl
  cases A with
  | none =>
    have he : ∀ W, (binOp .eql 28 (.slice none n cap) (.slice none 0 0)).run Tryd.prog W = .ok (.bool true) W := fun W => Lib.run_eql_slice_nil W 28 3 none n cap 0 0 Tryd.underlying28
    go_enter Tryd.func34, Tryd.ntmps34
    go_wp2_with fail
    go_ret
    have hz : zs = [] := by
      rcases H.out with hz | ⟨ad', hA, _⟩
      · exact hz
      · cases hA
    have hn0 := HL.out
    subst hz
    simp at hn0
    subst hn0
    exact ⟨_, rfl, Vec.nil_ _ _ _ _ _, Below.refl _ _⟩
  | some ad =>
    have he : ∀ W, (binOp .eql 28 (.slice (some ad) n cap) (.slice none 0 0)).run Tryd.prog W = .ok (.bool false) W := fun W => Lib.run_eql_slice_nil W 28 3 (some ad) n cap 0 0 Tryd.underlying28
    go_enter Tryd.func34, Tryd.ntmps34
    go_wp2_with
      (at_builtin
       refine wpList_append_ints rfl (.tmp 5) (.tmp 6) rfl rfl (Vec.nil_ _ (fun _ => False) 3 1 (some ⟨w.heap.size, 0, none⟩)) (some ad) n cap zs rfl (H.out.below (below_al' _)) HL.out (by omega) ?_
       intro v2 w2 row hv2 hg2 hr2
       have HV2 := Lib.hid hv2
       have HG2 := Lib.hid hg2
       have HR2 := Lib.hid hr2
       clear hv2 hg2 hr2)
    go_ret
    refine ⟨v2, rfl, ?_, ?_⟩
    · have hv := HV2.out
      rw [Nat.zero_add, List.nil_append] at hv
      exact hv.mono fun g hg h => by
        rcases h with h | ⟨h, _⟩
        · exact h.elim
        · exact ⟨by simp at h; omega, hg⟩
    · refine (below_al' _).grown HG2.out (by simp) (fun g hg => ?_)
      rcases HR2.out with h | ⟨g', cs, _, h, _⟩
      · rw [h] at hg; cases hg
      · exact h.elim
def CatR (w : World) (n1 n2 : Nat) (zs1 zs2 : List Int) (v i : Value) (wr : World) : Prop :=
  Below w.heap.size w wr ∧ ((i = .int .i64 0 ∧ Vec wr (fun g => w.heap.size ≤ g ∧ g < wr.heap.size) 3 1 v 0 []) ∨ (i = .int .i64 1 ∧ Vec wr (fun g => w.heap.size ≤ g ∧ g < wr.heap.size) 3 1 v n1 (zs1.map intV)) ∨
    (i = .int .i64 2 ∧ Vec wr (fun g => w.heap.size ≤ g ∧ g < wr.heap.size) 3 1 v (n1 + n2) ((zs1 ++ zs2).map intV)))
set_option maxRecDepth 100000 in
set_option maxHeartbeats 2000000 in
theorem concat_any (w : World) (G : Nat) (A1 A2 : Option Addr) (n1 n2 k1 k2 : Nat) (zs1 zs2 : List Int) (hG : Blk w G 28 #[.slice A1 n1 k1, .slice A2 n2 k2]) (h1 : IAt w A1 zs1) (h2 : IAt w A2 zs2) (hl1 : zs1.length = n1) (hl2 : zs2.length = n2) (h0 : 0 < n1 + n2) (hn : n1 + n2 ≤ 12) :
    Calls Tryd.prog 35 #[.slice (some ⟨G, 0, none⟩) 2 2] w (RetV w 3 1 (n1 + n2) ((zs1 ++ zs2).map intV)) := by
  have c0 := (hG.cell 0).trans (show _ = some (.slice A1 n1 k1) from rfl)
  have c1 := (hG.cell 1).trans (show _ = some (.slice A2 n2 k2) from rfl)
  have HG := Lib.hid hG
  have H1 := Lib.hid h1
  have H2 := Lib.hid h2
  have HL1 := Lib.hid hl1
  have HL2 := Lib.hid hl2
  clear hG h1 h2 hl1 hl2
  go_enter Tryd.func35, Tryd.ntmps35
  go_wp2
  go_loop [3, 11] (fun s i => (i = .int .i64 0 ∧ s = .int .i64 0) ∨ (i = .int .i64 1 ∧ s = .int .i64 (n1 : Int)) ∨ (i = .int .i64 2 ∧ s = .int .i64 ((n1 + n2 : Nat) : Int))) (fun _ i => 2 - (intOf i).toNat)
  case atStart => exact .inl ⟨rfl, rfl⟩
  case round =>
    rcases hrel with ⟨rfl, rfl⟩ | ⟨rfl, rfl⟩ | ⟨rfl, rfl⟩
    · go_wp2
      go_round
      case rel => exact .inr (.inl ⟨rfl, rfl⟩)
      case measure => simp [intOf]
    · go_wp2
      go_round
      case rel => exact .inr (.inr ⟨rfl, by go_num⟩)
      case measure => simp [intOf]
    · go_wp2_with fail
      refine (grow_any w (n1 + n2) h0 hn).mono ?_
      rintro e w2 ⟨v2, rfl, hv2, hb2⟩
      have HV2 := Lib.hid hv2
      have HB2 := Lib.hid hb2
      clear hv2 hb2 c0 c1
      go_wp2_with fail
      go_loopw [6, 27] (fun v i wr => CatR w n1 n2 zs1 zs2 v i wr) (fun _ i _ => 2 - (intOf i).toNat)
      case atStart => exact ⟨HB2.out, .inl ⟨rfl, HV2.out⟩⟩
      case round =>
        obtain ⟨hb, hc⟩ := hrel
        have d0 := (((HG.out.below_ hb).cell 0)).trans (show _ = some (.slice A1 n1 k1) from rfl)
        have d1 := (((HG.out.below_ hb).cell 1)).trans (show _ = some (.slice A2 n2 k2) from rfl)
        have HB := Lib.hid hb
        clear hb
        rcases hc with ⟨rfl, hv⟩ | ⟨rfl, hv⟩ | ⟨rfl, hv⟩
        · have HV := Lib.hid hv
          clear hv
          go_wp2_with
            (refine wpList_append_ints rfl (.tmp 31) (.tmp 32) rfl rfl HV.out A1 n1 k1 zs1 rfl (H1.out.below HB.out) HL1.out (by omega) ?_
             intro v3 w3 row hv3 hg3 hr3
             have HV3 := Lib.hid hv3
             have HG3 := Lib.hid hg3
             have HR3 := Lib.hid hr3
             clear hv3 hg3 hr3)
          go_roundw
          case rel =>
            refine ⟨HB.out.grown HG3.out HB.out.size (fun g hg => ?_), .inr (.inl ⟨rfl, ?_⟩)⟩
            · rcases HR3.out with h | ⟨g', cs, h, hf, _⟩
              · rw [h] at hg; cases hg
              · rw [h] at hg; injection hg with hg; subst hg; exact hf.1
            · have hv := HV3.out
              rw [Nat.zero_add, List.nil_append] at hv
              exact hv.mono fun g hg h => by
                rcases h with h | h
                · exact ⟨h.1, hg⟩
                · exact ⟨Nat.le_trans HB.out.size h.1, hg⟩
          case measure => simp [intOf]
        · have HV := Lib.hid hv
          clear hv
          go_wp2_with
            (refine wpList_append_ints rfl (.tmp 31) (.tmp 32) rfl rfl HV.out A2 n2 k2 zs2 rfl (H2.out.below HB.out) HL2.out (by omega) ?_
             intro v3 w3 row hv3 hg3 hr3
             have HV3 := Lib.hid hv3
             have HG3 := Lib.hid hg3
             have HR3 := Lib.hid hr3
             clear hv3 hg3 hr3)
          go_roundw
          case rel =>
            refine ⟨HB.out.grown HG3.out HB.out.size (fun g hg => ?_), .inr (.inr ⟨rfl, ?_⟩)⟩
            · rcases HR3.out with h | ⟨g', cs, h, hf, _⟩
              · rw [h] at hg; cases hg
              · rw [h] at hg; injection hg with hg; subst hg; exact hf.1
            · have hv := HV3.out
              rw [← List.map_append] at hv
              exact hv.mono fun g hg h => by
                rcases h with h | h
                · exact ⟨h.1, hg⟩
                · exact ⟨Nat.le_trans HB.out.size h.1, hg⟩
          case measure => simp [intOf]
        · have HV := Lib.hid hv
          clear hv
          go_wp2_with fail
          go_ret
          exact ⟨_, rfl, HV.out, HB.out⟩
end Go.Proofs.YtloffgoenaomkaaDoor.Pl
/- Boot, the plain part, and the map of ended tapes. -/
namespace Go.Proofs.YtloffgoenaomkaaDoor.Pl
open Go Go.RowKit Mem
theorem and_1 (k : Int) : bits BinOp.and IntKind.i64 k 1 = k % 2 := by
  show IntKind.i64.wrap ((BitVec.ofInt 64 k &&& BitVec.ofInt 64 1).toNat : Int) = _
  have h1 : (BitVec.ofInt 64 1).toNat = 1 := by decide
  rw [BitVec.toNat_and, h1, Nat.and_one_is_mod, BitVec.toNat_ofInt]
  have h2 : (((k % (2 ^ 64 : Nat)).toNat % 2 : Nat) : Int) = k % 2 := by
    have : (2 ^ 64 : Nat) = 18446744073709551616 := by decide
    rw [this]
    omega
  rw [h2]
  exact IntWalk.i64_in _ (by omega)
theorem and_3 (k : Int) : bits BinOp.and IntKind.i64 k 3 = k % 4 := by
  show IntKind.i64.wrap ((BitVec.ofInt 64 k &&& BitVec.ofInt 64 3).toNat : Int) = _
  have h1 : (BitVec.ofInt 64 3).toNat = 3 := by decide
  have h3 : ∀ n : Nat, n &&& 3 = n % 4 := fun n => Nat.and_two_pow_sub_one_eq_mod n 2
  rw [BitVec.toNat_and, h1, h3, BitVec.toNat_ofInt]
  have h2 : (((k % (2 ^ 64 : Nat)).toNat % 4 : Nat) : Int) = k % 4 := by
    have : (2 ^ 64 : Nat) = 18446744073709551616 := by decide
    rw [this]
    omega
  rw [h2]
  exact IntWalk.i64_in _ (by omega)
theorem bootGo_snoc (keep : List Int) : ∀ (ws : List Wr) (i : Nat) (x : Wr) (s : List Dev × List Nat), bootGo keep i (ws ++ [x]) s = bootStep keep (bootGo keep i ws s) (i + ws.length) x
  | [], i, x, s => rfl
  | y :: ws, i, x, s => by
    show bootGo keep (i + 1) (ws ++ [x]) (bootStep keep s i y) = _
    rw [bootGo_snoc keep ws (i + 1) x]
    show _ = bootStep keep (bootGo keep (i + 1) ws (bootStep keep s i y)) (i + (ws.length + 1)) x
    rw [show i + 1 + ws.length = i + (ws.length + 1) by omega]
/-- The state ahead of round q. -/
def PM.bootAt (p : PM) (keep : List Int) (q : Nat) : List Dev × List Nat := bootGo keep 0 (p.waits.take q) (p.devs, [])
theorem PM.bootAt_next {p : PM} {keep : List Int} {q : Nat} {x : Wr} (hx : p.waits[q]? = some x) : p.bootAt keep (q + 1) = bootStep keep (p.bootAt keep q) q x := by
  unfold PM.bootAt
  rw [take_snoc hx, bootGo_snoc]
  have : (p.waits.take q).length = q := by
    have := (List.getElem?_eq_some_iff.1 hx).1
    rw [List.length_take]
    omega
  rw [this, Nat.zero_add]
theorem torn_len {b : List UInt8} (h : b.length = 64) : (torn b).length = 64 := by
  unfold torn
  simp [h]
theorem Dev.settle_same (d : Dev) (k : Nat) (b : List UInt8) : (d.settle k b).tape = d.tape ∧ (d.settle k b).most = d.most ∧ (d.settle k b).has.length = (if d.tape then d.has.length + 1 else d.has.length) := by
  unfold Dev.settle
  cases ht : d.tape <;> simp
/-- What is so of the devices ahead of round q. -/
structure BootInv (p : PM) (q : Nat) (s : List Dev × List Nat) : Prop where
  len : s.1.length = p.devs.length
  dev : ∀ (i : Nat) (d : Dev), p.devs[i]? = some d → ∃ d', s.1[i]? = some d' ∧ d'.tape = d.tape ∧ d'.most = d.most ∧ (d.tape = false → d'.has.length = d.has.length) ∧
    (d.tape = true → s.2.contains i = false → d'.has.length = d.has.length + cnt (p.waits.take q) i) ∧ (d.tape = true → d'.has.length ≤ d.has.length + cnt (p.waits.take q) i) ∧ (∀ b ∈ d'.has, b.length = 64)
theorem PM.Ok.place_at {p : PM} (h : p.Ok) {j : Nat} {d : Dev} (hd : p.devs[j]? = some d) (ht : d.tape = true) {k : Nat} {x : Wr} (hx : p.waits[k]? = some x) (hj : x.dev = j) : x.place = d.has.length + cnt (p.waits.take k) j := by
  have hw := h.wtape j d hd ht
  have hg := hit_take_len j p.waits hx hj
  have hg2 : ((hit j p.waits).map (·.place))[(hit j (p.waits.take k)).length]? = some x.place := by rw [List.getElem?_map, hg]; rfl
  unfold hit at hg2 hg
  have hlk := (List.getElem?_eq_some_iff.1 hg).1
  rw [← List.countP_eq_length_filter (l := p.waits)] at hlk
  rw [hw, List.getElem?_range' (show _ < cnt p.waits j from hlk)] at hg2
  injection hg2 with hg2
  have : cnt (p.waits.take k) j = ((p.waits.take k).filter fun x => x.dev == j).length := by unfold cnt; rw [List.countP_eq_length_filter]
  omega
theorem cnt_take_le (ws : List Wr) (k i : Nat) : cnt (ws.take k) i ≤ cnt ws i := (List.take_sublist k ws).countP_le
theorem cnt_take_next {ws : List Wr} {k : Nat} {x : Wr} (hx : ws[k]? = some x) (i : Nat) : cnt (ws.take (k + 1)) i = cnt (ws.take k) i + if x.dev = i then 1 else 0 := by
  rw [take_snoc hx, cnt_snoc]
theorem BootInv.step {p : PM} (hok : p.Ok) {keep : List Int} {q : Nat} {s : List Dev × List Nat} {x : Wr} (hx : p.waits[q]? = some x) (h : BootInv p q s) : BootInv p (q + 1) (bootStep keep s q x) := by
  have hxm := List.mem_of_getElem? hx
  have h64 := hok.wlen x hxm
  obtain ⟨dx, hdx⟩ : ∃ dx, p.devs[x.dev]? = some dx := ⟨_, List.getElem?_eq_getElem (hok.wdev x hxm)⟩
  obtain ⟨d', g1, g2, g3, g4, g5, g6, g7⟩ := h.dev x.dev dx hdx
  -- nothing is settled
  have hstay : ∀ e : List Nat, (s.2.contains x.dev = true ∨ dx.tape = false ∨ e.contains x.dev = true) → (∀ i, e.contains i = false → s.2.contains i = false) → BootInv p (q + 1) (s.1, e) := fun e he hsub => by
    refine ⟨h.len, fun i d hd => ?_⟩
    obtain ⟨c', k1, k2, k3, k4, k5, k6, k7⟩ := h.dev i d hd
    have hn := cnt_take_next hx i
    refine ⟨c', k1, k2, k3, k4, fun ht hc => ?_, fun ht => by have := k6 ht; omega, k7⟩
    have hsi := hsub i hc
    by_cases hi : x.dev = i
    · subst hi
      rw [hdx] at hd
      injection hd with hd
      subst hd
      rcases he with he | he | he
      · rw [he] at hsi; cases hsi
      · rw [ht] at he; cases he
      · rw [he] at hc; cases hc
    · rw [k5 ht hsi, hn, if_neg hi]
      omega
  -- something is settled
  have hset : ∀ (y : Wr) (e : List Nat), s.2.contains x.dev = false → y.dev = x.dev → y.place = x.place → y.b.length = 64 → (∀ i, e.contains i = false → s.2.contains i = false) → BootInv p (q + 1) (settle s.1 y, e) := fun y e hns hy hyp hyl hsub => by
    obtain ⟨m1, m2, m3⟩ := Dev.settle_same d' y.place y.b
    have hsg := settle_get s.1 y (by rw [hy]; exact g1)
    have hlt := (List.getElem?_eq_some_iff.1 g1).1
    refine ⟨by show (settle s.1 y).length = _; rw [hsg, List.length_set]; exact h.len, fun i d hd => ?_⟩
    have hn := cnt_take_next hx i
    show ∃ d', (settle s.1 y)[i]? = some d' ∧ _
    rw [hsg, hy]
    by_cases hi : x.dev = i
    · subst hi
      rw [hdx] at hd
      injection hd with hd
      subst hd
      rw [if_pos rfl] at hn
      refine ⟨_, by rw [List.getElem?_set_self hlt], m1.trans g2, m2.trans g3, fun ht => ?_, fun ht hc => ?_, fun ht => ?_, fun b hb => ?_⟩
      · rw [m3, g2, ht]; exact g4 ht
      · rw [m3, g2, ht, if_pos rfl, g5 ht hns, hn]; omega
      · rw [m3, g2, ht, if_pos rfl, hn]; have := g6 ht; omega
      · unfold Dev.settle at hb
        split at hb
        · rcases List.mem_append.1 hb with hb | hb
          · exact g7 b hb
          · simp at hb
            rw [hb]; exact hyl
        · rcases List.mem_or_eq_of_mem_set hb with hb | hb
          · exact g7 b hb
          · rw [hb]; exact hyl
    · rw [List.getElem?_set_ne hi]
      obtain ⟨c', k1, k2, k3, k4, k5, k6, k7⟩ := h.dev i d hd
      exact ⟨c', k1, k2, k3, k4, fun ht hc => by rw [k5 ht (hsub i hc), hn, if_neg hi]; omega, fun ht => by have := k6 ht; omega, k7⟩
  have hsub : ∀ i, (s.2 ++ [x.dev]).contains i = false → s.2.contains i = false := fun i hi => by
    cases hc : s.2.contains i with
    | false => rfl
    | true =>
      rw [List.contains_iff_mem] at hc
      have : (s.2 ++ [x.dev]).contains i = true := List.contains_iff_mem.2 (List.mem_append_left _ hc)
      rw [this] at hi
      cases hi
  have hin : (s.2 ++ [x.dev]).contains x.dev = true := List.contains_iff_mem.2 (by simp)
  unfold bootStep
  cases hc : s.2.contains x.dev with
  | true =>
    simp only [if_true]
    exact hstay s.2 (.inl hc) fun _ h => h
  | false =>
    have htp : (s.1[x.dev]?).any (·.tape) = dx.tape := by rw [g1]; exact g2
    simp only [Bool.false_eq_true, if_false, htp]
    split
    · exact hset x s.2 hc rfl rfl h64 fun _ h => h
    · cases ht : dx.tape with
      | false =>
        simp only [Bool.false_eq_true, if_false]
        exact hstay s.2 (.inr (.inl ht)) fun _ h => h
      | true =>
        simp only [if_true]
        split
        · exact hset { x with b := torn x.b } _ hc rfl rfl (torn_len h64) hsub
        · exact hstay _ (.inr (.inr hin)) hsub
theorem PM.Ok.bootInv {p : PM} (hok : p.Ok) (keep : List Int) : ∀ q, q ≤ p.waits.length → BootInv p q (p.bootAt keep q)
  | 0, _ => by
    unfold PM.bootAt
    exact ⟨rfl, fun i d hd => ⟨d, hd, rfl, rfl, fun _ => rfl, fun _ _ => by simp [cnt], fun _ => by simp [cnt], fun b hb => hok.sec i d b hd hb⟩⟩
  | q + 1, h => by
    have hx : p.waits[q]? = some p.waits[q] := List.getElem?_eq_getElem (by omega)
    rw [PM.bootAt_next hx]
    exact (hok.bootInv keep q (by omega)).step hok hx
theorem PM.boot_eq (p : PM) (keep : List Int) : p.boot keep = { p with devs := (p.bootAt keep p.waits.length).1, waits := [], off := false, fuse := none } := by
  unfold PM.boot PM.bootAt
  rw [List.take_length]
theorem PM.Ok.boot {p : PM} (hok : p.Ok) (keep : List Int) : (p.boot keep).Ok := by
  rw [PM.boot_eq]
  have hi := hok.bootInv keep p.waits.length (Nat.le_refl _)
  generalize p.bootAt keep p.waits.length = s at hi
  have back : ∀ (i : Nat) (d : Dev), s.1[i]? = some d → ∃ d0, p.devs[i]? = some d0 ∧ d.tape = d0.tape ∧ d.most = d0.most ∧ (d0.tape = false → d.has.length = d0.has.length) ∧ (d0.tape = true → d.has.length ≤ d0.has.length + cnt p.waits i) ∧ (∀ b ∈ d.has, b.length = 64) := fun i d hd => by
    have hlt := (List.getElem?_eq_some_iff.1 hd).1
    rw [hi.len] at hlt
    obtain ⟨d', h1, h2, h3, h4, _, h6, h7⟩ := hi.dev i _ (List.getElem?_eq_getElem hlt)
    rw [hd] at h1
    injection h1 with h1
    subst h1
    rw [List.take_length] at h6
    exact ⟨_, List.getElem?_eq_getElem hlt, h2, h3, h4, h6, h7⟩
  refine ⟨by rw [hi.len]; exact hok.n1, by rw [hi.len]; exact hok.n12, by rw [hi.len]; exact hok.shape, fun i d hd => ?_, fun i d hd => ?_, fun i d hd ht => ?_, fun i d hd ht => ?_, fun i d b hd hb => ?_, by simp, by simp, by simp, fun i d hd ht => by simp [cnt], hok.now, by simp [PM.fuseI]⟩
  · obtain ⟨d0, h0, h1, _⟩ := back i d hd
    rw [h1]; exact hok.tape i d0 h0
  · obtain ⟨d0, h0, _, h1, _⟩ := back i d hd
    rw [h1]; exact hok.most i d0 h0
  · obtain ⟨d0, h0, h1, h2, h3, _⟩ := back i d hd
    rw [h2, h3 (h1 ▸ ht)]; exact hok.disk i d0 h0 (h1 ▸ ht)
  · obtain ⟨d0, h0, h1, h2, _, h3, _⟩ := back i d hd
    have := h3 (h1 ▸ ht)
    have := hok.room i d0 h0 (h1 ▸ ht)
    rw [h2]
    simp [cnt]
    omega
  · obtain ⟨d0, _, _, _, _, _, h3⟩ := back i d hd
    exact h3 b hb
/-- Block b is a map from numbers, and has just these. -/
def EndMap (w : World) (b : Nat) (es : List Nat) : Prop :=
  ∃ D : DataW Unit, w.ownsMap Tryd.prog 3 (plainElem Tryd.prog 3) b es.length D ∧ ∀ j : Nat, (es.contains j = true → ∃ y, ∀ zd, D.atKey (.int .i64 (j : Int)) zd = y) ∧ (es.contains j = false → ∀ zd, D.atKey (.int .i64 (j : Int)) zd = zd)
theorem EndMap.made (w : World) : EndMap (w.alloc (.map #[] 0)) w.heap.size [] := ⟨.map [], World.ownsMap_made w _ _ _, fun j => ⟨fun h => by simp at h, fun _ zd => rfl⟩⟩
theorem EndMap.lt {w : World} {b : Nat} {es : List Nat} (h : EndMap w b es) : b < w.heap.size := by obtain ⟨D, h, _⟩ := h; exact h.lt
theorem EndMap.heap {w w' : World} {b : Nat} {es : List Nat} (h : EndMap w b es) (hk : w'.heap[b]? = w.heap[b]?) : EndMap w' b es := by
  obtain ⟨D, ⟨es, clock, hb, hr⟩, h2⟩ := h
  exact ⟨D, ⟨es, clock, hk.trans hb, hr⟩, h2⟩
theorem zeroInt (w : World) : (zeroValue 3).run Tryd.prog w = .ok (.int .i64 0) w := by
  have h : (Tryd.prog.info? 3).map (·.zero) = some (some (.int .i64 0)) := by kernel_rfl
  cases hi : Tryd.prog.info? 3 with
  | none => rw [hi] at h; cases h
  | some i =>
    rw [hi] at h
    simp only [Option.map_some, Option.some.injEq] at h
    simp [zeroValue, typeInfo, hi, h, program, Sem.run]
theorem EndMap.run_lookup {w : World} {b : Nat} {es : List Nat} (h : EndMap w b es) {j : Nat} (hj : j < 9223372036854775808) :
    ∃ v, (Instr.lookup 122 (.map (some b)) (.int .i64 (j : Int)) true).run Tryd.prog w = .ok (.tuple #[v, .bool (es.contains j)]) w := by
  obtain ⟨D, ⟨me, clock, hb, hF, _, rfl⟩, hat⟩ := h
  rcases Maps.fit_look true keyed Tryd.underlying122 (zeroInt w) hb hF (keyOf_nat hj) with ⟨hrun, _, ha⟩ | ⟨e0, y, _, _, hrun, _, ha, _⟩
  · refine ⟨.int .i64 0, hrun.trans ?_⟩
    cases hc : es.contains j with
    | false => rfl
    | true =>
      obtain ⟨y, hy⟩ := (hat j).1 hc
      have h1 := (ha (.lit (.int .i64 0))).symm.trans (hy _)
      have h2 := (ha (.lit (.int .i64 1))).symm.trans (hy _)
      exact absurd (h1.trans h2.symm) (by simp)
  · refine ⟨e0.val, hrun.trans ?_⟩
    cases hc : es.contains j with
    | true => rfl
    | false =>
      have hy := (hat j).2 hc
      have h1 := (ha (.lit (.int .i64 0))).symm.trans (hy _)
      have h2 := (ha (.lit (.int .i64 1))).symm.trans (hy _)
      exact absurd (h1.symm.trans h2) (by simp)
theorem EndMap.run_update {w : World} {b : Nat} {es : List Nat} (h : EndMap w b es) {j : Nat} (hj : j < 9223372036854775808) {q : Nat} (hq : q < 9223372036854775808) (hl : es.length ≤ 1000000000) :
    ∃ w', (Instr.mapUpdate 122 (.map (some b)) (.int .i64 (j : Int)) (.int .i64 (q : Int))).run Tryd.prog w = .ok () w' ∧ EndMap w' b (es ++ [j]) ∧ w.grownBy w' (some b) := by
  obtain ⟨D, ho, hat⟩ := h
  have hkk := keyOf_nat hj
  obtain ⟨w', hrun, ho', hg⟩ := ho.update keyed Tryd.underlying122 (by unfold maxLen; omega) hkk (plainElem_int Tryd.underlying3 (wf_nat hq))
  have hm : Maps.IsMap D := by obtain ⟨es, e, _⟩ := ho.entries keyed; exact ⟨es, e⟩
  have hlk : WideAt.IsKeyLit (.int .i64 (j : Int)) := keyed.key hkk
  refine ⟨w', hrun, ⟨_, by simpa using ho', fun i => ?_⟩, hg⟩
  have hcon : (es ++ [j]).contains i = (es.contains i || decide (i = j)) := by
    rw [Bool.eq_iff_iff]
    simp
  rw [hcon]
  by_cases e : i = j
  · subst e
    refine ⟨fun _ => ⟨_, fun zd => Maps.atKey_put_same hm hlk _ _⟩, fun h => by simp at h⟩
  · have hne : (Lit.int .i64 (i : Int)) ≠ .int .i64 (j : Int) := by
      intro h
      injection h with _ h
      omega
    simp only [e, decide_false, Bool.or_false]
    refine ⟨fun hc => ?_, fun hc zd => ?_⟩
    · obtain ⟨y, hy⟩ := (hat i).1 hc
      exact ⟨y, fun zd => (Maps.atKey_put_other hne _ _).trans (hy zd)⟩
    · exact (Maps.atKey_put_other hne _ _).trans ((hat i).2 hc zd)
section
variable {w : World} {ops : Array Oper} {rest : List Oper} {o : Oper} {a : Act} {Q : Exit → Act → World → Prop}
/-- 'm[k] = v' at a map of numbers. -/
theorem wpList_put_end (hg : o.guard = none) (m x v : Operand) (hop : o.op = .mapUpdate 122 m x v) (b : Nat) (es : List Nat) (j q : Nat)
    (hm : a.eval m = .map (some b)) (hx : a.eval x = .int .i64 (j : Int)) (hv : a.eval v = .int .i64 (q : Int)) (h : EndMap w b es) (hj : j < 9223372036854775808) (hq : q < 9223372036854775808) (hl : es.length ≤ 1000000000)
    (hK : ∀ w', EndMap w' b (es ++ [j]) → w.grownBy w' (some b) → wpList Tryd.prog ops Q rest (a.put o.dst undef) w') : wpList Tryd.prog ops Q (o :: rest) a w := by
  refine wpList_plain hg fun K' hK' => ?_
  obtain ⟨w', hrun, r1, r2⟩ := h.run_update hj hq hl
  unfold Oper.wp
  simp [execOp, hop, hm, hx, hv, hrun, Result.andThen]
  exact hK' _ _ (hK w' r1 r2)
end
theorem IAt.mods {w w' : World} {A : Option Addr} {zs : List Int} {B : Nat} {F : Nat → Prop} (h : IAt w A zs) (hm : Mods B F w w') (hB : w.heap.size ≤ B) (hn : zs ≠ [] → ∀ ad, A = some ad → ¬ F ad.block) : IAt w' A zs := by
  rcases h with h | ⟨ad, hA, hc⟩
  · exact .inl h
  · refine .inr ⟨ad, hA, fun k z hz => ?_⟩
    have hlt := cell_lt (hc k z hz)
    have hb : (ad.add k).block = ad.block := by unfold Addr.add; split <;> rfl
    have hk := hm.keep (ad.add k).block (Nat.lt_of_lt_of_le hlt hB) (by
      rw [hb]
      exact hn (by rintro rfl; simp at hz) ad hA)
    have := hc k z hz
    simp only [World.cell?] at this ⊢
    rw [hk]
    exact this
/-- A device's row turns: how many wait. -/
theorem DevsAt.zero {w : World} {F : Nat → Prop} {g n cap : Nat} {ds : List Dev} {wc wc' : Nat → Nat} (h : DevsAt w F (.slice (some ⟨g, 0, none⟩) n cap) ds wc) {j : Nat} (hj : j < ds.length) (h1 : wc' j = 0) (h2 : ∀ i, i ≠ j → wc' i = wc i) :
    DevsAt (w.setCell ⟨g, j * 5 + 4, none⟩ (.int .i64 0)) F (.slice (some ⟨g, 0, none⟩) n cap) ds wc' := by
  have hdj : ds[j]? = some ds[j] := List.getElem?_eq_getElem hj
  have ht := h.turn hdj 4 (by omega) (.int .i64 0) ds[j] h2 (fun m => by rw [h1]; rfl) rfl
  rwa [list_set_self hdj] at ht
end Go.Proofs.YtloffgoenaomkaaDoor.Pl
/- What is so of every plant stays so, whatever is called. No program. -/
namespace Go.Proofs.YtloffgoenaomkaaDoor.Pl
open Go Go.RowKit Mem
theorem newM_ok {zs1 zs2 : List Int} {p : PM} (h : newM zs1 zs2 = some p) : p.Ok ∧ p.Low ∧ p.steps = 0 ∧ p.waits = [] ∧ p.disks = zs1.map Int.toNat ∧ p.tapes = zs2.map Int.toNat ∧ p.off = false ∧ p.fuse = none ∧ (∀ z ∈ zs1 ++ zs2, 1 ≤ z ∧ z ≤ 4096) := by
  unfold newM at h
  split at h
  · cases h
  · rename_i hc
    injection h with h
    subst h
    have hall : ∀ z ∈ zs1 ++ zs2, 1 ≤ z ∧ z ≤ 4096 := fun z hz => by
      rcases Int.lt_or_le z 1 with h1 | h1
      · exact absurd (.inr (.inr (List.any_eq_true.2 ⟨z, hz, by simp; omega⟩))) hc
      · rcases Int.lt_or_le 4096 z with h2 | h2
        · exact absurd (.inr (.inr (List.any_eq_true.2 ⟨z, hz, by simp; omega⟩))) hc
        · exact ⟨h1, h2⟩
    have hn : zs1.length + zs2.length ≠ 0 ∧ zs1.length + zs2.length ≤ 12 := by omega
    have hl : (newDevs (zs1.map Int.toNat) (zs2.map Int.toNat)).length = zs1.length + zs2.length := by simp [newDevs]
    have hget : ∀ (i : Nat) (d : Dev), (newDevs (zs1.map Int.toNat) (zs2.map Int.toNat))[i]? = some d → (i < zs1.length ∧ ∃ z, (zs1 ++ zs2)[i]? = some z ∧ d = ⟨false, z.toNat, List.replicate z.toNat zeros⟩) ∨ (zs1.length ≤ i ∧ ∃ z, (zs1 ++ zs2)[i]? = some z ∧ d = ⟨true, z.toNat, []⟩) := fun i d hd => by
      unfold newDevs at hd
      rcases Nat.lt_or_ge i zs1.length with hi | hi
      · left
        rw [List.getElem?_append_left (by simpa using hi)] at hd
        rw [List.getElem?_append_left hi, List.getElem?_eq_getElem hi]
        simp [hi] at hd
        exact ⟨hi, _, rfl, hd.symm⟩
      · right
        rw [List.getElem?_append_right (by simpa using hi)] at hd
        rw [List.getElem?_append_right hi]
        simp only [List.length_map, List.getElem?_map, Option.map_eq_some_iff] at hd
        obtain ⟨n, ⟨z, hz, rfl⟩, rfl⟩ := hd
        exact ⟨hi, z, hz, rfl⟩
    refine ⟨⟨by rw [hl]; omega, by rw [hl]; omega, by rw [hl]; simp, fun i d hd => ?_, fun i d hd => ?_, fun i d hd ht => ?_, fun i d hd ht => ?_, fun i d b hd hb => ?_, by simp, by simp, by simp, fun i d hd ht => ?_, by simp, by simp [PM.fuseI]⟩, ⟨by simp, by simp⟩, rfl, rfl, rfl, rfl, rfl, rfl, hall⟩
    · rcases hget i d hd with ⟨hi, z, hz, rfl⟩ | ⟨hi, z, hz, rfl⟩
      · simp; omega
      · simp; omega
    · rw [← List.map_append, List.getElem?_map]
      rcases hget i d hd with ⟨hi, z, hz, rfl⟩ | ⟨hi, z, hz, rfl⟩
      · have := hall z (List.mem_of_getElem? hz)
        rw [hz]
        exact ⟨rfl, by show 1 ≤ z.toNat; omega, by show z.toNat ≤ 4096; omega⟩
      · have := hall z (List.mem_of_getElem? hz)
        rw [hz]
        exact ⟨rfl, by show 1 ≤ z.toNat; omega, by show z.toNat ≤ 4096; omega⟩
    · rcases hget i d hd with ⟨hi, z, hz, rfl⟩ | ⟨hi, z, hz, rfl⟩
      · simp
      · simp at ht
    · rcases hget i d hd with ⟨hi, z, hz, rfl⟩ | ⟨hi, z, hz, rfl⟩
      · simp at ht
      · simp [cnt]
    · rcases hget i d hd with ⟨hi, z, hz, rfl⟩ | ⟨hi, z, hz, rfl⟩
      · simp at hb
        rw [hb.2]; exact zeros_len
      · simp at hb
    · rcases hget i d hd with ⟨hi, z, hz, rfl⟩ | ⟨hi, z, hz, rfl⟩
      · simp at ht
      · simp [cnt]
/-- Only power, fuse, steps or clock are others. -/
theorem PM.Ok.same {p q : PM} (h : p.Ok) (h1 : q.disks = p.disks) (h2 : q.tapes = p.tapes) (h3 : q.devs = p.devs) (h4 : q.waits = p.waits) (h5 : q.now ≤ 1099511627776) (h6 : q.fuseI < 9223372036854775808) : q.Ok := by
  obtain ⟨a1, a2, a3, a4, a5, a6, a7, a8, a9, a10, a11, a12, _, _⟩ := h
  constructor
  all_goals first
    | exact h5
    | exact h6
    | (rw [h3]; first | exact a1 | exact a2)
    | (rw [h3, h1, h2]; exact a3)
    | (rw [h3, h1]; exact a4)
    | (rw [h3, h1, h2]; exact a5)
    | (rw [h3]; exact a6)
    | (rw [h3, h4]; exact a7)
    | (rw [h3]; exact a8)
    | (rw [h3, h4]; exact a9)
    | (rw [h4]; exact a10)
    | (rw [h3, h4]; exact a11)
    | (rw [h3, h4]; exact a12)
theorem PM.Ok.step {p : PM} (h : p.Ok) : p.step.1.Ok := by
  obtain ⟨h1, h2, h3, h4, h5⟩ := PM.step_same p
  refine h.same h1 h2 h3 h4 (by rw [h5]; exact h.now) ?_
  have := h.fuse
  unfold PM.step PM.fuseI at *
  cases hf : p.fuse with
  | none => rw [hf] at this; simp
  | some n =>
    rw [hf] at this
    cases n with
    | zero => simp
    | succ n => simp at this ⊢; omega
theorem PM.step_steps (p : PM) : p.step.1.steps ≤ p.steps + 1 ∧ p.step.1.waits = p.waits := by
  refine ⟨?_, (PM.step_same p).2.2.2.1⟩
  unfold PM.step
  split <;> simp
/-- A write more waits. -/
theorem PM.Ok.wait {p : PM} (h : p.Ok) {j k : Nat} {b : List UInt8} {d : Dev} (hd : p.devs[j]? = some d) (hb : b.length = 64) (hk : k < d.most) (ht : d.tape = true → k = d.has.length + cnt p.waits j ∧ d.has.length + cnt p.waits j < d.most) : PM.Ok { p with waits := p.waits ++ [⟨j, k, b⟩] } := by
  have hj : j < p.devs.length := (List.getElem?_eq_some_iff.1 hd).1
  refine ⟨h.n1, h.n12, h.shape, h.tape, h.most, h.disk, fun i e he hte => ?_, h.sec, fun x hx => ?_, fun x hx => ?_, fun x hx e he => ?_, fun i e he hte => ?_, h.now, h.fuse⟩
  · show e.has.length + cnt (p.waits ++ [⟨j, k, b⟩]) i ≤ e.most
    have := h.room i e he hte
    rw [cnt_snoc]
    show _ + (_ + if j = i then 1 else 0) ≤ _
    by_cases hi : j = i
    · subst hi
      rw [hd] at he
      injection he with he
      subst he
      have := ht hte
      rw [if_pos rfl]
      omega
    · rw [if_neg hi]
      omega
  · rcases List.mem_append.1 hx with hx | hx
    · exact h.wdev x hx
    · simp at hx; subst hx; exact hj
  · rcases List.mem_append.1 hx with hx | hx
    · exact h.wlen x hx
    · simp at hx; subst hx; exact hb
  · rcases List.mem_append.1 hx with hx | hx
    · exact h.wplace x hx e he
    · simp at hx; subst hx
      have e2 : some e = some d := he.symm.trans hd
      injection e2 with e2
      subst e2
      exact hk
  · show ((p.waits ++ [(⟨j, k, b⟩ : Wr)]).filter fun (x : Wr) => x.dev == i).map (fun (x : Wr) => x.place) = List.range' e.has.length (cnt (p.waits ++ [⟨j, k, b⟩]) i)
    have hw := h.wtape i e he hte
    rw [List.filter_append, List.map_append, hw, cnt_snoc]
    show _ = List.range' e.has.length (cnt p.waits i + if j = i then 1 else 0)
    by_cases hi : j = i
    · subst hi
      rw [hd] at he
      injection he with he
      subst he
      rw [if_pos rfl, List.range'_concat, (ht hte).1]
      simp
    · simp [hi]
theorem PM.Ok.give {p : PM} (h : p.Ok) {j k : Nat} {b : List UInt8} {d : Dev} (hd : p.devs[j]? = some d) (hb : b.length = 64) (hk : k < d.most) (ht : d.tape = true → k = d.has.length + cnt p.waits j ∧ d.has.length + cnt p.waits j < d.most) : (p.give j k b).1.Ok := by
  unfold PM.give
  obtain ⟨_, _, h3, h4, _⟩ := PM.step_same p
  split
  · refine h.step.wait (d := d) (by rw [h3]; exact hd) hb hk (by rw [h4]; exact ht)
  · exact h.step
theorem PM.give_low (p : PM) (j k : Nat) (b : List UInt8) : (p.give j k b).1.steps ≤ p.steps + 1 ∧ (p.give j k b).1.waits.length ≤ p.waits.length + 1 := by
  obtain ⟨h1, h2⟩ := PM.step_steps p
  unfold PM.give
  split
  · exact ⟨h1, by simp [h2]⟩
  · exact ⟨h1, by rw [h2]; omega⟩
theorem PM.Ok.write {p : PM} (h : p.Ok) (i k : Int) (b : List UInt8) : (p.write i k b).1.Ok := by
  unfold PM.write
  split
  · exact h
  · split
    · exact h
    · split
      · exact h
      · rename_i j hj d hd
        split
        · exact h
        · rename_i hc
          split
          · exact h
          · rename_i hl
            refine h.give hd (by omega) (by omega) (fun ht => absurd (.inl ht) hc)
theorem PM.write_low (p : PM) (i k : Int) (b : List UInt8) : (p.write i k b).1.steps ≤ p.steps + 1 ∧ (p.write i k b).1.waits.length ≤ p.waits.length + 1 := by
  have h0 : p.steps ≤ p.steps + 1 ∧ p.waits.length ≤ p.waits.length + 1 := by omega
  unfold PM.write
  split
  · exact h0
  · split
    · exact h0
    · split
      · exact h0
      · split
        · exact h0
        · split
          · exact h0
          · exact PM.give_low _ _ _ _
theorem PM.Ok.append {p : PM} (h : p.Ok) (i : Int) (b : List UInt8) : (p.append i b).1.Ok := by
  unfold PM.append
  split
  · exact h
  · split
    · exact h
    · split
      · exact h
      · rename_i j hj x d hd
        split
        · exact h
        · rename_i ht
          split
          · exact h
          · rename_i hl
            split
            · exact h
            · rename_i hs
              have ht2 : d.tape = true := by simpa using ht
              have hr := h.room j d hd ht2
              have hsz : d.size p.waits j = d.has.length + cnt p.waits j := by unfold Dev.size; rw [if_pos ht2]
              have hg : (p.give j (d.size p.waits j) b).1.Ok := h.give hd (by omega) (by omega) (fun _ => ⟨hsz, by omega⟩)
              split <;> exact hg
theorem PM.append_low (p : PM) (i : Int) (b : List UInt8) : (p.append i b).1.steps ≤ p.steps + 1 ∧ (p.append i b).1.waits.length ≤ p.waits.length + 1 := by
  have h0 : p.steps ≤ p.steps + 1 ∧ p.waits.length ≤ p.waits.length + 1 := by omega
  unfold PM.append
  split
  · exact h0
  · split
    · exact h0
    · split
      · exact h0
      · split
        · exact h0
        · split
          · exact h0
          · split
            · exact h0
            · split <;> exact PM.give_low _ _ _ _
theorem PM.Ok.setFuse {p : PM} (h : p.Ok) {n : Int} (hn : n < 9223372036854775808) : (p.setFuse n).Ok := by
  unfold PM.setFuse
  split
  · exact h
  · refine h.same rfl rfl rfl rfl h.now ?_
    unfold PM.fuseI
    by_cases h0 : n < 0
    · rw [if_pos h0]
      show (-1 : Int) < _
      omega
    · rw [if_neg h0]
      show ((n.toNat : Nat) : Int) < _
      omega
theorem PM.setFuse_low (p : PM) (n : Int) : (p.setFuse n).steps = p.steps ∧ (p.setFuse n).waits = p.waits := by
  unfold PM.setFuse
  split <;> exact ⟨rfl, rfl⟩
theorem fold_sec {j : Nat} : ∀ (xs : List Wr) (ds : List Dev), (∀ x ∈ xs, x.b.length = 64) → (∀ d ∈ ds, ∀ b ∈ d.has, b.length = 64) → ∀ d ∈ xs.foldl settle ds, ∀ b ∈ d.has, b.length = 64
  | [], ds, _, h => h
  | x :: xs, ds, hx, h => by
    rw [List.foldl_cons]
    refine fold_sec (j := j) xs (settle ds x) (fun y hy => hx y (by simp [hy])) fun d hd b hb => ?_
    cases hg : ds[x.dev]? with
    | none =>
      have e : settle ds x = ds := by
        unfold settle
        refine List.ext_getElem? fun q => ?_
        rw [List.getElem?_modify]
        by_cases hq : x.dev = q
        · subst hq; simp [hg]
        · simp [hq]
      rw [e] at hd
      exact h d hd b hb
    | some d0 =>
      rw [settle_get ds x hg] at hd
      rcases List.mem_or_eq_of_mem_set hd with hd | rfl
      · exact h d hd b hb
      · have h0 := h d0 (List.mem_of_getElem? hg)
        unfold Dev.settle at hb
        split at hb
        · rcases List.mem_append.1 hb with hb | hb
          · exact h0 b hb
          · simp at hb; rw [hb]; exact hx x (by simp)
        · rcases List.mem_or_eq_of_mem_set hb with hb | hb
          · exact h0 b hb
          · rw [hb]; exact hx x (by simp)
theorem PM.Ok.flushed {p : PM} (h : p.Ok) {j : Nat} (hj : j < p.devs.length) : PM.Ok { p with devs := (hit j p.waits).foldl settle p.devs, waits := flt j p.waits } := by
  have hd : p.devs[j]? = some p.devs[j] := List.getElem?_eq_getElem hj
  generalize p.devs[j] = d at hd
  obtain ⟨d', h1, h2, h3, h4, h5, h6⟩ := fold_hit (hit j p.waits) p.devs d (fun y hy => by simpa using (List.mem_filter.1 hy).2) hd
  have hcnt : (hit j p.waits).length = cnt p.waits j := by unfold hit cnt; rw [List.countP_eq_length_filter]
  have back : ∀ (i : Nat) (e : Dev), ((hit j p.waits).foldl settle p.devs)[i]? = some e → (i = j ∧ e = d') ∨ (i ≠ j ∧ p.devs[i]? = some e) := fun i e he => by
    by_cases hi : i = j
    · subst hi
      rw [h1] at he
      injection he with he
      exact .inl ⟨rfl, he.symm⟩
    · rw [h5 i hi] at he
      exact .inr ⟨hi, he⟩
  have hfc : ∀ i, i ≠ j → cnt (flt j p.waits) i = cnt p.waits i := fun i hi => by
    unfold cnt flt
    rw [List.countP_filter]
    refine List.countP_congr fun y _ => ?_
    cases h : (y.dev == i) with
    | false => simp
    | true =>
      have : y.dev = i := by simpa using h
      simp [this, hi]
  have hfj : cnt (flt j p.waits) j = 0 := by
    unfold cnt flt
    rw [List.countP_filter]
    refine List.countP_eq_zero.2 fun y _ => ?_
    cases h : (y.dev == j) <;> simp
  have hmem : ∀ x ∈ flt j p.waits, x ∈ p.waits := fun x hx => (List.mem_filter.1 hx).1
  refine ⟨by rw [h6]; exact h.n1, by rw [h6]; exact h.n12, by rw [h6]; exact h.shape, fun i e he => ?_, fun i e he => ?_, fun i e he ht => ?_, fun i e he ht => ?_, fun i e b he hb => ?_, fun x hx => by rw [h6]; exact h.wdev x (hmem x hx), fun x hx => h.wlen x (hmem x hx), fun x hx e he => ?_, fun i e he ht => ?_, h.now, h.fuse⟩
  · rcases back i e he with ⟨rfl, rfl⟩ | ⟨_, he⟩
    · rw [h2]; exact h.tape _ d hd
    · exact h.tape i e he
  · rcases back i e he with ⟨rfl, rfl⟩ | ⟨_, he⟩
    · rw [h3]; exact h.most _ d hd
    · exact h.most i e he
  · rcases back i e he with ⟨rfl, rfl⟩ | ⟨_, he⟩
    · rw [h2] at ht
      rw [h4, h3, if_neg (by simp [ht])]; exact h.disk _ d hd ht
    · exact h.disk i e he ht
  · rcases back i e he with ⟨rfl, rfl⟩ | ⟨hi, he⟩
    · rw [h2] at ht
      have := h.room _ d hd ht
      show e.has.length + cnt (flt i p.waits) i ≤ _
      rw [hfj, h4, h3, if_pos ht]
      omega
    · show e.has.length + cnt (flt j p.waits) i ≤ _
      rw [hfc i hi]; exact h.room i e he ht
  · exact fold_sec (j := j) _ p.devs (fun x hx => h.wlen x (List.mem_filter.1 hx).1) (fun d hd b hb => by
      obtain ⟨i, hi, rfl⟩ := List.getElem_of_mem hd
      exact h.sec i _ b (List.getElem?_eq_getElem hi) hb) e (List.mem_of_getElem? he) b hb
  · rcases back x.dev e he with ⟨hxj, rfl⟩ | ⟨_, he⟩
    · rw [h3]; exact h.wplace x (hmem x hx) d (by rw [hxj]; exact hd)
    · exact h.wplace x (hmem x hx) e he
  · show ((flt j p.waits).filter fun x => x.dev == i).map (·.place) = List.range' e.has.length (cnt (flt j p.waits) i)
    rcases back i e he with ⟨rfl, rfl⟩ | ⟨hi, he⟩
    · rw [hfj]
      have : (flt i p.waits).filter (fun x => x.dev == i) = [] := List.filter_eq_nil_iff.2 fun y hy => by
        have := (List.mem_filter.1 hy).2
        simpa using this
      rw [this]
      rfl
    · rw [hfc i hi, ← h.wtape i e he ht]
      unfold flt
      rw [List.filter_filter]
      congr 1
      refine List.filter_congr fun y _ => ?_
      cases hy : (y.dev == i) with
      | false => simp
      | true =>
        have : y.dev = i := by simpa using hy
        simp [this, hi]
theorem PM.Ok.flush {p : PM} (h : p.Ok) (i : Int) : (p.flush i).1.Ok := by
  unfold PM.flush
  split
  · exact h
  · split
    · exact h
    · rename_i j hj
      split
      · obtain ⟨_, _, h3, h4, _⟩ := PM.step_same p
        have := h.step.flushed (j := j) (by rw [h3]; exact (PM.num_some hj).2)
        rw [h3, h4] at this
        exact this
      · exact h.step
theorem PM.flush_low (p : PM) (i : Int) : (p.flush i).1.steps ≤ p.steps + 1 ∧ (p.flush i).1.waits.length ≤ p.waits.length := by
  obtain ⟨h1, h2⟩ := PM.step_steps p
  unfold PM.flush
  split
  · exact ⟨Nat.le_succ _, Nat.le_refl _⟩
  · split
    · exact ⟨Nat.le_succ _, Nat.le_refl _⟩
    · split
      · exact ⟨h1, List.length_filter_le _ _⟩
      · exact ⟨h1, by rw [h2]; exact Nat.le_refl _⟩
theorem PM.boot_low (p : PM) (keep : List Int) : (p.boot keep).steps = p.steps ∧ (p.boot keep).waits = [] := ⟨rfl, rfl⟩
end Go.Proofs.YtloffgoenaomkaaDoor.Pl
/- A plant's disk in plain terms: what it has for good, what waits for it; what each call does to it. No program. -/
namespace Go.Proofs.YtloffgoenaomkaaDoor.Disk
open Go Go.RowKit Mem Pl
/-- What waits for a disk: places and bytes, in order. -/
abbrev Ws := List (Nat × List UInt8)
def waitsOf (p : PM) (i : Nat) : Ws := (p.waits.filter fun x => x.dev == i).map fun x => (x.place, x.b)
def setAll (ws : Ws) (H : List (List UInt8)) : List (List UInt8) := ws.foldl (fun l x => l.set x.1 x.2) H
/-- What is read at a place. -/
def lastAt (ws : Ws) (k : Nat) (b : List UInt8) : List UInt8 := ws.foldl (fun b x => if x.1 = k then x.2 else b) b
structure Disk (p : PM) (i n : Nat) (H : List (List UInt8)) (ws : Ws) : Prop where
  dev : p.devs[i]? = some ⟨false, n, H⟩
  ws : waitsOf p i = ws
theorem setAll_len (ws : Ws) : ∀ H : List (List UInt8), (setAll ws H).length = H.length := by
  induction ws with
  | nil => intro H; rfl
  | cons x ws ih => intro H; show (setAll ws (H.set x.1 x.2)).length = _; rw [ih, List.length_set]
theorem setAll_append (ws vs : Ws) (H : List (List UInt8)) : setAll (ws ++ vs) H = setAll vs (setAll ws H) := List.foldl_append
/-- A place that nothing is written to keeps its bytes. -/
theorem setAll_far (ws : Ws) (k : Nat) : ∀ H : List (List UInt8), (∀ x ∈ ws, x.1 ≠ k) → (setAll ws H)[k]? = H[k]? := by
  induction ws with
  | nil => intro H _; rfl
  | cons x ws ih =>
    intro H h
    show (setAll ws (H.set x.1 x.2))[k]? = _
    rw [ih _ fun y hy => h y (by simp [hy]), List.getElem?_set_ne (h x (by simp))]
theorem lastAt_far (ws : Ws) (k : Nat) : ∀ b : List UInt8, (∀ x ∈ ws, x.1 ≠ k) → lastAt ws k b = b := by
  induction ws with
  | nil => intro b _; rfl
  | cons x ws ih =>
    intro b h
    show lastAt ws k (if x.1 = k then x.2 else b) = _
    rw [if_neg (h x (by simp)), ih _ fun y hy => h y (by simp [hy])]
theorem setAll_get (ws : Ws) (k : Nat) : ∀ (H : List (List UInt8)) (b : List UInt8), H[k]? = some b → (setAll ws H)[k]? = some (lastAt ws k b) := by
  induction ws with
  | nil => intro H b h; exact h
  | cons x ws ih =>
    intro H b h
    show (setAll ws (H.set x.1 x.2))[k]? = some (lastAt ws k (if x.1 = k then x.2 else b))
    refine ih _ _ ?_
    have hk := (List.getElem?_eq_some_iff.1 h).1
    by_cases he : x.1 = k
    · rw [if_pos he, he, List.getElem?_set_self hk]
    · rw [if_neg he, List.getElem?_set_ne he]; exact h
theorem lastW_waits (ws : List Wr) (i k : Nat) : ∀ b : List UInt8, lastW ws i k b = lastAt ((ws.filter fun x => x.dev == i).map fun x => (x.place, x.b)) k b := by
  induction ws with
  | nil => intro b; rfl
  | cons x ws ih =>
    intro b
    show lastW ws i k (if x.dev = i ∧ x.place = k then x.b else b) = _
    rw [ih]
    by_cases h : x.dev = i
    · rw [List.filter_cons_of_pos (by simpa using h)]
      simp only [List.map_cons]
      show _ = lastAt _ k (if x.place = k then x.b else b)
      simp [h]
    · rw [List.filter_cons_of_neg (by simpa using h), if_neg (fun h' => h h'.1)]
section
variable {p : PM} {i j n m : Nat} {H K : List (List UInt8)} {ws vs : Ws}
theorem Disk.lt (h : Disk p i n H ws) : i < p.devs.length := (List.getElem?_eq_some_iff.1 h.dev).1
theorem Disk.num (h : Disk p i n H ws) : p.num i = some i := PM.num_nat h.lt
theorem Disk.len (h : Disk p i n H ws) (hok : p.Ok) : H.length = n := hok.disk i _ h.dev rfl
theorem Disk.sec (h : Disk p i n H ws) (hok : p.Ok) : ∀ b ∈ H, b.length = 64 := fun b hb => hok.sec i _ b h.dev hb
theorem Disk.size (h : Disk p i n H ws) (hok : p.Ok) : 1 ≤ n ∧ n ≤ 4096 := (hok.most i _ h.dev).2
theorem Disk.read (h : Disk p i n H ws) (hon : p.off = false) {k : Nat} (hk : k < n) : p.read i k = (some (lastAt ws k (H.getD k zeros)), 0) := by
  unfold PM.read
  rw [hon, h.num]
  simp only [h.dev, Bool.false_eq_true, if_false]
  have h1 : (0 : Int) ≤ (k : Int) ∧ (k : Int) < ((⟨false, n, H⟩ : Dev).size p.waits i : Int) := ⟨by omega, by show (k : Int) < (n : Int); omega⟩
  rw [if_pos h1, lastW_waits, ← h.ws]
  rfl
/-- A step: the power goes off at it, or it is done. -/
def pred : Option Nat → Option Nat
  | some (n + 1) => some n
  | _ => none
theorem step_off (h : p.fuse = some 0) : p.step = ({ p with off := true, fuse := none }, false) := by unfold PM.step; rw [h]
theorem step_on (h : p.fuse ≠ some 0) : p.step = ({ p with fuse := pred p.fuse, steps := p.steps + 1 }, true) := by
  unfold PM.step
  match hf : p.fuse, h with
  | none, _ => rfl
  | some 0, h => exact absurd rfl h
  | some (n + 1), _ => rfl
theorem write_eq (h : Disk p i n H ws) (hon : p.off = false) {k : Nat} (hk : k < n) {b : List UInt8} (hb : b.length = 64) : p.write i k b = p.give i k b := by
  unfold PM.write
  rw [hon, h.num]
  simp only [h.dev, Bool.false_eq_true, if_false, false_or]
  rw [if_neg (by omega), if_neg (by omega)]
  rfl
theorem write_off (h : Disk p i n H ws) (hon : p.off = false) (hf : p.fuse = some 0) {k : Nat} (hk : k < n) {b : List UInt8} (hb : b.length = 64) : p.write i k b = ({ p with off := true, fuse := none }, 2) := by
  rw [write_eq h hon hk hb]
  unfold PM.give
  rw [step_off hf]
  rfl
theorem write_on (h : Disk p i n H ws) (hon : p.off = false) (hf : p.fuse ≠ some 0) {k : Nat} (hk : k < n) {b : List UInt8} (hb : b.length = 64) :
    p.write i k b = ({ p with fuse := pred p.fuse, steps := p.steps + 1, waits := p.waits ++ [⟨i, k, b⟩] }, 0) := by
  rw [write_eq h hon hk hb]
  unfold PM.give
  rw [step_on hf]
  rfl
theorem flush_off (h : Disk p i n H ws) (hon : p.off = false) (hf : p.fuse = some 0) : p.flush i = ({ p with off := true, fuse := none }, 2) := by
  unfold PM.flush
  rw [hon, h.num, step_off hf]
  rfl
theorem flush_on (h : Disk p i n H ws) (hon : p.off = false) (hf : p.fuse ≠ some 0) :
    p.flush i = ({ p with fuse := pred p.fuse, steps := p.steps + 1, devs := (p.waits.filter fun x => x.dev == i).foldl Pl.settle p.devs, waits := p.waits.filter fun x => !(x.dev == i) }, 0) := by
  unfold PM.flush
  rw [if_neg (by rw [hon]; simp), h.num, step_on hf]
  rfl
/-- Only the switch, the fuse, the count of steps changed. -/
theorem Disk.same {q : PM} (h : Disk p i n H ws) (h1 : q.devs = p.devs) (h2 : q.waits = p.waits) : Disk q i n H ws := ⟨by rw [h1]; exact h.dev, by unfold waitsOf; rw [h2]; exact h.ws⟩
theorem Disk.wrote {q : PM} (h : Disk p i n H ws) {k : Nat} {b : List UInt8} (h1 : q.devs = p.devs) (h2 : q.waits = p.waits ++ [⟨i, k, b⟩]) : Disk q i n H (ws ++ [(k, b)]) := by
  refine ⟨by rw [h1]; exact h.dev, ?_⟩
  unfold waitsOf
  rw [h2, List.filter_append, List.map_append, ← h.ws]
  simp [waitsOf]
theorem Disk.wroteElse {q : PM} (h : Disk p i n H ws) {k : Nat} {b : List UInt8} (hij : j ≠ i) (h1 : q.devs = p.devs) (h2 : q.waits = p.waits ++ [⟨j, k, b⟩]) : Disk q i n H ws := by
  refine ⟨by rw [h1]; exact h.dev, ?_⟩
  unfold waitsOf
  rw [h2, List.filter_append, List.map_append, ← h.ws]
  simp [waitsOf, hij]
theorem settle_get (ds : List Dev) (x : Wr) (i : Nat) : (Pl.settle ds x)[i]? = if x.dev = i then (ds[i]?).map fun d => d.settle x.place x.b else ds[i]? := by
  unfold Pl.settle
  rw [List.getElem?_modify]
  by_cases h : x.dev = i
  · rw [if_pos h]; simp only [if_pos h]; rfl
  · rw [if_neg h]; simp only [if_neg h]; simp
theorem fold_settle : ∀ (xs : List Wr) (ds : List Dev) (H : List (List UInt8)), ds[i]? = some ⟨false, n, H⟩ → (xs.foldl Pl.settle ds)[i]? = some ⟨false, n, setAll ((xs.filter fun x => x.dev == i).map fun x => (x.place, x.b)) H⟩
  | [], ds, H, h => h
  | x :: xs, ds, H, h => by
    rw [List.foldl_cons]
    by_cases hx : x.dev = i
    · have h1 : (Pl.settle ds x)[i]? = some ⟨false, n, H.set x.place x.b⟩ := by rw [settle_get, if_pos hx, h]; rfl
      rw [fold_settle xs _ _ h1, List.filter_cons_of_pos (by simpa using hx)]
      rfl
    · have h1 : (Pl.settle ds x)[i]? = some ⟨false, n, H⟩ := by rw [settle_get, if_neg hx, h]
      rw [fold_settle xs _ _ h1, List.filter_cons_of_neg (by simpa using hx)]
/-- A flush of this disk. -/
theorem Disk.flushed {q : PM} (h : Disk p i n H ws) (h1 : q.devs = (p.waits.filter fun x => x.dev == i).foldl Pl.settle p.devs) (h2 : q.waits = p.waits.filter fun x => !(x.dev == i)) : Disk q i n (setAll ws H) [] := by
  refine ⟨?_, ?_⟩
  · rw [h1, fold_settle _ _ _ h.dev, List.filter_filter, ← h.ws]
    simp [waitsOf]
  · unfold waitsOf
    rw [h2, List.filter_filter, List.filter_eq_nil_iff.2 (fun x _ => by simp)]
    rfl
/-- A flush of another. -/
theorem Disk.flushedElse {q : PM} (h : Disk p i n H ws) (hij : j ≠ i) (h1 : q.devs = (p.waits.filter fun x => x.dev == j).foldl Pl.settle p.devs) (h2 : q.waits = p.waits.filter fun x => !(x.dev == j)) : Disk q i n H ws := by
  refine ⟨?_, ?_⟩
  · rw [h1, fold_settle _ _ _ h.dev, List.filter_filter, List.filter_eq_nil_iff.2 (fun x _ => by simp; omega)]
    rfl
  · unfold waitsOf
    rw [h2, List.filter_filter, ← h.ws]
    unfold waitsOf
    congr 1
    refine List.filter_congr fun x _ => ?_
    by_cases hx : x.dev = i
    · simp [hx]; omega
    · simp [hx]
/-- A boot: some of what waited lasts. -/
theorem bootGo_disk (keep : List Int) : ∀ (xs : List Wr) (k : Nat) (ds : List Dev) (en : List Nat) (H : List (List UInt8)), ds[i]? = some ⟨false, n, H⟩ → i ∉ en →
    ∃ vs : Ws, (bootGo keep k xs (ds, en)).1[i]? = some ⟨false, n, setAll vs H⟩ ∧ vs.Sublist ((xs.filter fun x => x.dev == i).map fun x => (x.place, x.b))
  | [], k, ds, en, H, h, _ => ⟨[], h, List.nil_sublist _⟩
  | x :: xs, k, ds, en, H, h, he => by
    show ∃ vs : Ws, (bootGo keep (k + 1) xs (bootStep keep (ds, en) k x)).1[i]? = _ ∧ _
    by_cases hx : x.dev = i
    · have hf : ((x :: xs).filter fun x => x.dev == i) = x :: xs.filter fun x => x.dev == i := List.filter_cons_of_pos (by simpa using hx)
      rw [hf, List.map_cons]
      have hc : en.contains x.dev = false := by rw [hx]; simpa using he
      have htape : (ds[x.dev]?).any (·.tape) = false := by rw [hx, h]; rfl
      by_cases hk : keepAt keep k % 2 ≠ 0
      · have hb : bootStep keep (ds, en) k x = (Pl.settle ds x, en) := by unfold bootStep; simp only [hc, Bool.false_eq_true, if_false]; rw [if_pos hk]
        rw [hb]
        have h1 : (Pl.settle ds x)[i]? = some ⟨false, n, H.set x.place x.b⟩ := by rw [settle_get, if_pos hx, h]; rfl
        obtain ⟨vs, h2, h3⟩ := bootGo_disk keep xs (k + 1) _ en _ h1 he
        exact ⟨(x.place, x.b) :: vs, h2, h3.cons_cons _⟩
      · have hb : bootStep keep (ds, en) k x = (ds, en) := by unfold bootStep; simp only [hc, Bool.false_eq_true, if_false]; rw [if_neg hk]; simp only [htape, Bool.false_eq_true, if_false]
        rw [hb]
        obtain ⟨vs, h2, h3⟩ := bootGo_disk keep xs (k + 1) _ en _ h he
        exact ⟨vs, h2, h3.cons _⟩
    · have hf : ((x :: xs).filter fun x => x.dev == i) = xs.filter fun x => x.dev == i := List.filter_cons_of_neg (by simpa using hx)
      rw [hf]
      have h1 : (bootStep keep (ds, en) k x).1[i]? = some ⟨false, n, H⟩ ∧ i ∉ (bootStep keep (ds, en) k x).2 := by
        unfold bootStep
        simp only
        split
        · exact ⟨h, he⟩
        · split
          · exact ⟨by rw [settle_get, if_neg hx, h], he⟩
          · split
            · refine ⟨?_, by simp [he]; omega⟩
              split
              · rw [settle_get, if_neg hx, h]
              · exact h
            · exact ⟨h, he⟩
      obtain ⟨vs, h2, h3⟩ := bootGo_disk keep xs (k + 1) _ _ _ h1.1 h1.2
      exact ⟨vs, h2, h3⟩
theorem Disk.boot (h : Disk p i n H ws) (keep : List Int) : ∃ vs : Ws, Disk (p.boot keep) i n (setAll vs H) [] ∧ vs.Sublist ws := by
  obtain ⟨vs, h1, h2⟩ := bootGo_disk keep p.waits 0 p.devs [] H h.dev (by simp)
  refine ⟨vs, ⟨h1, rfl⟩, ?_⟩
  rw [← h.ws]
  exact h2
/-- A byte turned. -/
theorem Disk.rot (h : Disk p i n H ws) (hH : H.length = n) (k at_ : Int) (x : UInt8) :
    ∃ K, Disk (p.rot i k at_ x).1 i n K ws ∧ (p.rot i k at_ x).1.off = p.off ∧ (p.rot i k at_ x).1.fuse = p.fuse ∧
      K = if 0 ≤ k ∧ 0 ≤ at_ ∧ at_ < 64 ∧ k < n then H.set k.toNat ((H.getD k.toNat zeros).set at_.toNat (((H.getD k.toNat zeros).getD at_.toNat 0) ^^^ x)) else H := by
  unfold PM.rot
  rw [h.num]
  simp only [h.dev, hH]
  split
  · exact ⟨_, ⟨by rw [List.getElem?_set_self h.lt]; rfl, h.ws⟩, rfl, rfl, rfl⟩
  · exact ⟨H, h, rfl, rfl, rfl⟩
/-- A write: done, or the power went off at it. -/
theorem Disk.write_cases (h : Disk p i n H ws) (hon : p.off = false) {k : Nat} (hk : k < n) {b : List UInt8} (hb : b.length = 64) :
    ((p.write i k b).2 = 0 ∧ Disk (p.write i k b).1 i n H (ws ++ [(k, b)]) ∧ (p.write i k b).1.off = false ∧ (p.fuse = none → (p.write i k b).1.fuse = none)) ∨
    (p.fuse = some 0 ∧ (p.write i k b).2 = 2 ∧ Disk (p.write i k b).1 i n H ws ∧ (p.write i k b).1.off = true) := by
  by_cases hf : p.fuse = some 0
  · rw [write_off h hon hf hk hb]
    exact .inr ⟨hf, rfl, h.same rfl rfl, rfl⟩
  · rw [write_on h hon hf hk hb]
    exact .inl ⟨rfl, h.wrote rfl rfl, hon, fun e => by show pred p.fuse = none; rw [e]; rfl⟩
theorem Disk.flush_cases (h : Disk p i n H ws) (hon : p.off = false) :
    ((p.flush i).2 = 0 ∧ Disk (p.flush i).1 i n (setAll ws H) [] ∧ (p.flush i).1.off = false ∧ (p.fuse = none → (p.flush i).1.fuse = none)) ∨
    (p.fuse = some 0 ∧ (p.flush i).2 = 2 ∧ Disk (p.flush i).1 i n H ws ∧ (p.flush i).1.off = true) := by
  by_cases hf : p.fuse = some 0
  · rw [flush_off h hon hf]
    exact .inr ⟨hf, rfl, h.same rfl rfl, rfl⟩
  · rw [flush_on h hon hf]
    exact .inl ⟨rfl, h.flushed rfl rfl, hon, fun e => by show pred p.fuse = none; rw [e]; rfl⟩
theorem Disk.fuse (h : Disk p i n H ws) (z : Int) : Disk (p.setFuse z) i n H ws ∧ (p.setFuse z).off = p.off := by
  unfold PM.setFuse
  split
  · exact ⟨h, rfl⟩
  · exact ⟨h.same rfl rfl, rfl⟩
end
end Go.Proofs.YtloffgoenaomkaaDoor.Disk
/- A plant's tape in plain terms: what it has for good, what waits behind that; what each call does to it. No program. -/
namespace Go.Proofs.YtloffgoenaomkaaDoor.Disk
open Go Go.RowKit Mem Pl
/-- Blocks, one behind the other, from a place on. -/
def behind : Nat → List (List UInt8) → Ws
  | _, [] => []
  | j, b :: ws => (j, b) :: behind (j + 1) ws
theorem behind_len : ∀ (ws : List (List UInt8)) (j : Nat), (behind j ws).length = ws.length
  | [], _ => rfl
  | _ :: ws, j => by simp [behind, behind_len ws]
theorem behind_snoc : ∀ (ws : List (List UInt8)) (j : Nat) (b : List UInt8), behind j (ws ++ [b]) = behind j ws ++ [(j + ws.length, b)]
  | [], j, b => by simp [behind]
  | x :: ws, j, b => by
    simp only [List.cons_append, behind, behind_snoc ws, List.length_cons]
    rw [show j + 1 + ws.length = j + (ws.length + 1) by omega]
theorem behind_far : ∀ (ws : List (List UInt8)) (j k : Nat) (b : List UInt8), k < j → lastAt (behind j ws) k b = b
  | [], _, _, _, _ => rfl
  | x :: ws, j, k, b, h => by
    show lastAt (behind (j + 1) ws) k (if j = k then x else b) = b
    rw [if_neg (by omega), behind_far ws (j + 1) k b (by omega)]
theorem behind_at : ∀ (ws : List (List UInt8)) (j i : Nat) (b c : List UInt8), ws[i]? = some b → lastAt (behind j ws) (j + i) c = b
  | [], _, _, _, _, h => by simp at h
  | x :: ws, j, 0, b, c, h => by
    simp at h
    subst h
    show lastAt (behind (j + 1) ws) (j + 0) (if j = j + 0 then x else c) = x
    rw [if_pos (by omega), behind_far ws (j + 1) (j + 0) x (by omega)]
  | x :: ws, j, i + 1, b, c, h => by
    show lastAt (behind (j + 1) ws) (j + (i + 1)) _ = b
    rw [show j + (i + 1) = j + 1 + i by omega]
    exact behind_at ws (j + 1) i b _ (by simpa using h)
structure TapeP (p : PM) (i n : Nat) (H ws : List (List UInt8)) : Prop where
  dev : p.devs[i]? = some ⟨true, n, H⟩
  ws : waitsOf p i = behind H.length ws
theorem cnt_waits (p : PM) (i : Nat) : cnt p.waits i = (waitsOf p i).length := by
  unfold cnt waitsOf
  rw [List.length_map, List.countP_eq_length_filter]
section
variable {p q : PM} {i j n m : Nat} {H K ws vs : List (List UInt8)} {b : List UInt8}
theorem TapeP.lt (h : TapeP p i n H ws) : i < p.devs.length := (List.getElem?_eq_some_iff.1 h.dev).1
theorem TapeP.num (h : TapeP p i n H ws) : p.num i = some i := PM.num_nat h.lt
theorem TapeP.size (h : TapeP p i n H ws) : (⟨true, n, H⟩ : Dev).size p.waits i = H.length + ws.length := by
  show H.length + cnt p.waits i = _
  rw [cnt_waits, h.ws, behind_len]
theorem TapeP.len (h : TapeP p i n H ws) : p.len i = (((H.length + ws.length : Nat) : Int), 0) := by
  unfold PM.len
  rw [h.num]
  simp only [h.dev, h.size]
theorem TapeP.read (h : TapeP p i n H ws) (hon : p.off = false) {k : Nat} (hk : (H ++ ws)[k]? = some b) : p.read i k = (some b, 0) := by
  have hlt := (List.getElem?_eq_some_iff.1 hk).1
  rw [List.length_append] at hlt
  unfold PM.read
  rw [hon, h.num]
  simp only [h.dev, h.size, Bool.false_eq_true, if_false]
  rw [if_pos (by omega), lastW_waits]
  have e : ((p.waits.filter fun x => x.dev == i).map fun x => (x.place, x.b)) = behind H.length ws := h.ws
  rw [e, Int.toNat_natCast]
  congr 2
  rcases Nat.lt_or_ge k H.length with hl | hl
  · rw [behind_far ws _ _ _ hl]
    rw [List.getElem?_append_left hl] at hk
    show H.getD k zeros = b
    rw [List.getD_eq_getElem?_getD, hk]
    rfl
  · rw [List.getElem?_append_right hl] at hk
    have h1 := behind_at ws H.length (k - H.length) b ((⟨true, n, H⟩ : Dev).at_ k) hk
    rw [show H.length + (k - H.length) = k by omega] at h1
    exact h1
theorem TapeP.read_no (h : TapeP p i n H ws) (hon : p.off = false) {k : Int} (hk : ¬ (0 ≤ k ∧ k < ((H.length + ws.length : Nat) : Int))) : p.read i k = (none, 31) := by
  unfold PM.read
  rw [hon, h.num]
  simp only [h.dev, h.size, Bool.false_eq_true, if_false]
  rw [if_neg hk]
theorem TapeP.same (h : TapeP p i n H ws) (h1 : q.devs = p.devs) (h2 : q.waits = p.waits) : TapeP q i n H ws := ⟨by rw [h1]; exact h.dev, by unfold waitsOf; rw [h2]; exact h.ws⟩
theorem TapeP.appended (h : TapeP p i n H ws) (h1 : q.devs = p.devs) (h2 : q.waits = p.waits ++ [⟨i, H.length + ws.length, b⟩]) : TapeP q i n H (ws ++ [b]) := by
  refine ⟨by rw [h1]; exact h.dev, ?_⟩
  rw [behind_snoc, ← h.ws]
  unfold waitsOf
  rw [h2, List.filter_append, List.map_append]
  simp
theorem TapeP.appendedElse (h : TapeP p i n H ws) {k : Nat} (hij : j ≠ i) (h1 : q.devs = p.devs) (h2 : q.waits = p.waits ++ [⟨j, k, b⟩]) : TapeP q i n H ws := by
  refine ⟨by rw [h1]; exact h.dev, ?_⟩
  rw [← h.ws]
  unfold waitsOf
  rw [h2, List.filter_append, List.map_append]
  simp [hij]
/-- An append: done, or the power went off at it. -/
theorem TapeP.append_cases (h : TapeP p i n H ws) (hon : p.off = false) (hn : H.length + ws.length < n) (hb : b.length = 64) :
    (p.fuse ≠ some 0 ∧ p.append i b = ({ p with fuse := pred p.fuse, steps := p.steps + 1, waits := p.waits ++ [⟨i, H.length + ws.length, b⟩] }, ((H.length + ws.length : Nat) : Int), 0)) ∨
    (p.fuse = some 0 ∧ p.append i b = ({ p with off := true, fuse := none }, 0, 2)) := by
  have e : p.append i b = if (p.give i (H.length + ws.length) b).2 = 0 then ((p.give i (H.length + ws.length) b).1, ((H.length + ws.length : Nat) : Int), 0) else ((p.give i (H.length + ws.length) b).1, 0, 2) := by
    unfold PM.append
    rw [hon, h.num]
    simp only [h.dev, h.size, Bool.false_eq_true, if_false]
    rw [if_neg (by simp), if_neg (by omega), if_neg (by omega)]
  rw [e]
  by_cases hf : p.fuse = some 0
  · refine .inr ⟨hf, ?_⟩
    unfold PM.give
    rw [step_off hf]
    rfl
  · refine .inl ⟨hf, ?_⟩
    unfold PM.give
    rw [step_on hf]
    rfl
theorem TapeP.append_full (h : TapeP p i n H ws) (hon : p.off = false) (hn : H.length + ws.length = n) (hb : b.length = 64) : p.append i b = (p, 0, 3) := by
  unfold PM.append
  rw [hon, h.num]
  simp only [h.dev, h.size, Bool.false_eq_true, if_false]
  rw [if_neg (by simp), if_neg (by omega), if_pos hn]
theorem fold_tape : ∀ (xs : List Wr) (ds : List Dev) (H : List (List UInt8)), ds[i]? = some ⟨true, n, H⟩ → (xs.foldl Pl.settle ds)[i]? = some ⟨true, n, H ++ (xs.filter fun x => x.dev == i).map (·.b)⟩
  | [], ds, H, h => by simpa using h
  | x :: xs, ds, H, h => by
    rw [List.foldl_cons]
    by_cases hx : x.dev = i
    · have h1 : (Pl.settle ds x)[i]? = some ⟨true, n, H ++ [x.b]⟩ := by rw [settle_get, if_pos hx, h]; rfl
      rw [fold_tape xs _ _ h1, List.filter_cons_of_pos (by simpa using hx)]
      simp
    · have h1 : (Pl.settle ds x)[i]? = some ⟨true, n, H⟩ := by rw [settle_get, if_neg hx, h]
      rw [fold_tape xs _ _ h1, List.filter_cons_of_neg (by simpa using hx)]
theorem behind_snd : ∀ (ws : List (List UInt8)) (j : Nat), (behind j ws).map (·.2) = ws
  | [], _ => rfl
  | _ :: ws, j => by simp [behind, behind_snd ws]
theorem filter_twice (p : PM) (i : Nat) : (p.waits.filter fun x => x.dev == i).filter (fun x => x.dev == i) = p.waits.filter fun x => x.dev == i := by
  rw [List.filter_filter]
  simp
/-- A flush: done, or the power went off at it. -/
theorem TapeP.flush_cases (h : TapeP p i n H ws) (hon : p.off = false) :
    (p.fuse ≠ some 0 ∧ (p.flush i).2 = 0 ∧ TapeP (p.flush i).1 i n (H ++ ws) [] ∧ (p.flush i).1.off = false ∧ (p.flush i).1.fuse = pred p.fuse) ∨
    (p.fuse = some 0 ∧ p.flush i = ({ p with off := true, fuse := none }, 2)) := by
  by_cases hf : p.fuse = some 0
  · refine .inr ⟨hf, ?_⟩
    unfold PM.flush
    rw [hon, h.num, step_off hf]
    rfl
  · refine .inl ?_
    have e : p.flush i = ({ p with fuse := pred p.fuse, steps := p.steps + 1, devs := (p.waits.filter fun x => x.dev == i).foldl Pl.settle p.devs, waits := p.waits.filter fun x => !(x.dev == i) }, 0) := by
      unfold PM.flush
      rw [if_neg (by rw [hon]; simp), h.num, step_on hf]
      rfl
    rw [e]
    refine ⟨hf, rfl, ⟨?_, ?_⟩, hon, rfl⟩
    · show ((p.waits.filter fun x => x.dev == i).foldl Pl.settle p.devs)[i]? = _
      rw [fold_tape _ _ _ h.dev, filter_twice]
      have h1 : ((p.waits.filter fun x => x.dev == i).map (·.b)) = ws := by
        have h2 := congrArg (List.map (·.2)) h.ws
        rw [behind_snd] at h2
        rw [← h2]
        unfold waitsOf
        rw [List.map_map]
        rfl
      rw [h1]
    · show ((p.waits.filter fun x => !(x.dev == i)).filter fun x => x.dev == i).map _ = behind _ []
      rw [List.filter_filter]
      simp [behind]
theorem TapeP.flushedElse (h : TapeP p i n H ws) (hij : j ≠ i) (h1 : q.devs = (p.waits.filter fun x => x.dev == j).foldl Pl.settle p.devs) (h2 : q.waits = p.waits.filter fun x => !(x.dev == j)) : TapeP q i n H ws := by
  refine ⟨?_, ?_⟩
  · rw [h1, fold_tape _ _ _ h.dev, List.filter_filter]
    have : (p.waits.filter fun x => x.dev == i && x.dev == j) = [] := by
      rw [List.filter_eq_nil_iff]
      intro a _ h
      simp at h
      omega
    rw [this]
    simp
  · rw [← h.ws]
    unfold waitsOf
    rw [h2, List.filter_filter]
    congr 1
    apply List.filter_congr
    intro a _
    by_cases he : a.dev = i
    · first
        | (simp [he]; done)
        | (simp [he]; omega)
        | (simp [he]; exact fun e => hij e.symm)
    · simp [he]
/-- A byte turned. -/
theorem TapeP.rot (h : TapeP p i n H ws) (k at_ : Int) (x : UInt8) : ∃ K, K.length = H.length ∧ TapeP (p.rot i k at_ x).1 i n K ws ∧ (p.rot i k at_ x).1.off = p.off ∧ (p.rot i k at_ x).1.fuse = p.fuse := by
  unfold PM.rot
  rw [h.num]
  simp only [h.dev]
  split
  · refine ⟨_, List.length_set, ⟨by rw [List.getElem?_set_self h.lt], ?_⟩, rfl, rfl⟩
    rw [List.length_set]
    exact h.ws
  · exact ⟨H, rfl, h, rfl, rfl⟩
end
end Go.Proofs.YtloffgoenaomkaaDoor.Disk
/- The shape of a plant, told. -/
namespace Go.Proofs.YtloffgoenaomkaaDoor.Pl
open Go Go.RowKit Mem
theorem natV_one (l : List Nat) : ∀ u ∈ l.map natV, u.oneCell' = true := by
  intro u hu
  obtain ⟨x, _, rfl⟩ := List.mem_map.1 hu
  rfl
/-- The call gives back a shape of its own. -/
def RetS (w : World) (p : PM) (e : Ending) (w' : World) : Prop :=
  ∃ D T, e = .returned (.agg #[D, T]) ∧ Vec w' (fun g => w.heap.size ≤ g ∧ g < w'.heap.size) 3 1 D p.disks.length (p.disks.map natV) ∧ Vec w' (fun g => w.heap.size ≤ g ∧ g < w'.heap.size) 3 1 T p.tapes.length (p.tapes.map natV) ∧ Below w.heap.size w w'
set_option maxHeartbeats 2000000 in
theorem shape_any {w : World} {F : Nat → Prop} {a : Nat} {p : PM} (h : PlantAt w F a p) (hok : p.Ok) : Calls Tryd.prog 36 #[.pointer (some ⟨a, 0, none⟩)] w (RetS w p) := by
  obtain ⟨D, T, V, W, hp⟩ := h
  obtain ⟨A1, k1, rfl⟩ := hp.disks.shape
  obtain ⟨A2, k2, rfl⟩ := hp.tapes.shape
  have h0 := hp.c0
  have h1 := hp.c1
  have HB := Lib.hid hp
  have hn := hok.shape
  have hlt := hp.blk.lt
  have hn12 := hok.n12
  clear hp
  go_enter Tryd.func36, Tryd.ntmps36
  go_wp2
  refine Ord.region_ord [5] [0, 1, 2, 3, 4, 6, 7, 8, 9, 10, 5, 11, 12, 13] (by kernel_rfl) (by kernel_rfl) (by kernel_rfl) (by kernel_rfl) (Ord.ord_run [0, 1, 2, 3, 4, 6, 7, 8, 9, 10] [_, _, _, _, _, _, _, _, _, _] rfl (by kernel_rfl) ?_)
  go_wp2_with fail
  refine Ord.nx_ord (Ord.ord_one rfl ?_)
  go_wp2_with fail
  have hd := HB.out.disks.below (w' := (w.alloc (.cells #[.slice none 0 0, .slice none 0 0] 30)).drew) (below_al' _).drew
  refine (cloneInts_any hd (natV_one _) (by omega)).mono ?_
  rintro e w2 ⟨D', rfl, hv2, hb2⟩
  obtain ⟨A3, k3, rfl⟩ := hv2.shape
  have HV2 := Lib.hid hv2
  have HB2 := Lib.hid hb2
  have HW2 : Hid (Below w.heap.size w w2) := Lib.hid ((below_al' _).drew.trans (hb2.mono (by show w.heap.size ≤ (w.alloc _).heap.size; simp)))
  have HG2 : Hid (Blk w2 w.heap.size 30 #[.slice none 0 0, .slice none 0 0]) := Lib.hid ((Blk.drew (Blk.new w _ _)).below_ hb2)
  have HG2lt := HG2.out.lt
  clear hv2 hb2 hd
  go_wp2_with fail
  refine Ord.nx_and HB2.out (Ord.ord_all [_, _, _] rfl (by kernel_rfl) ?_)
  go_wp2_with fail
  have ht := HB.out.tapes.below HW2.out
  refine (cloneInts_any ht (natV_one _) (by omega)).mono ?_
  rintro e w3 ⟨T', rfl, hv3, hb3⟩
  obtain ⟨A4, k4, rfl⟩ := hv3.shape
  have HV3 := Lib.hid hv3
  have HB3 := Lib.hid hb3
  have HW3 : Hid (Below w.heap.size w w3) := Lib.hid (HW2.out.trans (hb3.mono HW2.out.size))
  have hg3 := HG2.out.below_ hb3
  have c0 := hg3.cell 0
  have c1 := hg3.cell 1
  have z0 := hg3.frozen 0
  have z1 := hg3.frozen 1
  have HG3 := Lib.hid hg3
  simp at c0 c1
  clear hv3 hb3 ht hg3 HG2
  go_wp2_with fail
  refine Ord.nx_end ?_
  go_wp2_with fail
  have hg5 := (HG3.out.set_ 0 (.slice A3 p.disks.length k3)).set_ 1 (.slice A4 p.tapes.length k4)
  have r0 := hg5.cell 0
  have r1 := hg5.cell 1
  simp at r0 r1
  have hsz2 := HW2.out.size
  have hsz3 := HB3.out.size
  have hlt2 : w.heap.size < w2.heap.size := HG2lt
  have hne : ∀ g, w2.heap.size ≤ g → g ≠ w.heap.size := fun g hg e => by omega
  clear c0 c1 z0 z1
  refine bodyPost_ret (v := .agg #[.slice A3 p.disks.length k3, .slice A4 p.tapes.length k4]) (by simp [results, Tryd.results36, go_sem, r0, r1]) rfl ⟨_, _, rfl, ?_, ?_, ?_⟩
  · refine (((HV2.out.below HB3.out).far (p := ⟨w.heap.size, 0, none⟩) HG3.out (by decide) _).far (p := ⟨w.heap.size, 1, none⟩) (HG3.out.set_ 0 _) (by decide) _).mono fun g hg h => ⟨?_, hg⟩
    exact Nat.le_trans (by show w.heap.size ≤ (w.alloc _).heap.size; simp) h.1
  · refine ((HV3.out.far (p := ⟨w.heap.size, 0, none⟩) HG3.out (by decide) _).far (p := ⟨w.heap.size, 1, none⟩) (HG3.out.set_ 0 _) (by decide) _).mono fun g hg h => ⟨?_, hg⟩
    exact Nat.le_trans hsz2 h.1
  · exact (HW3.out.setCell (Nat.le_refl _) _).setCell (Nat.le_refl _) _
end Go.Proofs.YtloffgoenaomkaaDoor.Pl
