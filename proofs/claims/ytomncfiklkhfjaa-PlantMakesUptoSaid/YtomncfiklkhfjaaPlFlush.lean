/- 'Flush' of a plant. -/
import Derived.Test.YtomncfiklkhfjaaPlDelete
import Derived.Test.YtomncfiklkhfjaaPlAppend
import Derived.Test.YtomncfiklkhfjaaTwoHeld
namespace Go.Proofs.Ytomncfiklkhfjaa.Pl
open Go Go.RowKit Mem
theorem fold_hit {j : Nat} : ∀ (xs : List Wr) (ds : List Dev) (d : Dev), (∀ x ∈ xs, x.dev = j) → ds[j]? = some d →
    ∃ d', (xs.foldl settle ds)[j]? = some d' ∧ d'.tape = d.tape ∧ d'.most = d.most ∧ d'.has.length = (if d.tape then d.has.length + xs.length else d.has.length) ∧ (∀ i, i ≠ j → (xs.foldl settle ds)[i]? = ds[i]?) ∧ (xs.foldl settle ds).length = ds.length
  | [], ds, d, _, hd => ⟨d, hd, rfl, rfl, by simp, fun _ _ => rfl, rfl⟩
  | x :: xs, ds, d, hx, hd => by
    have hxj := hx x (by simp)
    rw [List.foldl_cons, settle_get ds x (by rw [hxj]; exact hd), hxj]
    have hlt := (List.getElem?_eq_some_iff.1 hd).1
    obtain ⟨d', h1, h2, h3, h4, h5, h6⟩ := fold_hit xs (ds.set j (d.settle x.place x.b)) (d.settle x.place x.b) (fun y hy => hx y (by simp [hy])) (by simp [hlt])
    refine ⟨d', h1, ?_, ?_, ?_, fun i hi => ?_, by rw [h6]; simp⟩
    · rw [h2]; unfold Dev.settle; split <;> rfl
    · rw [h3]; unfold Dev.settle; split <;> rfl
    · rw [h4]
      unfold Dev.settle
      cases ht : d.tape
      · simp [ht]
      · simp [ht]; omega
    · rw [h5 i hi, List.getElem?_set_ne (Ne.symm hi)]
theorem hit_take_len (j : Nat) (ws : List Wr) {k : Nat} {x : Wr} (hx : ws[k]? = some x) (hj : x.dev = j) : (hit j ws)[(hit j (ws.take k)).length]? = some x := by
  have e : hit j ws = hit j (ws.take k) ++ x :: hit j (ws.drop (k + 1)) := by
    conv => lhs; rw [← List.take_append_drop k ws, drop_cons hx]
    unfold hit
    rw [List.filter_append, List.filter_cons, if_pos (by simpa using hj)]
  rw [e]
  simp
theorem PM.Ok.maySet {p : PM} (h : p.Ok) {j : Nat} {d : Dev} (hd : p.devs[j]? = some d) : ∀ (k : Nat) (x : Wr), p.waits[k]? = some x → x.dev = j → MaySet ((hit j (p.waits.take k)).foldl settle p.devs) x := fun k x hx hj => by
  obtain ⟨d', h1, h2, h3, h4, _, _⟩ := fold_hit (hit j (p.waits.take k)) p.devs d (fun y hy => by simpa using (List.mem_filter.1 hy).2) hd
  have hm := h.most j d hd
  have hp := h.wplace x (List.mem_of_getElem? hx) d (by rw [hj]; exact hd)
  refine ⟨d', by rw [hj]; exact h1, by omega, ?_, ?_⟩
  · rw [h2, h4]
    cases ht : d.tape with
    | true =>
      simp only [if_true]
      have hw := h.wtape j d hd ht
      have hg := hit_take_len j p.waits hx hj
      have hg2 : ((hit j p.waits).map (·.place))[(hit j (p.waits.take k)).length]? = some x.place := by rw [List.getElem?_map, hg]; rfl
      unfold hit at hg2 hg
      have hlk := (List.getElem?_eq_some_iff.1 hg).1
      rw [← List.countP_eq_length_filter (l := p.waits)] at hlk
      rw [hw, List.getElem?_range' (show _ < cnt p.waits j from hlk)] at hg2
      injection hg2 with hg2
      unfold hit
      omega
    | false =>
      simp only [Bool.false_eq_true, if_false]
      rw [h.disk j d hd ht]
      exact hp
  · rw [h4]
    cases ht : d.tape with
    | true =>
      simp only [if_true]
      have hr := h.room j d hd ht
      have hc : (hit j (p.waits.take k)).length ≤ cnt p.waits j := by
        unfold hit cnt
        rw [← List.countP_eq_length_filter]
        exact (List.take_sublist k p.waits).countP_le
      omega
    | false =>
      simp only [Bool.false_eq_true, if_false]
      have := h.disk j d hd ht
      omega
theorem wc_flush (p : PM) (j : Nat) : wcOf { p with devs := (hit j p.waits).foldl settle p.devs, waits := flt j p.waits } = fun i => if i = j then 0 else wcOf p i := by
  funext i
  have hcnt : cnt (flt j p.waits) i = if i = j then 0 else cnt p.waits i := by
    unfold cnt flt
    rw [List.countP_filter]
    by_cases hi : i = j
    · subst hi
      rw [if_pos rfl]
      refine List.countP_eq_zero.2 fun y _ => ?_
      cases h : (y.dev == i) <;> simp [h]
    · rw [if_neg hi]
      refine List.countP_congr fun y _ => ?_
      cases h : (y.dev == i) with
      | false => simp
      | true =>
        have : y.dev = i := by simpa using h
        simp [this, hi]
  unfold wcOf
  simp only
  rw [hcnt]
  cases hd : p.devs[j]? with
  | none =>
    have e : (hit j p.waits).foldl settle p.devs = p.devs := by
      have : ∀ (xs : List Wr), (∀ x ∈ xs, x.dev = j) → xs.foldl settle p.devs = p.devs := by
        intro xs
        induction xs with
        | nil => intro _; rfl
        | cons x xs ih =>
          intro hx
          rw [List.foldl_cons, show settle p.devs x = p.devs by
            unfold settle
            refine List.ext_getElem? fun q => ?_
            rw [List.getElem?_modify, hx x (by simp)]
            by_cases hq : j = q
            · subst hq; simp [hd]
            · simp [hq]]
          exact ih fun y hy => hx y (by simp [hy])
      exact this _ fun y hy => by simpa using (List.mem_filter.1 hy).2
    rw [e]
    by_cases hi : i = j
    · subst hi; simp [hd]
    · simp [hi]
  | some d =>
    obtain ⟨d', h1, h2, _, _, h5, _⟩ := fold_hit (hit j p.waits) p.devs d (fun y hy => by simpa using (List.mem_filter.1 hy).2) hd
    by_cases hi : i = j
    · subst hi; simp
    · rw [if_neg hi, if_neg hi, h5 i hi]
set_option maxHeartbeats 8000000 in
theorem flush_any {w : World} {F : Nat → Prop} {a : Nat} {p : PM} (h : PlantAt w F a p) (hok : p.Ok) (hlow : p.Low) (i : Int) :
    Calls Try.prog 29 #[.pointer (some ⟨a, 0, none⟩), .int .i64 i] w fun e w' => e = .returned (.int .i64 (p.flush i).2) ∧ PlantAt w' (Grow F w w') a (p.flush i).1 ∧ Mods w.heap.size F w w' := by
  have hal : ∀ o1 o2 : Obj, Below w.heap.size w ((w.alloc o1).alloc o2) := fun o1 o2 => ((Below.refl _ _).alloc (Nat.le_refl _) o1).alloc (by simp) o2
  have HS2 : Hid (∀ o1 o2 : Obj, PlantAt ((w.alloc o1).alloc o2) (Grow F w ((w.alloc o1).alloc o2)) a p ∧ Mods w.heap.size F w ((w.alloc o1).alloc o2)) := Lib.hid fun o1 o2 => ⟨(h.below (hal o1 o2)).mono fun g _ hg => .inl hg, Mods.of_below (hal o1 o2)⟩
  obtain ⟨D, T, V, W, hp⟩ := h
  have HP2 : Hid (∀ o1 o2 : Obj, PlantB ((w.alloc o1).alloc o2) F a p (wcOf p) D T V W) := Lib.hid fun o1 o2 => hp.mods (Mods.of_below (F := fun _ => False) (hal o1 o2)) fun g hg _ => ⟨hg, fun x => x⟩
  have hlt := hp.blk.lt
  have h4 := hp.c4
  have HB := Lib.hid hp
  have HAL := Lib.hid hal
  clear hal
  rcases num_cases p i with ⟨hn, hi⟩ | ⟨j, d, rfl, hn, hj, hd⟩
  · clear hp
    cases hoff : p.off with
    | true =>
      have e : p.flush i = (p, 2) := by unfold PM.flush; rw [hoff]; rfl
      rw [e]
      rw [hoff] at h4
      clear hn hoff e
      go_enter Try.func29, Try.ntmps29
      go_wp2_with fail
      refine (dev_none (w := (w.alloc (.cells #[.pointer (some ⟨a, 0, none⟩)] 45)).alloc (.cells #[.int .i64 i] 3)) (HP2.out _ _) i hi).mono ?_
      rintro e w1 ⟨rfl, rfl⟩
      go_wp2_with fail
      go_ret
      exact ⟨rfl, HS2.out _ _⟩
    | false =>
      have e : p.flush i = (p, 31) := by unfold PM.flush; rw [hoff, hn]; rfl
      rw [e]
      rw [hoff] at h4
      clear hn hoff e
      go_enter Try.func29, Try.ntmps29
      go_wp2_with fail
      refine (dev_none (w := (w.alloc (.cells #[.pointer (some ⟨a, 0, none⟩)] 45)).alloc (.cells #[.int .i64 i] 3)) (HP2.out _ _) i hi).mono ?_
      rintro e w1 ⟨rfl, rfl⟩
      go_wp2_with fail
      go_ret
      exact ⟨rfl, HS2.out _ _⟩
  · obtain ⟨g, c1, rfl⟩ := hp.devs.form (by omega)
    have HD := Lib.hid hd
    clear hp
    cases hoff : p.off with
    | true =>
      have e : p.flush (j : Int) = (p, 2) := by unfold PM.flush; rw [hoff]; rfl
      rw [e]
      rw [hoff] at h4
      clear hn hoff e hd
      go_enter Try.func29, Try.ntmps29
      go_wp2_with fail
      refine (dev_some (HP2.out (.cells #[.pointer (some ⟨a, 0, none⟩)] 45) (.cells #[.int .i64 (j : Int)] 3)) j hj).mono ?_
      rintro e w1 ⟨rfl, rfl⟩
      go_wp2_with fail
      go_ret
      exact ⟨rfl, HS2.out _ _⟩
    | false =>
      rw [hoff] at h4
      have HF : Hid (p.flush (j : Int) = if p.step.2 then ({ p.step.1 with devs := (hit j p.waits).foldl settle p.devs, waits := flt j p.waits }, 0) else (p.step.1, 2)) := Lib.hid (by
        unfold PM.flush
        rw [hoff, hn]
        rfl)
      have HMS := Lib.hid (hok.maySet hd)
      have HST := Lib.hid (PM.step_same p)
      clear hn hoff hd
      go_enter Try.func29, Try.ntmps29
      go_wp2_with fail
      refine (dev_some (HP2.out (.cells #[.pointer (some ⟨a, 0, none⟩)] 45) (.cells #[.int .i64 (j : Int)] 3)) j hj).mono ?_
      rintro e w1 ⟨rfl, rfl⟩
      go_wp2_with fail
      refine (step_any (HP2.out (.cells #[.pointer (some ⟨a, 0, none⟩)] 45) (.cells #[.int .i64 (j : Int)] 3)) hlow.steps hok.fuse).mono ?_
      rintro e w2 ⟨rfl, hp2, hk2, hm2⟩
      have hb2 : Blk w2 w.heap.size 45 #[.pointer (some ⟨a, 0, none⟩)] := (hk2 _ (by omega)).trans ((Blk.new w _ _).alloc _)
      have hb1 : Blk w2 (w.heap.size + 1) 3 #[.int .i64 (j : Int)] := (hk2 _ (by omega)).trans (Blk.new_at _ _ (by simp) _ _)
      have HX2 := Lib.hid hp2
      have HM2 : Hid (Mods w.heap.size F w w2) := Lib.hid ((Mods.of_below (HAL.out _ _)).trans (hm2.mono (by simp; omega) fun g _ hg => by subst hg; exact HB.out.own))
      have HB1 := Lib.hid hb1
      have HB2 := Lib.hid hb2
      have e1 := hb1.cell 0
      have e2 := hb2.cell 0
      simp at e1 e2
      clear hb1 hb2 hp2 hk2 hm2
      cases hst : p.step.2 with
      | false =>
        have HE : Hid (p.flush (j : Int) = (p.step.1, 2)) := Lib.hid (HF.out.trans (by rw [hst]; simp))
        clear hst
        go_wp2_with fail
        go_ret
        rw [HE.out]
        have hwc : wcOf p.step.1 = wcOf p := funext fun i => by unfold wcOf; rw [HST.out.2.2.1, HST.out.2.2.2.1]
        refine ⟨rfl, ⟨D, T, _, W, by rw [hwc]; exact HX2.out.mono fun g _ hg => .inl hg⟩, HM2.out⟩
      | true =>
        have HQ : Hid (p.flush (j : Int) = ({ p.step.1 with devs := (hit j p.waits).foldl settle p.devs, waits := flt j p.waits }, 0)) := Lib.hid (HF.out.trans (by rw [hst]; simp))
        clear hst
        have h3 := HX2.out.c3
        have z3 := HX2.out.fz 3
        go_wp2_with fail
        refine Held.begin_t (fun x => x.cell? ⟨w.heap.size, 0, none⟩ = some (.pointer (some ⟨a, 0, none⟩))) (fun x => x.cell? ⟨a, 3, none⟩ = some W) 9 (by kernel_rfl) e2 h3 ?_
        intro hB
        refine Held.take_s (i := 0) (oi := ⟨some 21, _, _, _, _, _⟩) (v := ?_) rfl (by kernel_rfl) (by kernel_rfl) (by kernel_rfl) (by rfl) (fun _ _ _ h => h) (.inl ⟨by rfl, ?_⟩) hB ?_
        rotate_left
        · intro x hS
          go_simp <;> with_reducible rfl
        clear hB
        intro hB
        simp only [Act.put, List.setIfInBounds_toArray, List.set_cons_zero, List.set_cons_succ]
        refine Held.take_s (i := 1) (oi := ⟨some 22, _, _, _, _, _⟩) (v := ?_) rfl (by kernel_rfl) (by kernel_rfl) (by kernel_rfl) (by rfl) (fun _ _ _ h => h) (.inl ⟨by rfl, ?_⟩) hB ?_
        rotate_left
        · intro x hS
          go_simp <;> with_reducible rfl
        clear hB
        intro hB
        simp only [Act.put, List.setIfInBounds_toArray, List.set_cons_zero, List.set_cons_succ]
        refine Held.take_s (i := 2) (oi := ⟨some 23, _, _, _, _, _⟩) (v := ?_) rfl (by kernel_rfl) (by kernel_rfl) (by kernel_rfl) (by rfl) (fun _ _ _ h => h) (.inl ⟨by rfl, ?_⟩) hB ?_
        rotate_left
        · intro x hS
          go_simp <;> with_reducible rfl
        clear hB
        intro hB
        simp only [Act.put, List.setIfInBounds_toArray, List.set_cons_zero, List.set_cons_succ]
        refine Held.take_s (i := 3) (oi := ⟨some 24, _, _, _, _, _⟩) (v := ?_) rfl (by kernel_rfl) (by kernel_rfl) (by kernel_rfl) (by rfl) (fun _ _ _ h => h) (.inl ⟨by rfl, ?_⟩) hB ?_
        rotate_left
        · intro x hS
          go_simp <;> with_reducible rfl
        clear hB
        intro hB
        simp only [Act.put, List.setIfInBounds_toArray, List.set_cons_zero, List.set_cons_succ]
        refine Held.take_t (i := 4) (oi := ⟨some 25, _, _, _, _, _⟩) (v := ?_) rfl (by kernel_rfl) (by kernel_rfl) (by kernel_rfl) (by rfl) (by kernel_rfl) (by kernel_rfl) (fun _ _ _ h => h) (.inl ⟨by rfl, ?_⟩) hB ?_
        rotate_left
        · intro x hS
          have hx := hS.2
          go_simp <;> with_reducible rfl
        clear hB
        intro hB
        simp only [Act.put, List.setIfInBounds_toArray, List.set_cons_zero, List.set_cons_succ]
        refine Held.take_s (i := 5) (oi := ⟨some 26, _, _, _, _, _⟩) (v := ?_) rfl (by kernel_rfl) (by kernel_rfl) (by kernel_rfl) (by rfl) (fun _ _ _ h => h) (.inl ⟨by rfl, ?_⟩) hB ?_
        rotate_left
        · intro x hS
          go_simp <;> with_reducible rfl
        clear hB
        intro hB
        simp only [Act.put, List.setIfInBounds_toArray, List.set_cons_zero, List.set_cons_succ]
        refine Held.ready_t (rs := [6]) (by kernel_rfl) (by simp) ?_
        refine Held.Each.cons (o := ⟨some 27, _, _, _, _, _⟩) rfl (fun K hK => ?_) Held.Each.nil
        go_simp
        have hdv0 : DevsAt w2.drew F (.slice (some ⟨g, 0, none⟩) p.devs.length c1) p.devs (wcOf p) := by
          have := HX2.out.devs
          rw [HST.out.2.2.1] at this
          exact this
        have hwt0 : WaitsAt w2.drew F W p.waits := by
          have := HX2.out.waits
          rw [HST.out.2.2.2.1] at this
          exact this
        have hdel := delete_any (w := w2.drew) (pc := plCells D T (.slice (some ⟨g, 0, none⟩) p.devs.length c1) W p.step.1) ⟨HB1.out, HB2.out, HX2.out.blk, rfl, hdv0⟩ hwt0 hok.wlen HMS.out hlow.waits
        unfold clo at hdel
        refine hdel.mono ?_
        clear hdel hdv0 hwt0
        rintro e w3 ⟨v', rfl, hwt, hct, hk3, hm3⟩
        obtain ⟨A3, c3, rfl⟩ := Vec.shape hwt
        have hS3 := (hct.b2.cell 0).trans (show _ = some (.pointer (some ⟨a, 0, none⟩)) from rfl)
        have h33 := (hct.pl.cell 3).trans (show _ = some W from rfl)
        have z33 := hct.pl.frozen 3
        have hfh := fold_hit (hit j p.waits) p.devs d (fun y hy => by simpa using (List.mem_filter.1 hy).2) HD.out
        have HFH := Lib.hid hfh
        have HLEN : Hid (((hit j p.waits).foldl settle p.devs).length = p.devs.length) := Lib.hid (by obtain ⟨_, _, _, _, _, _, h6⟩ := hfh; exact h6)
        clear hfh
        have HWT := Lib.hid hwt
        have HCT := Lib.hid hct
        have HK3 := Lib.hid hk3
        have HM3 : Hid (Mods w.heap.size F w w3) := Lib.hid (HM2.out.trans (Mods.mono ⟨hm3.os, hm3.tape, hm3.output, hm3.size, hm3.keep⟩ HM2.out.size fun _ _ h => h))
        clear hwt hct hk3 hm3 h3 z3 hB
        go_wp2_with fail
        refine hK.out _ _ ⟨hS3, fun _ => h33⟩ ?_
        clear hK K
        refine Held.take_s (i := 7) (oi := ⟨some 28, _, _, _, _, _⟩) (v := ?_) rfl (by kernel_rfl) (by kernel_rfl) (by kernel_rfl) (by rfl) (fun _ _ _ h => h) (.inl ⟨by rfl, ?_⟩) ⟨hS3, fun _ => h33⟩ ?_
        rotate_left
        · intro x hS
          go_simp <;> with_reducible rfl
        intro hB
        clear hB
        simp only [Act.put, List.setIfInBounds_toArray, List.set_cons_zero, List.set_cons_succ]
        refine Held.take_s (i := 8) (oi := ⟨some 29, _, _, _, _, _⟩) (v := ?_) rfl (by kernel_rfl) (by kernel_rfl) (by kernel_rfl) (by rfl) (fun _ _ _ h => h) (.inl ⟨by rfl, ?_⟩) ⟨hS3, fun _ => h33⟩ ?_
        rotate_left
        · intro x hS
          go_simp <;> with_reducible rfl
        intro hB
        clear hB
        simp only [Act.put, List.setIfInBounds_toArray, List.set_cons_zero, List.set_cons_succ]
        refine Held.ready_t (rs := [9]) (by kernel_rfl) (by simp) ?_
        refine Held.Each.cons (o := ⟨none, _, _, _, _, _⟩) rfl (fun K hK => ?_) Held.Each.nil
        go_simp
        have hag : a ≠ g := by
          rintro rfl
          obtain ⟨_, cur, hcur⟩ := HCT.out.devs.blockF (by rw [HLEN.out]; omega)
          have := HCT.out.pl
          unfold Blk at this
          rw [hcur] at this
          injection this with this
          injection this with _ this
          exact absurd this (by decide)
        refine hK.out _ _ ⟨((show _ = _ by simp [World.cell?, Below.heap_setCell w3 ⟨a, 3, none⟩ _ w.heap.size (by simp; omega)]).trans hS3), fun hn => absurd (show false = true from hn.symm.trans (by kernel_rfl)) (by decide)⟩ ?_
        clear hK K h33 z33 hS3 e1 e2
        refine Held.done_t (by kernel_rfl) ?_ _
        have hp4 : PlantB (w3.setCell ⟨a, 3, none⟩ (.slice A3 (flt j p.waits).length c3)) F a { p.step.1 with devs := (hit j p.waits).foldl settle p.devs, waits := flt j p.waits } (wcOf p) D T (.slice (some ⟨g, 0, none⟩) p.devs.length c1) (.slice A3 (flt j p.waits).length c3) := by
          refine ⟨?_, HB.out.own, ?_, ?_, ?_, ?_⟩
          · have hb := HCT.out.pl.set_ 3 (.slice A3 (flt j p.waits).length c3)
            simpa [plCells, PM.fuseI] using hb
          · exact (HK3.out.vec (show Vec w2.drew _ _ _ _ _ _ from HX2.out.disks) (by decide) (by decide)).far (p := ⟨a, 3, none⟩) HCT.out.pl (by decide) _
          · exact (HK3.out.vec (show Vec w2.drew _ _ _ _ _ _ from HX2.out.tapes) (by decide) (by decide)).far (p := ⟨a, 3, none⟩) HCT.out.pl (by decide) _
          · refine HCT.out.devs.heap (fun q cs hq => (heap_set_ne _ _ _ _ _ ?_).trans hq) (fun q es c hq => (heap_set_ne _ _ _ _ _ ?_).trans hq)
            · rintro rfl
              have := HCT.out.pl
              unfold Blk at this
              rw [hq] at this
              injection this with this
              injection this with _ this
              exact absurd this (by decide)
            · rintro rfl
              have := HCT.out.pl
              unfold Blk at this
              rw [hq] at this
              cases this
          · exact HWT.out.far (p := ⟨a, 3, none⟩) HCT.out.pl (by decide) _
        obtain ⟨d', hd', htp, _, _, _, _⟩ := HFH.out
        obtain ⟨m', _, _, _, _, _, _, q4⟩ := hp4.devs.cells hd'
        have qz := hp4.devs.free (by rw [HLEN.out]; omega) (j * 5 + 4)
        have HP4 := Lib.hid hp4
        have HD' := Lib.hid hd'
        clear hp4 hd' htp hag
        go_wp2
        go_ret
        rw [HQ.out]
        have ht := HP4.out.turnDev (wc' := fun i => if i = j then 0 else wcOf p i) HD'.out 4 (by omega) (.int .i64 0) d' (fun i hi => by simp [hi]) (fun m => by simp [devRow]) rfl
        simp only [list_set_self HD'.out] at ht
        have hwc : wcOf ({ p.step.1 with devs := (hit j p.waits).foldl settle p.devs, waits := flt j p.waits } : PM) = fun i => if i = j then 0 else wcOf p i := wc_flush p j
        refine ⟨rfl, ⟨D, T, _, _, by rw [hwc]; exact ht.mono fun g _ hg => .inl hg⟩, ?_⟩
        have hFg : F g := (HCT.out.devs.blockF (by rw [HLEN.out]; omega)).1
        exact (HM3.out.setCell (p := ⟨a, 3, none⟩) (.inl HB.out.own) _).setCell (p := ⟨g, j * 5 + 4, none⟩) (.inl hFg) _
end Go.Proofs.Ytomncfiklkhfjaa.Pl
