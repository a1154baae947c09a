/- 'Append' of a plant. -/
import Derived.Test.YtloffgoenaomkaaDoorFold2
namespace Go.Proofs.YtloffgoenaomkaaDoor.Pl
open Go Go.RowKit Mem
section
variable {w : World} {F : Nat → Prop} {a : Nat} {p : PM} {wc wc' : Nat → Nat} {D T W : Value} {g n cap : Nat} {ds : List Dev}
theorem DevsAt.blockF (h : DevsAt w F (.slice (some ⟨g, 0, none⟩) n cap) ds wc) (h0 : 0 < ds.length) : F g ∧ ∃ cur, w.heap[g]? = some (.cells cur 86 (0, 0)) := by
  obtain ⟨ms, h1, _⟩ := h
  obtain ⟨A, c, hv⟩ := h1.shape
  injection hv with hA hn hc
  subst hA hn hc
  exact h1.blockF h0
theorem DevsAt.free (h : DevsAt w F (.slice (some ⟨g, 0, none⟩) n cap) ds wc) (h0 : 0 < ds.length) (k : Nat) : w.frozen? ⟨g, k, none⟩ = false := by
  obtain ⟨_, cur, hh⟩ := h.blockF h0
  simp [World.frozen?, hh]
/-- One cell of a device's row is written. -/
theorem DevsAt.turn (h : DevsAt w F (.slice (some ⟨g, 0, none⟩) n cap) ds wc) {j : Nat} {d : Dev} (hd : ds[j]? = some d) (c : Nat) (hc : c < 5) (u : Value) (d' : Dev) (hw : ∀ i, i ≠ j → wc' i = wc i)
    (hrow : ∀ m, devRow d' m (wc' j) = (devRow d m (wc j)).set c u) (hat : d'.at_ = d.at_) : DevsAt (w.setCell ⟨g, j * 5 + c, none⟩ u) F (.slice (some ⟨g, 0, none⟩) n cap) (ds.set j d') wc' := by
  have hj : j < ds.length := (List.getElem?_eq_some_iff.1 hd).1
  obtain ⟨_, cur, hg⟩ := h.blockF (by omega)
  obtain ⟨ms, h1, h2, h3, h4⟩ := h
  have hm : ms[j]? = some ms[j] := List.getElem?_eq_getElem (by omega)
  have hr := devRows_get wc 0 ds ms j d _ hd hm
  rw [Nat.zero_add] at hr
  obtain ⟨A, c2, hv⟩ := h1.shape
  injection hv with hA hn hcc
  subst hA hn hcc
  refine ⟨ms, ?_, by simpa using h2, h3, fun i d2 m2 hd2 hm2 => ?_⟩
  · have hs := h1.set (j * 5 + c) u
    rw [flat_set _ (devRows_five wc 0 ds ms) j c _ u hr hc, ← hrow, List.length_set] at *
    have e := devRows_set wc wc' d' 0 ds ms j _ hj hm (fun i hi => hw i (by omega))
    rw [Nat.zero_add] at e
    rw [e]
    exact hs
  · by_cases hij : i = j
    · subst hij
      simp [hj] at hd2
      subst hd2
      obtain ⟨h5, h6⟩ := h4 i d m2 hd hm2
      rw [hat]
      refine ⟨h5.heap ?_, h6⟩
      obtain ⟨es, cl, he⟩ := h5.obj
      exact Below.heap_setCell w ⟨g, i * 5 + c, none⟩ u m2 (by rintro rfl; rw [hg] at he; cases he)
    · rw [List.getElem?_set_ne (Ne.symm hij)] at hd2
      obtain ⟨h5, h6⟩ := h4 i d2 m2 hd2 hm2
      refine ⟨h5.heap ?_, h6⟩
      obtain ⟨es, cl, he⟩ := h5.obj
      exact Below.heap_setCell w ⟨g, j * 5 + c, none⟩ u m2 (by rintro rfl; rw [hg] at he; cases he)
theorem PlantB.turnDev (h : PlantB w F a p wc D T (.slice (some ⟨g, 0, none⟩) n cap) W) {j : Nat} {d : Dev} (hd : p.devs[j]? = some d) (c : Nat) (hc : c < 5) (u : Value) (d' : Dev) (hw : ∀ i, i ≠ j → wc' i = wc i)
    (hrow : ∀ m, devRow d' m (wc' j) = (devRow d m (wc j)).set c u) (hat : d'.at_ = d.at_) : PlantB (w.setCell ⟨g, j * 5 + c, none⟩ u) F a { p with devs := p.devs.set j d' } wc' D T (.slice (some ⟨g, 0, none⟩) n cap) W := by
  have hj : j < p.devs.length := (List.getElem?_eq_some_iff.1 hd).1
  obtain ⟨_, cur, hg⟩ := h.devs.blockF (by omega)
  refine ⟨?_, h.own, h.disks.far (p := ⟨g, _, none⟩) hg (by decide) u, h.tapes.far (p := ⟨g, _, none⟩) hg (by decide) u, h.devs.turn hd c hc u d' hw hrow hat, h.waits.far (p := ⟨g, _, none⟩) hg (by decide) u⟩
  exact h.blk.far (by
    rintro rfl
    have := h.blk
    unfold Blk at this
    rw [hg] at this
    injection this with this
    injection this with _ this
    exact absurd this (by decide)) u
end
theorem PlantB.drewN {w : World} {F : Nat → Prop} {a : Nat} {p : PM} {wc : Nat → Nat} {D T V W : Value} (h : PlantB w F a p wc D T V W) (n : Nat) : PlantB (w.drewN n) F a p wc D T V W :=
  h.mods ((Mods.refl w.heap.size (fun _ => False) w).drewN n) fun _g hg _ => ⟨hg, fun x => x⟩
theorem list_set_self {α : Type} {l : List α} {j : Nat} {x : α} (h : l[j]? = some x) : l.set j x = l := by
  obtain ⟨hj, e⟩ := List.getElem?_eq_some_iff.1 h
  subst e
  simp
set_option maxHeartbeats 4000000 in
theorem append_any {w : World} {F : Nat → Prop} {a : Nat} {p : PM} (h : PlantAt w F a p) (hok : p.Ok) (hlow : p.Low) (i : Int) (A : Option Addr) (n cap : Nat) (b : List UInt8) (hb : BAt w A b) (hl : b.length = n) :
    Calls Tryd.prog 28 #[.pointer (some ⟨a, 0, none⟩), .int .i64 i, .slice A n cap] w fun e w' => e = .returned (.tuple #[.int .i64 (p.append i b).2.1, .int .i64 (p.append i b).2.2]) ∧ PlantAt w' (Grow F w w') a (p.append i b).1 ∧ Mods w.heap.size F w w' := by
  have HP := Lib.hid h
  obtain ⟨D, T, V, W, hp⟩ := h
  have h4 := hp.c4
  have HB := Lib.hid hp
  have HX := Lib.hid hb
  have HL := Lib.hid hl
  rcases num_cases p i with ⟨hn, hi⟩ | ⟨j, d, rfl, hn, hj, hd⟩
  · clear hp hb hl
    cases hoff : p.off with
    | true =>
      have e : p.append i b = (p, 0, 2) := by unfold PM.append; rw [hoff]; rfl
      rw [e]
      rw [hoff] at h4
      clear hn hoff e
      go_enter Tryd.func28, Tryd.ntmps28
      go_wp2_with fail
      refine (dev_none HB.out i hi).mono ?_
      rintro e w1 ⟨rfl, rfl⟩
      go_wp2_with fail
      go_ret2
      exact ⟨rfl, HP.out.same⟩
    | false =>
      have e : p.append i b = (p, 0, 31) := by unfold PM.append; rw [hoff, hn]; rfl
      rw [e]
      rw [hoff] at h4
      clear hn hoff e
      go_enter Tryd.func28, Tryd.ntmps28
      go_wp2_with fail
      refine (dev_none HB.out i hi).mono ?_
      rintro e w1 ⟨rfl, rfl⟩
      go_wp2_with fail
      go_ret2
      exact ⟨rfl, HP.out.same⟩
  · obtain ⟨g, c1, rfl⟩ := hp.devs.form (by omega)
    obtain ⟨m, _, _, k0, k1, _, _, _⟩ := hp.devs.cells hd
    have HD := Lib.hid hd
    have HWR : Hid (p.append (j : Int) b = (if p.off then (p, 0, 2) else if d.tape = false then (p, 0, 31) else if b.length ≠ 64 then (p, 0, 32) else if d.size p.waits j = d.most then (p, 0, 3) else
      if (p.give j (d.size p.waits j) b).2 = 0 then ((p.give j (d.size p.waits j) b).1, (d.size p.waits j : Int), 0) else ((p.give j (d.size p.waits j) b).1, 0, 2))) := Lib.hid (by
      unfold PM.append
      rw [hn]
      simp only [hd])
    have HW := Lib.hid (hok.wc_le hd hlow.waits)
    have hsm := Dev.size_le hok hd
    have hm12 := (hok.most j d hd).2.2
    clear hp hb hl hn hd
    cases hoff : p.off with
    | true =>
      have e := HWR.out.trans (show _ = (p, 0, 2) by rw [hoff]; rfl)
      rw [e]
      rw [hoff] at h4
      clear hoff e
      go_enter Tryd.func28, Tryd.ntmps28
      go_wp2_with fail
      refine (dev_some HB.out j hj).mono ?_
      rintro e w1 ⟨rfl, rfl⟩
      go_wp2_with fail
      go_ret2
      exact ⟨rfl, HP.out.same⟩
    | false =>
      rw [hoff] at h4
      have HOF := Lib.hid hoff
      clear hoff
      cases ht : d.tape with
      | false =>
        have e := HWR.out.trans (show _ = (p, 0, 31) by rw [HOF.out, ht]; simp)
        rw [e]
        rw [ht] at k0
        clear ht e
        go_enter Tryd.func28, Tryd.ntmps28
        go_wp2_with fail
        refine (dev_some HB.out j hj).mono ?_
        rintro e w1 ⟨rfl, rfl⟩
        go_wp2_with fail
        go_ret2
        exact ⟨rfl, HP.out.same⟩
      | true =>
        rw [ht] at k0
        have HT := Lib.hid ht
        clear ht
        by_cases hl : n = 64
        · subst hl
          by_cases hfull : d.size p.waits j = d.most
          · have e := HWR.out.trans (show _ = (p, 0, 3) by rw [HOF.out, HT.out, HL.out]; simp [hfull])
            rw [e]
            have hfi : ((d.size p.waits j : Nat) : Int) = (d.most : Int) := by omega
            have HF : Hid (((d.size p.waits j : Nat) : Int) = (d.most : Int)) := Lib.hid hfi
            clear e hfull hfi
            go_enter Tryd.func28, Tryd.ntmps28
            go_wp2_with fail
            refine (dev_some HB.out j hj).mono ?_
            rintro e w1 ⟨rfl, rfl⟩
            go_wp2_with fail
            refine Ord.region_ord [1] [0, 2, 3, 4, 5, 1, 6, 7] (by kernel_rfl) (by kernel_rfl) (by kernel_rfl) (by kernel_rfl) (Ord.ord_run [0, 2, 3, 4, 5] [_, _, _, _, _] rfl (by kernel_rfl) ?_)
            go_wp2_with fail
            refine Ord.nx_ord (Ord.ord_one rfl ?_)
            go_wp2_with fail
            have hsz := size_any (w := w.drew) (show DevsAt w.drew F _ _ _ from HB.out.devs) HD.out HW.out.1
            rw [HW.out.2, HF.out] at hsz
            refine hsz.mono ?_
            clear hsz
            rintro e w1 ⟨rfl, k, rfl⟩
            go_wp2_with fail
            refine Ord.nx_and ⟨rfl, rfl, rfl, Nat.le_refl _, fun _ _ => rfl⟩ (Ord.ord_all [_, _] rfl (by kernel_rfl) ?_)
            go_wp2_with fail
            refine Ord.nx_end ?_
            go_wp2_with fail
            go_ret2
            exact ⟨rfl, HP.out.same_drew _⟩
          · have HNF : Hid (p.append (j : Int) b = (if (p.give j (d.size p.waits j) b).2 = 0 then ((p.give j (d.size p.waits j) b).1, (d.size p.waits j : Int), 0) else ((p.give j (d.size p.waits j) b).1, 0, 2))) := Lib.hid (HWR.out.trans (by
              rw [HOF.out, HT.out, HL.out, if_neg (by simp), if_neg (by simp), if_neg (by simp), if_neg hfull]))
            have hne : (((d.size p.waits j : Nat) : Int) == (d.most : Int)) = false := by simp; omega
            clear hfull HWR
            go_enter Tryd.func28, Tryd.ntmps28
            go_wp2_with fail
            refine (dev_some HB.out j hj).mono ?_
            rintro e w1 ⟨rfl, rfl⟩
            go_wp2_with fail
            refine Ord.region_ord [1] [0, 2, 3, 4, 5, 1, 6, 7] (by kernel_rfl) (by kernel_rfl) (by kernel_rfl) (by kernel_rfl) (Ord.ord_run [0, 2, 3, 4, 5] [_, _, _, _, _] rfl (by kernel_rfl) ?_)
            go_wp2_with fail
            refine Ord.nx_ord (Ord.ord_one rfl ?_)
            go_wp2_with fail
            have hsz := size_any (w := w.drew) (show DevsAt w.drew F _ _ _ from HB.out.devs) HD.out HW.out.1
            rw [HW.out.2] at hsz
            refine hsz.mono ?_
            clear hsz
            rintro e w1 ⟨rfl, k, rfl⟩
            go_wp2_with fail
            refine Ord.nx_and ⟨rfl, rfl, rfl, Nat.le_refl _, fun _ _ => rfl⟩ (Ord.ord_all [_, _] rfl (by kernel_rfl) ?_)
            go_wp2_with fail
            refine Ord.nx_end ?_
            clear hne
            go_wp2_with fail
            have hsz := size_any (w := w.drewN (1 + k)) (show DevsAt (w.drewN (1 + k)) F _ _ _ from HB.out.devs) HD.out HW.out.1
            rw [HW.out.2] at hsz
            refine hsz.mono ?_
            clear hsz
            rintro e w1 ⟨rfl, k', rfl⟩
            go_wp2_with fail
            have hpn : ∀ n, PlantB (w.drewN n) F a p (wcOf p) D T (.slice (some ⟨g, 0, none⟩) p.devs.length c1) W := fun n => HB.out.drewN n
            have hxn : ∀ n, BAt (w.drewN n) A b := fun n => HX.out
            refine (give_any (hpn _) hlow.steps hok.fuse j (d.size p.waits j) A cap b (hxn _) HL.out hlow.waits).mono ?_
            clear hpn hxn
            rintro e w2 ⟨rfl, ⟨W2, h2⟩, hm2⟩
            have H2 := Lib.hid h2
            have HM2 := Lib.hid hm2
            clear h2 hm2
            have HST := Lib.hid (PM.step_same p)
            have hsz2 : w.heap.size ≤ w2.heap.size := HM2.out.size
            cases hgv : (p.step).2 with
            | false =>
              have hg0 : p.give j (d.size p.waits j) b = (p.step.1, 2) := by unfold PM.give; rw [hgv]; rfl
              have HEQ : Hid (p.append (j : Int) b = (p.step.1, 0, 2)) := Lib.hid (by rw [HNF.out, hg0]; rfl)
              rw [hg0]
              have H2' := H2.out
              rw [hg0] at H2'
              have H3 := Lib.hid H2'
              clear H2' hg0 hgv HNF H2
              go_wp2_with fail
              go_ret2
              rw [HEQ.out]
              refine ⟨rfl, ⟨D, T, .slice (some ⟨g, 0, none⟩) p.devs.length c1, W2, ?_⟩, ⟨HM2.out.os, HM2.out.tape, HM2.out.output, HM2.out.size, HM2.out.keep⟩⟩
              have hwc : wcOf p.step.1 = wcOf p := funext fun i => by unfold wcOf; rw [HST.out.2.2.1, HST.out.2.2.2.1]
              rw [hwc]
              exact H3.out
            | true =>
              have hg0 : p.give j (d.size p.waits j) b = ({ p.step.1 with waits := p.step.1.waits ++ [⟨j, d.size p.waits j, b⟩] }, 0) := by unfold PM.give; rw [hgv]; rfl
              have HEQ : Hid (p.append (j : Int) b = ({ p.step.1 with waits := p.step.1.waits ++ [⟨j, d.size p.waits j, b⟩] }, ((d.size p.waits j : Nat) : Int), 0)) := Lib.hid (by rw [HNF.out, hg0]; rfl)
              rw [hg0]
              have H2' := H2.out
              rw [hg0] at H2'
              have hd2 : p.step.1.devs[j]? = some d := by rw [HST.out.2.2.1]; exact HD.out
              obtain ⟨m2, _, _, _, _, _, _, q4⟩ := H2'.devs.cells hd2
              have qz := H2'.devs.free (by rw [HST.out.2.2.1]; omega) (j * 5 + 4)
              have H3 := Lib.hid H2'
              have HD2 := Lib.hid hd2
              have hw4 : (wcOf p j : Int) + 1 ≤ 9223372036854775807 := by have := HW.out.1; omega
              clear H2' hg0 hgv HNF H2 hd2
              go_wp2_with fail
              go_ret2
              rw [HEQ.out]
              have hq : wcOf ({ p.step.1 with waits := p.step.1.waits ++ [⟨j, d.size p.waits j, b⟩] } : PM) = fun i => if i = j then wcOf p j + 1 else wcOf p i := funext fun i => by
                unfold wcOf
                simp only [HST.out.2.2.1, HST.out.2.2.2.1, cnt_snoc]
                by_cases hij : i = j
                · subst hij
                  rw [HD.out]
                  simp [HT.out]
                · simp [hij, Ne.symm hij]
              have ht := H3.out.turnDev (wc' := fun i => if i = j then wcOf p j + 1 else wcOf p i) HD2.out 4 (by omega) (.int .i64 ((wcOf p j : Int) + 1)) d (fun i hi => by simp [hi]) (fun m => by simp [devRow]) rfl
              simp only [HST.out.2.2.1, list_set_self HD.out] at ht
              refine ⟨by simp, ⟨D, T, .slice (some ⟨g, 0, none⟩) p.devs.length c1, W2, ?_⟩, ?_⟩
              · rw [hq]
                have e : ({ p.step.1 with waits := p.step.1.waits ++ [⟨j, d.size p.waits j, b⟩] } : PM) = { p.step.1 with devs := p.devs, waits := p.step.1.waits ++ [⟨j, d.size p.waits j, b⟩] } := by rw [← HST.out.2.2.1]
                rw [e]
                refine PlantB.mono ht fun g' _ hg' => ?_
                rcases hg' with hg' | ⟨h1, h2⟩
                · exact .inl hg'
                · exact .inr ⟨h1, by simpa [World.setCell] using h2⟩
              · have hF : F g := (HB.out.devs.blockF (by omega)).1
                have hm2 : Mods w.heap.size F w w2 := ⟨HM2.out.os, HM2.out.tape, HM2.out.output, HM2.out.size, HM2.out.keep⟩
                exact hm2.setCell (p := ⟨g, j * 5 + 4, none⟩) (.inl hF) _
        · have e := HWR.out.trans (show _ = (p, 0, 32) by rw [HOF.out, HT.out, HL.out, if_neg (by simp), if_neg (by simp), if_pos hl])
          rw [e]
          have hl64 : ¬ (n : Int) = 64 := by omega
          clear e
          go_enter Tryd.func28, Tryd.ntmps28
          go_wp2_with fail
          refine (dev_some HB.out j hj).mono ?_
          rintro e w1 ⟨rfl, rfl⟩
          go_wp2_with fail
          go_ret2
          exact ⟨rfl, HP.out.same⟩
end Go.Proofs.YtloffgoenaomkaaDoor.Pl
