/- 'Append' of a plant. -/
import Derived.Test.YtlnfeehokpkgiaaDoorFold2
namespace Go.Proofs.YtlnfeehokpkgiaaDoor.Pl
open Go Go.RowKit Mem
section
variable {w : World} {F : Nat → Prop} {a : Nat} {p : PM} {wc wc' : Nat → Nat} {D T W : Value} {g n cap : Nat} {ds : List Dev}
theorem DevsAt.blockF (h : DevsAt w F (.slice (some ⟨g, 0, none⟩) n cap) ds wc) (h0 : 0 < ds.length) : F g ∧ ∃ cur, w.heap[g]? = some (.cells cur 80 (0, 0)) := by
  obtain ⟨ms, h1, _⟩ := h
  obtain ⟨A, c, hv⟩ := h1.shape
  injection hv with hA hn hc
  subst hA hn hc
  exact h1.blockF h0
theorem DevsAt.free (h : DevsAt w F (.slice (some ⟨g, 0, none⟩) n cap) ds wc) (h0 : 0 < ds.length) (k : Nat) : w.frozen? ⟨g, k, none⟩ = false := by
  obtain ⟨_, cur, hh⟩ := h.blockF h0
  simp [World.frozen?, hh]
/-- One cell of a device's row is written. -/
theorem DevsAt.turn (h : DevsAt w F (.slice (some ⟨g, 0, none⟩) n cap) ds wc) {j : Nat} {d : Dev} (hd : ds[j]? = some d) (c : Nat) (hc : c < 5) (u : Value) (d' : Dev) (hw : ∀ i, i ≠ j → wc' i = wc i)
    (hrow : ∀ m, devRow d' m (wc' j) = (devRow d m (wc j)).set c u) (hat : d'.at_ = d.at_) : DevsAt (w.setCell ⟨g, j * 5 + c, none⟩ u) F (.slice (some ⟨g, 0, none⟩) n cap) (ds.set j d') wc' := by
  have hj : j < ds.length := (List.getElem?_eq_some_iff.1 hd).1
  obtain ⟨_, cur, hg⟩ := h.blockF (by omega)
  obtain ⟨ms, h1, h2, h3, h4⟩ := h
  have hm : ms[j]? = some ms[j] := List.getElem?_eq_getElem (by omega)
  have hr := devRows_get wc 0 ds ms j d _ hd hm
  rw [Nat.zero_add] at hr
  obtain ⟨A, c2, hv⟩ := h1.shape
  injection hv with hA hn hcc
  subst hA hn hcc
  refine ⟨ms, ?_, by simpa using h2, h3, fun i d2 m2 hd2 hm2 => ?_⟩
  · have hs := h1.set (j * 5 + c) u
    rw [flat_set _ (devRows_five wc 0 ds ms) j c _ u hr hc, ← hrow, List.length_set] at *
    have e := devRows_set wc wc' d' 0 ds ms j _ hj hm (fun i hi => hw i (by omega))
    rw [Nat.zero_add] at e
    rw [e]
    exact hs
  · by_cases hij : i = j
    · subst hij
      simp [hj] at hd2
      subst hd2
      obtain ⟨h5, h6⟩ := h4 i d m2 hd hm2
      rw [hat]
      refine ⟨h5.heap ?_, h6⟩
      obtain ⟨es, cl, he⟩ := h5.obj
      exact Below.heap_setCell w ⟨g, i * 5 + c, none⟩ u m2 (by rintro rfl; rw [hg] at he; cases he)
    · rw [List.getElem?_set_ne (Ne.symm hij)] at hd2
      obtain ⟨h5, h6⟩ := h4 i d2 m2 hd2 hm2
      refine ⟨h5.heap ?_, h6⟩
      obtain ⟨es, cl, he⟩ := h5.obj
      exact Below.heap_setCell w ⟨g, j * 5 + c, none⟩ u m2 (by rintro rfl; rw [hg] at he; cases he)
theorem PlantB.turnDev (h : PlantB w F a p wc D T (.slice (some ⟨g, 0, none⟩) n cap) W) {j : Nat} {d : Dev} (hd : p.devs[j]? = some d) (c : Nat) (hc : c < 5) (u : Value) (d' : Dev) (hw : ∀ i, i ≠ j → wc' i = wc i)
    (hrow : ∀ m, devRow d' m (wc' j) = (devRow d m (wc j)).set c u) (hat : d'.at_ = d.at_) : PlantB (w.setCell ⟨g, j * 5 + c, none⟩ u) F a { p with devs := p.devs.set j d' } wc' D T (.slice (some ⟨g, 0, none⟩) n cap) W := by
  have hj : j < p.devs.length := (List.getElem?_eq_some_iff.1 hd).1
  obtain ⟨_, cur, hg⟩ := h.devs.blockF (by omega)
  refine ⟨?_, h.own, h.disks.far (p := ⟨g, _, none⟩) hg (by decide) u, h.tapes.far (p := ⟨g, _, none⟩) hg (by decide) u, h.devs.turn hd c hc u d' hw hrow hat, h.waits.far (p := ⟨g, _, none⟩) hg (by decide) u⟩
  exact h.blk.far (by
    rintro rfl
    have := h.blk
    unfold Blk at this
    rw [hg] at this
    injection this with this
    injection this with _ this
    exact absurd this (by decide)) u
end
theorem PlantB.drewN {w : World} {F : Nat → Prop} {a : Nat} {p : PM} {wc : Nat → Nat} {D T V W : Value} (h : PlantB w F a p wc D T V W) (n : Nat) : PlantB (w.drewN n) F a p wc D T V W :=
  h.mods ((Mods.refl w.heap.size (fun _ => False) w).drewN n) fun _g hg _ => ⟨hg, fun x => x⟩
theorem list_set_self {α : Type} {l : List α} {j : Nat} {x : α} (h : l[j]? = some x) : l.set j x = l := by
  obtain ⟨hj, e⟩ := List.getElem?_eq_some_iff.1 h
  subst e
  simp
end Go.Proofs.YtlnfeehokpkgiaaDoor.Pl
