/- The small functions of package plant: a device, its size, a step. -/
import Derived.Test.YtomncfiklkhfjaaPlMem
import Derived.Test.YtomncfiklkhfjaaOrd
import Derived.BigQuiet
import Derived.Deep.QuietTactic
import Derived.WalkSpells
namespace Go.Proofs.Ytomncfiklkhfjaa.Pl
open Go Go.RowKit Mem
section
variable {w : World} {F : Nat → Prop} {a : Nat} {p : PM} {wc : Nat → Nat} {D T V W : Value}
theorem PlantB.c0 (h : PlantB w F a p wc D T V W) : w.cell? ⟨a, 0, none⟩ = some D := by rw [h.blk.cell]; rfl
theorem PlantB.c1 (h : PlantB w F a p wc D T V W) : w.cell? ⟨a, 1, none⟩ = some T := by rw [h.blk.cell]; rfl
theorem PlantB.c2 (h : PlantB w F a p wc D T V W) : w.cell? ⟨a, 2, none⟩ = some V := by rw [h.blk.cell]; rfl
theorem PlantB.c3 (h : PlantB w F a p wc D T V W) : w.cell? ⟨a, 3, none⟩ = some W := by rw [h.blk.cell]; rfl
theorem PlantB.c4 (h : PlantB w F a p wc D T V W) : w.cell? ⟨a, 4, none⟩ = some (.bool p.off) := by rw [h.blk.cell]; rfl
theorem PlantB.c5 (h : PlantB w F a p wc D T V W) : w.cell? ⟨a, 5, none⟩ = some (.int .i64 p.fuseI) := by rw [h.blk.cell]; rfl
theorem PlantB.c6 (h : PlantB w F a p wc D T V W) : w.cell? ⟨a, 6, none⟩ = some (.int .i64 (p.steps : Int)) := by rw [h.blk.cell]; rfl
theorem PlantB.c7 (h : PlantB w F a p wc D T V W) : w.cell? ⟨a, 7, none⟩ = some (.int .i64 (p.now : Int)) := by rw [h.blk.cell]; rfl
theorem PlantB.fz (h : PlantB w F a p wc D T V W) (k : Nat) : w.frozen? ⟨a, k, none⟩ = false := h.blk.frozen k
theorem DevsAt.form {ds : List Dev} {wc : Nat → Nat} (h : DevsAt w F V ds wc) (h0 : 0 < ds.length) : ∃ g cap, V = .slice (some ⟨g, 0, none⟩) ds.length cap := by
  obtain ⟨ms, h1, _⟩ := h
  obtain ⟨g, cap, cur, hv, _⟩ := h1.form h0
  exact ⟨g, cap, hv⟩
/-- A device's cells. -/
theorem DevsAt.cells {ds : List Dev} {wc : Nat → Nat} {g n cap : Nat} (h : DevsAt w F (.slice (some ⟨g, 0, none⟩) n cap) ds wc) {j : Nat} {d : Dev} (hd : ds[j]? = some d) :
    ∃ m, F m ∧ SecMap w m d.at_ ∧ w.cell? ⟨g, j * 5, none⟩ = some (.bool d.tape) ∧ w.cell? ⟨g, j * 5 + 1, none⟩ = some (.int .i64 (d.most : Int)) ∧ w.cell? ⟨g, j * 5 + 2, none⟩ = some (.map (some m)) ∧
      w.cell? ⟨g, j * 5 + 3, none⟩ = some (.int .i64 ((if d.tape then d.has.length else 0 : Nat) : Int)) ∧ w.cell? ⟨g, j * 5 + 4, none⟩ = some (.int .i64 (wc j : Int)) := by
  obtain ⟨ms, h1, h2, h3, h4⟩ := h
  have hj : j < ds.length := (List.getElem?_eq_some_iff.1 hd).1
  have hm : ms[j]? = some ms[j] := List.getElem?_eq_getElem (by omega)
  obtain ⟨h5, h6⟩ := h4 j d _ hd hm
  have hr := devRows_get wc 0 ds ms j d _ hd hm
  rw [Nat.zero_add] at hr
  obtain ⟨A, cap', hv⟩ := h1.shape
  injection hv with hA hn hc
  subst hA hn hc
  have hc := fun (k : Nat) (u : Value) (hk : k < 5) (hu : (devRow d ms[j] (wc j))[k]? = some u) => h1.at_ (k := j * 5 + k) (u := u) (by rw [flat_get _ (devRows_five wc 0 ds ms) j k _ hr hk, hu])
  exact ⟨_, h6, h5, hc 0 _ (by omega) rfl, hc 1 _ (by omega) rfl, hc 2 _ (by omega) rfl, hc 3 _ (by omega) rfl, hc 4 _ (by omega) rfl⟩
end
set_option maxHeartbeats 1000000 in
theorem dev_none {w : World} {F : Nat → Prop} {a : Nat} {p : PM} {wc : Nat → Nat} {D T V W : Value} (h : PlantB w F a p wc D T V W) (i : Int) (hi : i < 0 ∨ (p.devs.length : Int) ≤ i) :
    Calls Try.prog 66 #[.pointer (some ⟨a, 0, none⟩), .int .i64 i] w fun e w' => e = .returned (.pointer none) ∧ w = w' := by
  have h2 := h.c2
  obtain ⟨A, cap, rfl⟩ : ∃ A cap, V = .slice A p.devs.length cap := by obtain ⟨ms, h1, _⟩ := h.devs; exact h1.shape
  clear h
  by_cases h0 : i < 0
  · go_enter Try.func66, Try.ntmps66
    go_wp2
    go_ret
    exact ⟨rfl, rfl⟩
  · have hle : (p.devs.length : Int) ≤ i := by omega
    clear hi
    go_enter Try.func66, Try.ntmps66
    go_wp2
    go_ret
    exact ⟨rfl, rfl⟩
set_option maxHeartbeats 1000000 in
theorem dev_some {w : World} {F : Nat → Prop} {a : Nat} {p : PM} {wc : Nat → Nat} {D T W : Value} {g cap : Nat} (h : PlantB w F a p wc D T (.slice (some ⟨g, 0, none⟩) p.devs.length cap) W) (j : Nat) (hj : j < p.devs.length) :
    Calls Try.prog 66 #[.pointer (some ⟨a, 0, none⟩), .int .i64 (j : Int)] w fun e w' => e = .returned (.pointer (some ⟨g, j * 5, none⟩)) ∧ w = w' := by
  have h2 := h.c2
  clear h
  have hj' : (j : Int) < (p.devs.length : Int) := by omega
  go_enter Try.func66, Try.ntmps66
  go_wp2
  go_ret
  exact ⟨rfl, rfl⟩
theorem eq_u64 {x y : Nat} (h : x = y) : Ending.returned (.int .i64 (x : Int)) = .returned (.int .i64 (y : Int)) := by rw [h]
set_option maxHeartbeats 1000000 in
/-- How many sectors, or blocks, a device has now. -/
theorem size_any {w : World} {F : Nat → Prop} {ds : List Dev} {wc : Nat → Nat} {g n cap : Nat} (h : DevsAt w F (.slice (some ⟨g, 0, none⟩) n cap) ds wc) {j : Nat} {d : Dev} (hd : ds[j]? = some d) (hl : d.has.length + wc j ≤ 4096) :
    Calls Try.prog 71 #[.pointer (some ⟨g, j * 5, none⟩)] w fun e w' => e = .returned (.int .i64 ((if d.tape then d.has.length + wc j else d.most : Nat) : Int)) ∧ ∃ k, w' = w.drewN k := by
  obtain ⟨m, _, _, h0, h1, h2, h3, h4⟩ := h.cells hd
  clear h hd h2
  cases ht : d.tape with
  | false =>
    rw [ht] at h0 h3
    go_enter Try.func71, Try.ntmps71
    go_wp2
    go_ret
    exact ⟨rfl, 0, rfl⟩
  | true =>
    rw [ht] at h0 h3
    simp only [if_true] at h3
    have hw : IntKind.i64.wrap ((d.has.length : Int) + (wc j : Int)) = (d.has.length : Int) + (wc j : Int) := IntWalk.i64_in _ (by omega)
    go_enter Try.func71, Try.ntmps71
    go_wp2
    go_quiet (fail)
    go_wp2
    go_ret
    exact ⟨by simp, _, rfl⟩
/-- Only the number of draws has turned. -/
theorem PM.step_off {p : PM} (h : p.step.2 = true) : p.step.1.off = p.off := by
  unfold PM.step at *
  split <;> simp_all
theorem PM.step_same (p : PM) : p.step.1.disks = p.disks ∧ p.step.1.tapes = p.tapes ∧ p.step.1.devs = p.devs ∧ p.step.1.waits = p.waits ∧ p.step.1.now = p.now := by
  unfold PM.step
  split <;> simp
/-- A plant whose power, fuse, steps or clock are others. -/
theorem PlantB.turn {w w' : World} {F : Nat → Prop} {a : Nat} {p q : PM} {wc : Nat → Nat} {D T V W : Value} (h : PlantB w F a p wc D T V W) (hq : q.disks = p.disks ∧ q.tapes = p.tapes ∧ q.devs = p.devs ∧ q.waits = p.waits)
    (hb : Blk w' a 93 (plCells D T V W q).toArray) (hk : ∀ k, k ≠ a → w'.heap[k]? = w.heap[k]?) : PlantB w' F a q wc D T V W := by
  obtain ⟨q1, q2, q3, q4⟩ := hq
  have hne : ∀ (k : Nat) (t : TypeId) (cs : Array Value) (fz : Nat × Nat), t ≠ 93 → w.heap[k]? = some (Obj.cells cs t fz) → w'.heap[k]? = some (Obj.cells cs t fz) := fun k t cs fz ht hh => (hk k (by
    rintro rfl
    have := h.blk
    unfold Blk at this
    rw [hh] at this
    injection this with this
    injection this with _ this
    exact ht this)).trans hh
  refine ⟨hb, h.own, ?_, ?_, ?_, ?_⟩
  · rw [q1]; exact h.disks.heap fun k cs hh => hne k _ cs _ (by decide) hh
  · rw [q2]; exact h.tapes.heap fun k cs hh => hne k _ cs _ (by decide) hh
  · rw [q3]
    refine h.devs.heap (fun k cs hh => hne k _ cs _ (by decide) hh) fun k es c hh => (hk k ?_).trans hh
    rintro rfl
    have := h.blk
    unfold Blk at this
    rw [hh] at this
    cases this
  · unfold WaitsAt; rw [q4]; exact h.waits.heap fun k cs hh => hne k _ cs _ (by decide) hh
theorem heap_set_ne (w : World) (a k j : Nat) (v : Value) (h : k ≠ a) : (w.setCell ⟨a, j, none⟩ v).heap[k]? = w.heap[k]? := Below.heap_setCell w ⟨a, j, none⟩ v k h
theorem mods_set (w w' : World) (a j : Nat) (v : Value) (h : Mods w.heap.size (· = a) w w') : Mods w.heap.size (· = a) w (w'.setCell ⟨a, j, none⟩ v) := h.setCell (p := ⟨a, j, none⟩) (.inl rfl) v
set_option maxHeartbeats 2000000 in
/-- A step; false: the power goes off at it. -/
theorem step_any {w : World} {F : Nat → Prop} {a : Nat} {p : PM} {wc : Nat → Nat} {D T V W : Value} (h : PlantB w F a p wc D T V W) (hs : p.steps < 4611686018427387904) (hf : p.fuseI < 9223372036854775808) :
    Calls Try.prog 67 #[.pointer (some ⟨a, 0, none⟩)] w fun e w' => e = .returned (.bool p.step.2) ∧ PlantB w' F a p.step.1 wc D T V W ∧ (∀ k, k ≠ a → w'.heap[k]? = w.heap[k]?) ∧ Mods w.heap.size (· = a) w w' := by
  have h5 := h.c5
  have h6 := h.c6
  have hz4 := h.fz 4
  have hz5 := h.fz 5
  have hz6 := h.fz 6
  have hc4 := h.c4
  have H := Lib.hid h
  clear h
  have hp6 : p.steps + 1 < 9223372036854775808 := by omega
  cases hfu : p.fuse with
  | none =>
    have e5 : p.fuseI = -1 := by simp [PM.fuseI, hfu]
    rw [e5] at h5
    have hst : p.step = ({ p with steps := p.steps + 1 }, true) := by unfold PM.step; rw [hfu]
    go_enter Try.func67, Try.ntmps67
    go_wp2
    go_ret
    rw [hst]
    refine ⟨rfl, H.out.turn ⟨rfl, rfl, rfl, rfl⟩ ?_ (fun k hk => heap_set_ne _ _ _ _ _ hk), fun k hk => heap_set_ne _ _ _ _ _ hk, mods_set _ _ _ _ _ (Mods.refl _ _ _)⟩
    have hb := (H.out.blk.set_ 6 (.int .i64 ((p.steps : Int) + 1)))
    simpa [plCells, PM.fuseI, hfu] using hb
  | some n =>
    have e5 : p.fuseI = n := by simp [PM.fuseI, hfu]
    rw [e5] at h5 hf
    by_cases hn : n = 0
    · subst hn
      have hst : p.step = ({ p with off := true, fuse := none }, false) := by unfold PM.step; rw [hfu]
      go_enter Try.func67, Try.ntmps67
      go_wp2
      go_ret
      rw [hst]
      refine ⟨rfl, H.out.turn ⟨rfl, rfl, rfl, rfl⟩ ?_ (fun k hk => (heap_set_ne _ _ _ _ _ hk).trans (heap_set_ne _ _ _ _ _ hk)), fun k hk => (heap_set_ne _ _ _ _ _ hk).trans (heap_set_ne _ _ _ _ _ hk), mods_set _ _ _ _ _ (mods_set _ _ _ _ _ (Mods.refl _ _ _))⟩
      have hb := (H.out.blk.set_ 4 (.bool true)).set_ 5 (.int .i64 (-1))
      simpa [plCells, PM.fuseI] using hb
    · have hst : p.step = ({ p with fuse := some (n - 1), steps := p.steps + 1 }, true) := by
        obtain ⟨m, rfl⟩ : ∃ m, n = m + 1 := ⟨n - 1, by omega⟩
        unfold PM.step
        rw [hfu]
        rfl
      have HST := Lib.hid hst
      have hn0 : (0 : Int) < (n : Int) := by omega
      have hn1 : ((n : Int) == 0) = false := by simpa using hn
      have en : Hid ((n : Int) - 1 = ((n - 1 : Nat) : Int)) := Lib.hid (by omega)
      have hf' : (n : Int) ≤ 9223372036854775807 := by omega
      clear hst hfu hn e5 hf hs
      go_enter Try.func67, Try.ntmps67
      go_wp2
      go_ret
      rw [HST.out, en.out]
      refine ⟨rfl, H.out.turn ⟨rfl, rfl, rfl, rfl⟩ ?_ (fun k hk => (heap_set_ne _ _ _ _ _ hk).trans (heap_set_ne _ _ _ _ _ hk)), fun k hk => (heap_set_ne _ _ _ _ _ hk).trans (heap_set_ne _ _ _ _ _ hk), mods_set _ _ _ _ _ (mods_set _ _ _ _ _ (Mods.refl _ _ _))⟩
      have hb := (H.out.blk.set_ 5 (.int .i64 ((n - 1 : Nat) : Int))).set_ 6 (.int .i64 ((p.steps : Int) + 1))
      simpa [plCells, PM.fuseI] using hb
end Go.Proofs.Ytomncfiklkhfjaa.Pl
