/- The small functions of a plant: 'On', 'Steps', 'Now', 'Fuse', 'Tick'. -/
import Derived.Test.YtomncfiklkhfjaaPlAppend
import Derived.RegionTactic
import Derived.StillTailTactics
namespace Go.Proofs.Ytomncfiklkhfjaa.Pl
open Go Go.RowKit Mem
section
variable {w : World} {F : Nat → Prop} {a : Nat} {p : PM}
theorem on_any (h : PlantAt w F a p) : Calls Try.prog 40 #[.pointer (some ⟨a, 0, none⟩)] w fun e w' => e = .returned (.bool (!p.off)) ∧ w = w' := by
  obtain ⟨D, T, V, W, hp⟩ := h
  have h4 := hp.c4
  clear hp
  go_enter Try.func40, Try.ntmps40
  go_wp2
  go_ret
  exact ⟨rfl, rfl⟩
theorem steps_any (h : PlantAt w F a p) : Calls Try.prog 39 #[.pointer (some ⟨a, 0, none⟩)] w fun e w' => e = .returned (.int .i64 (p.steps : Int)) ∧ w = w' := by
  obtain ⟨D, T, V, W, hp⟩ := h
  have h6 := hp.c6
  clear hp
  go_enter Try.func39, Try.ntmps39
  go_wp2
  go_ret
  exact ⟨rfl, rfl⟩
theorem now_any (h : PlantAt w F a p) : Calls Try.prog 82 #[.pointer (some ⟨a, 0, none⟩)] w fun e w' => e = .returned (.int .i64 (p.now : Int)) ∧ w = w' := by
  obtain ⟨D, T, V, W, hp⟩ := h
  have h7 := hp.c7
  clear hp
  go_enter Try.func82, Try.ntmps82
  go_wp2
  go_ret
  exact ⟨rfl, rfl⟩
theorem PlantB.turnAt {D T V W : Value} {q : PM} (h : PlantB w F a p (wcOf p) D T V W) (hq : q.disks = p.disks ∧ q.tapes = p.tapes ∧ q.devs = p.devs ∧ q.waits = p.waits) {w' : World}
    (hb : Blk w' a 93 (plCells D T V W q).toArray) (hk : ∀ k, k ≠ a → w'.heap[k]? = w.heap[k]?) : PlantAt w' (Grow F w w') a q := by
  have hwc : wcOf q = wcOf p := funext fun i => by unfold wcOf; rw [hq.2.2.1, hq.2.2.2]
  exact ⟨D, T, V, W, by rw [hwc]; exact (h.turn hq hb hk).mono fun g _ hg => .inl hg⟩
set_option maxHeartbeats 1000000 in
theorem fuse_any (h : PlantAt w F a p) (n : Int) : Calls Try.prog 38 #[.pointer (some ⟨a, 0, none⟩), .int .i64 n] w fun e w' => e = .returned (.tuple #[]) ∧ PlantAt w' (Grow F w w') a (p.setFuse n) ∧ Mods w.heap.size F w w' := by
  have HP := Lib.hid h
  obtain ⟨D, T, V, W, hp⟩ := h
  have h4 := hp.c4
  have h5 := hp.c5
  have z5 := hp.fz 5
  have HB := Lib.hid hp
  clear hp
  cases hoff : p.off with
  | true =>
    have e : p.setFuse n = p := by unfold PM.setFuse; rw [hoff]; rfl
    rw [e]
    rw [hoff] at h4
    clear hoff e
    go_enter Try.func38, Try.ntmps38
    go_wp2
    go_end0
    exact ⟨rfl, HP.out.same⟩
  | false =>
    have HE : Hid (p.setFuse n = { p with fuse := if n < 0 then none else some n.toNat }) := Lib.hid (by unfold PM.setFuse; rw [hoff]; rfl)
    rw [hoff] at h4
    clear hoff
    have hfin : ∀ (x : Int), x = ({ p with fuse := if n < 0 then none else some n.toNat } : PM).fuseI → PlantAt (w.setCell ⟨a, 5, none⟩ (.int .i64 x)) (Grow F w (w.setCell ⟨a, 5, none⟩ (.int .i64 x))) a (p.setFuse n) ∧ Mods w.heap.size F w (w.setCell ⟨a, 5, none⟩ (.int .i64 x)) := fun x hx => by
      subst hx
      rw [HE.out]
      refine ⟨HB.out.turnAt (q := { p with fuse := if n < 0 then none else some n.toNat }) ⟨rfl, rfl, rfl, rfl⟩ ?_ (fun k hk => heap_set_ne _ _ _ _ _ hk), (mods_set _ _ _ _ _ (Mods.refl _ _ _)).mono (Nat.le_refl _) fun g _ hg => by subst hg; exact HB.out.own⟩
      have hb := HB.out.blk.set_ 5 (.int .i64 ({ p with fuse := if n < 0 then none else some n.toNat } : PM).fuseI)
      simpa [plCells] using hb
    have HFIN := Lib.hid hfin
    clear hfin
    by_cases hn : n < -1
    · go_enter Try.func38, Try.ntmps38
      go_wp2
      go_end0
      exact ⟨rfl, HFIN.out _ (by unfold PM.fuseI; rw [if_pos (by omega)])⟩
    · have hn' : -1 ≤ n := by omega
      clear hn
      go_enter Try.func38, Try.ntmps38
      go_wp2
      go_end0
      refine ⟨rfl, HFIN.out _ ?_⟩
      unfold PM.fuseI
      by_cases h0 : n < 0
      · rw [if_pos h0]
        simp only
        omega
      · rw [if_neg h0]
        simp only
        omega
set_option maxRecDepth 100000 in
set_option maxHeartbeats 1000000 in
theorem tick_any (h : PlantAt w F a p) (hok : p.Ok) (n : Int) (hn : n ≤ 9223372036854775807) : Calls Try.prog 51 #[.pointer (some ⟨a, 0, none⟩), .int .i64 n] w fun e w' => e = .returned (.tuple #[]) ∧ PlantAt w' (Grow F w w') a (p.tick n) ∧ Mods w.heap.size F w w' := by
  have HP := Lib.hid h
  obtain ⟨D, T, V, W, hp⟩ := h
  have h7 := hp.c7
  have z7 := hp.fz 7
  have HB := Lib.hid hp
  have hnow := hok.now
  clear hp
  by_cases h0 : 0 < n
  · have HE : Hid (p.tick n = { p with now := p.now + min n.toNat (1099511627776 - p.now) }) := Lib.hid (by unfold PM.tick; rw [if_pos h0])
    have hfin : ∀ (x : Int), x = ((p.now + min n.toNat (1099511627776 - p.now) : Nat) : Int) → PlantAt (w.setCell ⟨a, 7, none⟩ (.int .i64 x)).drew (Grow F w (w.setCell ⟨a, 7, none⟩ (.int .i64 x)).drew) a (p.tick n) ∧ Mods w.heap.size F w (w.setCell ⟨a, 7, none⟩ (.int .i64 x)).drew := fun x hx => by
      subst hx
      rw [HE.out]
      refine ⟨HB.out.turnAt (q := { p with now := p.now + min n.toNat (1099511627776 - p.now) }) ⟨rfl, rfl, rfl, rfl⟩ ?_ (fun k hk => heap_set_ne w a k 7 _ hk), ((mods_set w w a 7 _ (Mods.refl _ _ _)).mono (Nat.le_refl _) fun g _ hg => by subst hg; exact HB.out.own).drew⟩
      have hb := HB.out.blk.set_ 7 (.int .i64 ((p.now + min n.toNat (1099511627776 - p.now) : Nat) : Int))
      exact (show Blk (w.setCell ⟨a, 7, none⟩ _) a 93 _ by simpa [plCells, PM.fuseI] using hb)
    have HFIN := Lib.hid hfin
    clear hfin
    have hw1 : IntKind.i64.wrap (1099511627776 - (p.now : Int)) = 1099511627776 - (p.now : Int) := IntWalk.i64_in _ (by omega)
    by_cases hm : 1099511627776 - (p.now : Int) < n
    · have hw2 : IntKind.i64.wrap ((p.now : Int) + (1099511627776 - (p.now : Int))) = (p.now : Int) + (1099511627776 - (p.now : Int)) := IntWalk.i64_in _ (by omega)
      go_enter Try.func51, Try.ntmps51
      go_wp2
      go_still_tail 12, (by kernel_rfl)
      change wpList _ _ _ _ _ w.drew
      go_wp2
      go_end0
      exact ⟨rfl, HFIN.out _ (by omega)⟩
    · have hm' : n ≤ 1099511627776 - (p.now : Int) := by omega
      have hm2 : ¬ 1099511627776 - (p.now : Int) < n := hm
      have hw2 : IntKind.i64.wrap ((p.now : Int) + n) = (p.now : Int) + n := IntWalk.i64_in _ (by omega)
      clear hm
      go_enter Try.func51, Try.ntmps51
      go_wp2
      go_still_tail 12, (by kernel_rfl)
      change wpList _ _ _ _ _ w.drew
      go_wp2
      go_end0
      exact ⟨rfl, HFIN.out _ (by omega)⟩
  · have e : p.tick n = p := by unfold PM.tick; rw [if_neg h0]
    rw [e]
    clear e
    go_enter Try.func51, Try.ntmps51
    go_wp2
    go_end0
    exact ⟨rfl, HP.out.same⟩
end
end Go.Proofs.Ytomncfiklkhfjaa.Pl
