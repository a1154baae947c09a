/- The hot disk's 'place': whether that is a place of the disk. (Printed by gen_hotplace.py.) -/
import Derived.Test.YtgcckfaljfkkhaaDoorFold8
namespace Go.Proofs.YtgcckfaljfkkhaaDoor.Hot
open Go Go.RowKit Mem Pl
/-- Whether that is a place of the disk. -/
def placeM (dev nseg : Nat) (d at_ len : Int) : Bool := decide (d = (dev : Int) ∧ 1 ≤ len ∧ len ≤ 16 ∧ 0 ≤ at_ ∧ at_ / 16 < (nseg : Int) ∧ at_ % 16 + len ≤ 16)
set_option maxHeartbeats 4000000 in
theorem place_any {w : World} {H : Nat → Prop} {h a dev : Nat} {segs : List Nat} {used : List Pc} {S U : Value} (x : HotB w H h a dev segs used S U) (d at_ len : Int) (b : Value) (ha1 : -9223372036854775808 ≤ at_) (ha2 : at_ < 9223372036854775808) :
    Calls Tryd.prog 29 #[.pointer (some ⟨h, 0, none⟩), .agg #[.int .i64 d, .int .i64 at_, .int .i64 len, b]] w fun e w' => e = .returned (.bool (placeM dev segs.length d at_ len)) ∧ Below w.heap.size w w' := by
  have c1 := x.c1
  have c2 := x.c2
  have hlt := x.blk.lt
  obtain ⟨AS, cS, rfl⟩ := x.segs.shape
  clear x
  by_cases g0 : d = (dev : Int)
  · by_cases g1 : 1 ≤ len
    · by_cases g2 : len ≤ 16
      · by_cases g3 : 0 ≤ at_
        · by_cases g4 : at_ / 16 < (segs.length : Int)
          · by_cases g5 : at_ % 16 + len ≤ 16
            · have b0 : (d == (dev : Int)) = true := by simpa using g0
              have t1 : at_.tdiv 16 = at_ / 16 := Int.tdiv_eq_ediv_of_nonneg g3
              have t2 : at_.tmod 16 = at_ % 16 := Int.tmod_eq_emod_of_nonneg g3
              have t3 : IntKind.i64.wrap (at_ % 16 + len) = at_ % 16 + len := IntWalk.i64_in _ (by omega)
              have b1 : decide (1 ≤ len) = true := by simpa using g1
              have b2 : decide (len ≤ 16) = true := by simpa using g2
              have b3 : decide (0 ≤ at_) = true := by simpa using g3
              have b4 : decide (at_ / 16 < (segs.length : Int)) = true := by simpa using g4
              have b5 : decide (at_ % 16 + len ≤ 16) = true := by simpa using g5
              have hr : placeM dev segs.length d at_ len = true := by unfold placeM; exact decide_eq_true ⟨g0, g1, g2, g3, g4, g5⟩
              rw [hr]
              clear hr
              go_enter Tryd.func29, Tryd.ntmps29
              go_wp2_with fail
              go_quiet (fail)
              go_wp2_with fail
              go_ret
              exact ⟨rfl, below_drewN (below_al' _) _⟩
            · have b0 : (d == (dev : Int)) = true := by simpa using g0
              have t1 : at_.tdiv 16 = at_ / 16 := Int.tdiv_eq_ediv_of_nonneg g3
              have t2 : at_.tmod 16 = at_ % 16 := Int.tmod_eq_emod_of_nonneg g3
              have t3 : IntKind.i64.wrap (at_ % 16 + len) = at_ % 16 + len := IntWalk.i64_in _ (by omega)
              have b1 : decide (1 ≤ len) = true := by simpa using g1
              have b2 : decide (len ≤ 16) = true := by simpa using g2
              have b3 : decide (0 ≤ at_) = true := by simpa using g3
              have b4 : decide (at_ / 16 < (segs.length : Int)) = true := by simpa using g4
              have b5 : decide (at_ % 16 + len ≤ 16) = false := by simpa using g5
              have hr : placeM dev segs.length d at_ len = false := by unfold placeM; exact decide_eq_false fun h => g5 (by obtain ⟨h0, h1, h2, h3, h4, h5⟩ := h; exact h5)
              rw [hr]
              clear hr
              go_enter Tryd.func29, Tryd.ntmps29
              go_wp2_with fail
              go_quiet (fail)
              go_wp2_with fail
              go_ret
              exact ⟨rfl, below_drewN (below_al' _) _⟩
          · have b0 : (d == (dev : Int)) = true := by simpa using g0
            have t1 : at_.tdiv 16 = at_ / 16 := Int.tdiv_eq_ediv_of_nonneg g3
            have b1 : decide (1 ≤ len) = true := by simpa using g1
            have b2 : decide (len ≤ 16) = true := by simpa using g2
            have b3 : decide (0 ≤ at_) = true := by simpa using g3
            have b4 : decide (at_ / 16 < (segs.length : Int)) = false := by simpa using g4
            have hr : placeM dev segs.length d at_ len = false := by unfold placeM; exact decide_eq_false fun h => g4 (by obtain ⟨h0, h1, h2, h3, h4, h5⟩ := h; exact h4)
            rw [hr]
            clear hr
            go_enter Tryd.func29, Tryd.ntmps29
            go_wp2_with fail
            go_quiet (fail)
            go_wp2_with fail
            go_ret
            exact ⟨rfl, below_drewN (below_al' _) _⟩
        · have b0 : (d == (dev : Int)) = true := by simpa using g0
          have b1 : decide (1 ≤ len) = true := by simpa using g1
          have b2 : decide (len ≤ 16) = true := by simpa using g2
          have b3 : decide (0 ≤ at_) = false := by simpa using g3
          have hr : placeM dev segs.length d at_ len = false := by unfold placeM; exact decide_eq_false fun h => g3 (by obtain ⟨h0, h1, h2, h3, h4, h5⟩ := h; exact h3)
          rw [hr]
          clear hr
          go_enter Tryd.func29, Tryd.ntmps29
          go_wp2_with fail
          go_quiet (fail)
          go_wp2_with fail
          go_ret
          exact ⟨rfl, below_drewN (below_al' _) _⟩
      · have b0 : (d == (dev : Int)) = true := by simpa using g0
        have b1 : decide (1 ≤ len) = true := by simpa using g1
        have b2 : decide (len ≤ 16) = false := by simpa using g2
        have hr : placeM dev segs.length d at_ len = false := by unfold placeM; exact decide_eq_false fun h => g2 (by obtain ⟨h0, h1, h2, h3, h4, h5⟩ := h; exact h2)
        rw [hr]
        clear hr
        go_enter Tryd.func29, Tryd.ntmps29
        go_wp2_with fail
        go_quiet (fail)
        go_wp2_with fail
        go_ret
        exact ⟨rfl, below_drewN (below_al' _) _⟩
    · have b0 : (d == (dev : Int)) = true := by simpa using g0
      have b1 : decide (1 ≤ len) = false := by simpa using g1
      have hr : placeM dev segs.length d at_ len = false := by unfold placeM; exact decide_eq_false fun h => g1 (by obtain ⟨h0, h1, h2, h3, h4, h5⟩ := h; exact h1)
      rw [hr]
      clear hr
      go_enter Tryd.func29, Tryd.ntmps29
      go_wp2_with fail
      go_quiet (fail)
      go_wp2_with fail
      go_ret
      exact ⟨rfl, below_drewN (below_al' _) _⟩
  · have b0 : (d == (dev : Int)) = false := by simpa using g0
    have hr : placeM dev segs.length d at_ len = false := by unfold placeM; exact decide_eq_false fun h => g0 (by obtain ⟨h0, h1, h2, h3, h4, h5⟩ := h; exact h0)
    rw [hr]
    clear hr
    go_enter Tryd.func29, Tryd.ntmps29
    go_wp2_with fail
    go_quiet (fail)
    go_wp2_with fail
    go_ret
    exact ⟨rfl, below_drewN (below_al' _) _⟩
end Go.Proofs.YtgcckfaljfkkhaaDoor.Hot
