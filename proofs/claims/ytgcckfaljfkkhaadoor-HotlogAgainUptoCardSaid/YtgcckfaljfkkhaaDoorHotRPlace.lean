/- The reference's 'Place'. (Printed by gen_hotrplace.py.) -/
import Derived.Test.YtgcckfaljfkkhaaDoorFold15
namespace Go.Proofs.YtgcckfaljfkkhaaDoor.Hot
open Go Go.RowKit Mem Pl
set_option maxHeartbeats 4000000 in
theorem rplace_any {w : World} {G : Nat → Prop} {r dev N : Nat} {used : List Pc} {bytes : List (List UInt8)} {U V : Value} {vs : List Value} (x : RHotB w G r dev N used bytes U V vs) (hN : N ≤ 4096) (d at_ len : Int) (b : Value) (ha1 : -9223372036854775808 ≤ at_) (ha2 : at_ < 9223372036854775808) :
    Calls Tryd.prog 31 #[.pointer (some ⟨r, 0, none⟩), .agg #[.int .i64 d, .int .i64 at_, .int .i64 len, b]] w fun e w' => e = .returned (.bool (placeM dev (N / 16) d at_ len)) ∧ Below w.heap.size w w' := by
  have c0 := x.c0
  have c1 := x.c1
  have hlt := x.blk.lt
  have hq : (N : Int).tdiv 16 = (N : Int) / 16 := Int.tdiv_eq_ediv_of_nonneg (by omega)
  have hw1 : IntKind.i64.wrap ((N : Int) / 16 * 16) = (N : Int) / 16 * 16 := IntWalk.i64_in _ (by omega)
  clear x
  by_cases g0 : d = (dev : Int)
  · by_cases g1 : 1 ≤ len
    · by_cases g2 : len ≤ 16
      · by_cases g3 : 0 ≤ at_
        · by_cases g4 : at_ / 16 < ((N / 16 : Nat) : Int)
          · by_cases g5 : at_ % 16 + len ≤ 16
            · have b0 : (d != (dev : Int)) = false := by simp [g0]
              have b1 : decide (len < 1) = false := by simp; omega
              have b2 : decide (16 < len) = false := by simp; omega
              have b3 : decide (at_ < 0) = false := by simp; omega
              have b4 : decide ((N : Int) / 16 * 16 ≤ at_) = false := by simp; omega
              have b5 : decide (at_ % 16 + len ≤ 16) = true := by simp; omega
              have t2 : at_.tmod 16 = at_ % 16 := Int.tmod_eq_emod_of_nonneg g3
              have t3 : IntKind.i64.wrap (at_ % 16 + len) = at_ % 16 + len := IntWalk.i64_in _ (by omega)
              have hr : placeM dev (N / 16) d at_ len = true := by unfold placeM; exact decide_eq_true ⟨g0, g1, g2, g3, g4, g5⟩
              rw [hr]
              clear hr
              go_enter Tryd.func31, Tryd.ntmps31
              go_wp2_with fail
              go_quiet (fail)
              go_wp2_with fail
              go_ret
              exact ⟨rfl, below_drewN (below_al' _) _⟩
            · have b0 : (d != (dev : Int)) = false := by simp [g0]
              have b1 : decide (len < 1) = false := by simp; omega
              have b2 : decide (16 < len) = false := by simp; omega
              have b3 : decide (at_ < 0) = false := by simp; omega
              have b4 : decide ((N : Int) / 16 * 16 ≤ at_) = false := by simp; omega
              have b5 : decide (at_ % 16 + len ≤ 16) = false := by simp; omega
              have t2 : at_.tmod 16 = at_ % 16 := Int.tmod_eq_emod_of_nonneg g3
              have t3 : IntKind.i64.wrap (at_ % 16 + len) = at_ % 16 + len := IntWalk.i64_in _ (by omega)
              have hr : placeM dev (N / 16) d at_ len = false := by unfold placeM; exact decide_eq_false fun h => g5 (by obtain ⟨h0, h1, h2, h3, h4, h5⟩ := h; exact h5)
              rw [hr]
              clear hr
              go_enter Tryd.func31, Tryd.ntmps31
              go_wp2_with fail
              go_quiet (fail)
              go_wp2_with fail
              go_ret
              exact ⟨rfl, below_drewN (below_al' _) _⟩
          · have b0 : (d != (dev : Int)) = false := by simp [g0]
            have b1 : decide (len < 1) = false := by simp; omega
            have b2 : decide (16 < len) = false := by simp; omega
            have b3 : decide (at_ < 0) = false := by simp; omega
            have b4 : decide ((N : Int) / 16 * 16 ≤ at_) = true := by simp; omega
            have hr : placeM dev (N / 16) d at_ len = false := by unfold placeM; exact decide_eq_false fun h => g4 (by obtain ⟨h0, h1, h2, h3, h4, h5⟩ := h; exact h4)
            rw [hr]
            clear hr
            go_enter Tryd.func31, Tryd.ntmps31
            go_wp2_with fail
            go_quiet (fail)
            go_wp2_with fail
            go_ret
            exact ⟨rfl, below_drewN (below_al' _) _⟩
        · have b0 : (d != (dev : Int)) = false := by simp [g0]
          have b1 : decide (len < 1) = false := by simp; omega
          have b2 : decide (16 < len) = false := by simp; omega
          have b3 : decide (at_ < 0) = true := by simp; omega
          have hr : placeM dev (N / 16) d at_ len = false := by unfold placeM; exact decide_eq_false fun h => g3 (by obtain ⟨h0, h1, h2, h3, h4, h5⟩ := h; exact h3)
          rw [hr]
          clear hr
          go_enter Tryd.func31, Tryd.ntmps31
          go_wp2_with fail
          go_quiet (fail)
          go_wp2_with fail
          go_ret
          exact ⟨rfl, below_drewN (below_al' _) _⟩
      · have b0 : (d != (dev : Int)) = false := by simp [g0]
        have b1 : decide (len < 1) = false := by simp; omega
        have b2 : decide (16 < len) = true := by simp; omega
        have hr : placeM dev (N / 16) d at_ len = false := by unfold placeM; exact decide_eq_false fun h => g2 (by obtain ⟨h0, h1, h2, h3, h4, h5⟩ := h; exact h2)
        rw [hr]
        clear hr
        go_enter Tryd.func31, Tryd.ntmps31
        go_wp2_with fail
        go_quiet (fail)
        go_wp2_with fail
        go_ret
        exact ⟨rfl, below_drewN (below_al' _) _⟩
    · have b0 : (d != (dev : Int)) = false := by simp [g0]
      have b1 : decide (len < 1) = true := by simp; omega
      have hr : placeM dev (N / 16) d at_ len = false := by unfold placeM; exact decide_eq_false fun h => g1 (by obtain ⟨h0, h1, h2, h3, h4, h5⟩ := h; exact h1)
      rw [hr]
      clear hr
      go_enter Tryd.func31, Tryd.ntmps31
      go_wp2_with fail
      go_quiet (fail)
      go_wp2_with fail
      go_ret
      exact ⟨rfl, below_drewN (below_al' _) _⟩
  · have b0 : (d != (dev : Int)) = true := by simp [g0]
    have hr : placeM dev (N / 16) d at_ len = false := by unfold placeM; exact decide_eq_false fun h => g0 (by obtain ⟨h0, h1, h2, h3, h4, h5⟩ := h; exact h0)
    rw [hr]
    clear hr
    go_enter Tryd.func31, Tryd.ntmps31
    go_wp2_with fail
    go_quiet (fail)
    go_wp2_with fail
    go_ret
    exact ⟨rfl, below_drewN (below_al' _) _⟩
end Go.Proofs.YtgcckfaljfkkhaaDoor.Hot
