/- The reference's 'New' of a disk that is too small. -/
import Derived.Test.YtookhagpgkefpaaDoorPagRefNew
namespace Go.Proofs.YtookhagpgkefpaaDoor.Pag
open Go Go.RowKit Mem Pl Disk Crc _root_.Go.Proofs.YtookhagpgkefpaaDoor.Frame
theorem rnew_no (w : World) (s : Nat) (hs : s < 10) : Calls Tryd.prog 11 #[.int .i64 (s : Int)] w fun e w' => e = .returned (.tuple #[.pointer none, .int .i64 1]) ∧ w = w' := by
  have hq3 : (s : Int) < 10 := by omega
  have hq1 : IntKind.i64.wrap ((s : Int) - 2) = (s : Int) - 2 := IntWalk.i64_in _ (by omega)
  obtain ⟨q, hq⟩ : ∃ q, Int.tdiv ((s : Int) - 2) 8 = q := ⟨_, rfl⟩
  have hb : 0 ≤ q ∧ q ≤ 1 := by
    subst hq
    rcases (by omega : s = 0 ∨ s = 1 ∨ s = 2 ∨ s = 3 ∨ s = 4 ∨ s = 5 ∨ s = 6 ∨ s = 7 ∨ s = 8 ∨ s = 9) with rfl | rfl | rfl | rfl | rfl | rfl | rfl | rfl | rfl | rfl <;> decide
  have hq5 : IntKind.i64.wrap q = q := IntWalk.i64_in _ (by omega)
  go_enter Tryd.func11, Tryd.ntmps11
  go_wp2_with fail
  go_ret2
  exact ⟨rfl, rfl⟩
end Go.Proofs.YtookhagpgkefpaaDoor.Pag
