/- What the rows of layer 1 (and all that list the table of sums) share: the table's cells out of the row's list; a world for the witness. -/
import Derived.Test.YtamjfcconhihhaaDoorLaw
import Derived.Test.YtamjfcconhihhaaDoorCrcWalks
import Derived.Test.YtamjfcconhihhaaDoorCards
import Derived.Test.YtamjfcconhihhaaDoorTie
import Derived.Lib.LaidTab
namespace Go.Proofs.YtamjfcconhihhaaDoor.Crc
open Go.ChangeShapes Go.WideShapes Go.ChangeAt Go.RowKit Mem
theorem own : ownKnob Tryd.prog.godebug = none := by kernel_rfl
theorem laidOut : laidOutB Tryd.prog = true := by kernel_rfl
theorem gTab : Tryd.prog.globalNamed "muniment/crc.nibbles" = some 0 := by kernel_rfl
theorem gTabType : (Tryd.prog.globals[0]?).map (·.type) = some 50 := by kernel_rfl
theorem cellsArr : Tryd.prog.cellsOf 50 = 16 := by kernel_rfl
theorem cellsU32 : Tryd.prog.cellsOf 23 = 1 := by kernel_rfl
theorem cellsU8 : Tryd.prog.cellsOf 5 = 1 := by kernel_rfl
theorem bytesU8 : Tryd.prog.bytesOf 5 = 1 := by kernel_rfl
def nums : List Int := [0, 498536548, 997073096, 651767980, 1994146192, 1802195444, 1303535960, 1342533948, 3988292384, 4027552580, 3604390888, 3412177804, 2607071920, 2262029012, 2685067896, 3183342108]
theorem nums_nib : ∀ i : Fin 16, nums.getD i.val 0 = U (nib i.val) := by decide
/-- WHAT THE ROW's LIST GIVES: the table's cells hold the sums of four bits. -/
theorem table {W : World} (h : laidMetH Tryd.prog [("muniment/crc.nibbles", Rows.laid_muniment_crc_nibbles)] W) : Tab W := by
  have ht : Lib.TabIs Tryd.prog W "muniment/crc.nibbles" .u32 nums :=
    Lib.tabIs_of_head (rest := []) gTab gTabType Tryd.underlying50 Tryd.underlying23 cellsU32 cellsArr h
  intro i hi
  rw [ht.cell gTab i hi, nums_nib ⟨i, hi⟩]
theorem tab_lt {W : World} (h : Tab W) : 0 < W.heap.size := cell_lt (h 0 (by decide))
/-- A WORLD FOR THE WITNESS: the settled one, the table holding what its initialiser lays. -/
noncomputable def laidWorld (os : Os) : World :=
  { World.holding Tryd.prog os ⟨#[], #[], []⟩ with heap := (World.holding Tryd.prog os ⟨#[], #[], []⟩).heap.modify 0 fun
      | .cells _ t frozen => .cells #[.int .u32 0, .int .u32 498536548, .int .u32 997073096, .int .u32 651767980, .int .u32 1994146192, .int .u32 1802195444, .int .u32 1303535960, .int .u32 1342533948, .int .u32 3988292384, .int .u32 4027552580, .int .u32 3604390888, .int .u32 3412177804, .int .u32 2607071920, .int .u32 2262029012, .int .u32 2685067896, .int .u32 3183342108] t frozen
      | o => o }
end Go.Proofs.YtamjfcconhihhaaDoor.Crc
