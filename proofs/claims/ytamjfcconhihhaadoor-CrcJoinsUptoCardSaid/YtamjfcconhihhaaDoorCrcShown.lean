/- 'munimentlaw01.shown' holds: the document's examples of crc. -/
import Derived.Test.YtamjfcconhihhaaDoorCrcWalks
import Derived.Lib.SlBytesConst
namespace Go.Proofs.YtamjfcconhihhaaDoor.Crc
open Go.RowKit Mem
theorem U_const (n : Nat) (x : BitVec 32) (h : x.toNat = n) : U x = (n : Int) := by unfold U; rw [h]
theorem ex1 : U (more 0#32 [49, 50, 51, 52, 53, 54, 55, 56, 57]) = 3421780262 := U_const _ _ (by decide +kernel)
theorem ex2 : U (more 0#32 [0]) = 3523407757 := U_const _ _ (by decide +kernel)
theorem ex3 : U (more 0#32 []) = 0 := U_const _ _ (by decide +kernel)
theorem ex4 : U (more 0xcbf43926#32 []) = 3421780262 := U_const _ _ (by decide +kernel)
set_option maxHeartbeats 400000 in
theorem shown_any (w : World) (ht : Tab w) (hg : 0 < w.heap.size) :
    Calls Tryd.prog 16 #[] w fun e w' => e = .returned (.bool true) ∧ Below w.heap.size w w' := by
  have kc := fun (w : World) (C : Array Value) (n c : Nat) => Lib.run_convert_bytes_const (P := Tryd.prog) w 22 5 C n c Tryd.underlying22 Tryd.underlying5
  have HT := Lib.hid ht
  clear ht
  go_enter Tryd.func16, Tryd.ntmps16
  have hw1 : ∀ o, Below w.heap.size w (w.alloc o) := fun o => (Below.refl _ _).alloc (Nat.le_refl _) _
  have hw2 : ∀ o o', Below w.heap.size w ((w.alloc o).alloc o') := fun o o' => (hw1 o).alloc (by simp) _
  go_wp2_with fail
  refine (sum_any _ [49, 50, 51, 52, 53, 54, 55, 56, 57] 9 9 _ rfl (by decide) (BAt.new _ _ _ _ (by rfl)) (HT.out.below (hw1 _) hg)).mono ?_
  rintro e w' ⟨rfl, rfl⟩
  rw [ex1]
  go_wp2_with fail
  refine (sum_any _ [0] 1 1 _ rfl (by decide) (BAt.new_at _ _ _ _ _ (by simp) (by rfl)) (HT.out.below (hw2 _ _) hg)).mono ?_
  rintro e w' ⟨rfl, rfl⟩
  rw [ex2]
  go_wp2_with fail
  refine (sum_any _ [] 0 0 _ rfl (by decide) (BAt.nil_ _ _) (HT.out.below (hw2 _ _) hg)).mono ?_
  rintro e w' ⟨rfl, rfl⟩
  rw [ex3]
  go_wp2_with fail
  refine (more_any 0xcbf43926#32 _ [] 0 0 _ rfl (by decide) (BAt.nil_ _ _) (HT.out.below (hw2 _ _) hg)).mono ?_
  rintro e w' ⟨rfl, rfl⟩
  rw [ex4]
  go_wp2_with fail
  go_ret
  exact ⟨rfl, hw2 _ _⟩
end Go.Proofs.YtamjfcconhihhaaDoor.Crc
