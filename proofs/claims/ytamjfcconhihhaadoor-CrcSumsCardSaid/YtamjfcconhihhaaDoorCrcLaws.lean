/- The laws of layer 1 as contracts: over any arguments that are read in memory each law returns true and leaves what was there. -/
import Derived.Test.YtamjfcconhihhaaDoorCrcShown
namespace Go.Proofs.YtamjfcconhihhaaDoor.Crc
open Go.RowKit Mem
set_option maxHeartbeats 400000 in
theorem lawSums (s : BitVec 32) (A : Option Addr) (bs : List UInt8) (n cap : Nat) (w : World) (hn : bs.length = n) (hl : n ≤ 9223372036854775807) (hb : BAt w A bs) (ht : Tab w) (hg : 0 < w.heap.size) :
    Calls Tryd.prog 3 #[.slice A n cap, .int .u32 (U s)] w fun e w' => e = .returned (.bool true) ∧ Below w.heap.size w w' := by
  have HB := Lib.hid hb
  have HT := Lib.hid ht
  have HN := Lib.hid hn
  clear hb ht hn
  go_enter Tryd.func3, Tryd.ntmps3
  go_wp2_with fail
  refine (shown_any _ HT.out hg).mono ?_
  rintro e w1 ⟨rfl, hbw⟩
  have HBW := Lib.hid hbw
  have HB1 := Lib.hid (HB.out.below hbw)
  have HT1 := Lib.hid (HT.out.below hbw hg)
  clear hbw
  go_wp2_with fail
  refine (sum_any _ bs _ _ _ HN.out hl HB1.out HT1.out).mono ?_
  rintro e w2 ⟨rfl, rfl⟩
  go_wp2_with fail
  refine (refSum_any _ bs _ _ _ HN.out hl HB1.out).mono ?_
  rintro e w2 ⟨rfl, rfl⟩
  go_wp2_with fail
  refine (more_any s _ bs _ _ _ HN.out hl HB1.out HT1.out).mono ?_
  rintro e w2 ⟨rfl, rfl⟩
  go_wp2_with fail
  refine (refMore_any s _ bs _ _ _ HN.out hl HB1.out).mono ?_
  rintro e w2 ⟨rfl, rfl⟩
  go_wp2_with fail
  go_ret
  exact ⟨rfl, HBW.out⟩
end Go.Proofs.YtamjfcconhihhaaDoor.Crc
