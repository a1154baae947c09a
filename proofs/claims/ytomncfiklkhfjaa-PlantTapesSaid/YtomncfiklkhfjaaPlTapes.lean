/- The walk of 'PlantTapes' (printed by wip/gen_tapes.py): all. -/
import Derived.Test.YtomncfiklkhfjaaPlTapesA
import Derived.Test.YtomncfiklkhfjaaPlTapesB
import Derived.Test.YtomncfiklkhfjaaPlTapesC
import Derived.Test.YtomncfiklkhfjaaPlTapesD
namespace Go.Proofs.Ytomncfiklkhfjaa.Pl.Tapes
open Go Go.RowKit Mem
theorem lawTapes (A : Option Addr) (bs : List UInt8) (n cap : Nat) (fl : Int) (AK : Option Addr) (nk ck : Nat) (keep : List Int) (W : World) (hb : BAt W A bs) (hn : bs.length = n) (hnm : n ≤ 9223372036854775807) (hf0 : -9223372036854775808 ≤ fl) (hf1 : fl ≤ 9223372036854775807)
    (hk : IAt W AK keep) (hkl : keep.length = nk) (hnk : nk ≤ 9223372036854775807) :
    Calls Try.prog 9 #[.slice A n cap, .int .i64 fl, .slice AK nk ck] W fun e W' => e = .returned (.bool true) ∧ Below W.heap.size W W' := by
  by_cases hneg : fl < 0 <;> by_cases h40 : (n : Int) ≤ 40
  · exact lawA A bs n cap fl AK nk ck keep W hb hn hnm hf0 hf1 hk hkl hnk hneg h40
  · exact lawB A bs n cap fl AK nk ck keep W hb hn hnm hf0 hf1 hk hkl hnk hneg h40
  · exact lawC A bs n cap fl AK nk ck keep W hb hn hnm hf0 hf1 hk hkl hnk hneg h40
  · exact lawD A bs n cap fl AK nk ck keep W hb hn hnm hf0 hf1 hk hkl hnk hneg h40
end Go.Proofs.Ytomncfiklkhfjaa.Pl.Tapes
