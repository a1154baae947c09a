/-
  NARROWER THAN 'FOR EVERY INPUT', by the rows' own cells (each row's printed sentence says how): HotlogOpens: laid · HotlogAgain: laid · HotlogPlays: laid · HotlogEvery: laid · HotlogRoom: laid · HotlogRots: laid.
  DERIVED. THE GIVEN ROWS OF THIS SEAT. 6 by the template 'for every input the law returns true; each argument reads behind the call as it read before'; 0 by the template 'total and deterministic' (their statements: YtgcckfaljfkkhaaDoorTotals.lean).
  GIVEN WITH THE SEED: the statements are not yours to turn. If you find one false, say at which input.
  Laid BY PROGRAM, IN A SANDBOX (cutbox-rows.mjs): the forced cells as the released guide's own fill.sh prints them over the translation 87b1f043d692de39… (all of the seat's roots in one cut). By AI agents, Wed Nov 11 2026. No macro, syntax, notation, axiom, sorry.
-/
import Derived.Test.YtgcckfaljfkkhaaDoorChecked
import GoSem.Claim
import GoSem.ClaimJoined
import GoSem.ClaimMapViews
import Derived.JoinedTies
import Derived.KernelRfl
namespace Go.Proofs.YtgcckfaljfkkhaaDoor
/- THE CELL 'sum', in the pinned program and in every row, IS THE sha256 OF THE DUMP (.gsa) THAT YtgcckfaljfkkhaaDoorProg.lean LOADS. Nothing in Lean hashes anything: it is a label: what it is worth is what the hold of that sum in a sandbox is worth. -/
noncomputable def Tryd.pinned : Pinned := { name := "ytgcckfaljfkkhaadoor", sum := "87b1f043d692de398f049787c039a0291969e1954fe440b3f9e0893e81f6b7de", checked := Tryd.checked }
namespace Rows
def none {H : Type} : Left H := { results := [], args := [] }

/- WHAT THE LISTED PACKAGE-LEVEL VARIABLES READ AS WHEN THE CALL BEGINS. Each datum BY PROGRAM (the guide's laid-datum.mjs) off the statement by which the dump's own 'gosem.cut.vars' lays the variable. In a bare row this is a premise. The card (YtgcckfaljfkkhaaDoorCards.lean) ties it to the program's text. -/
def laid_math_bits_deBruijn32tab {H : Type} : DataW H := .agg [.lit (.int .u8 0), .lit (.int .u8 1), .lit (.int .u8 28), .lit (.int .u8 2), .lit (.int .u8 29), .lit (.int .u8 14), .lit (.int .u8 24), .lit (.int .u8 3), .lit (.int .u8 30), .lit (.int .u8 22), .lit (.int .u8 20), .lit (.int .u8 15), .lit (.int .u8 25), .lit (.int .u8 17), .lit (.int .u8 4), .lit (.int .u8 8), .lit (.int .u8 31), .lit (.int .u8 27), .lit (.int .u8 13), .lit (.int .u8 23), .lit (.int .u8 21), .lit (.int .u8 19), .lit (.int .u8 16), .lit (.int .u8 7), .lit (.int .u8 26), .lit (.int .u8 12), .lit (.int .u8 18), .lit (.int .u8 6), .lit (.int .u8 11), .lit (.int .u8 5), .lit (.int .u8 10), .lit (.int .u8 9)]
def laid_muniment_crc_nibbles {H : Type} : DataW H := .agg [.lit (.int .u32 0), .lit (.int .u32 498536548), .lit (.int .u32 997073096), .lit (.int .u32 651767980), .lit (.int .u32 1994146192), .lit (.int .u32 1802195444), .lit (.int .u32 1303535960), .lit (.int .u32 1342533948), .lit (.int .u32 3988292384), .lit (.int .u32 4027552580), .lit (.int .u32 3604390888), .lit (.int .u32 3412177804), .lit (.int .u32 2607071920), .lit (.int .u32 2262029012), .lit (.int .u32 2685067896), .lit (.int .u32 3183342108)]

/-- 'munimentlaw14.HotlogOpens': WHATEVER THE INPUT: true; the input reads as it did. -/
def hotlogOpensSpec : ChangeSpec := { name := "hotlogOpens", fn := fun _ => fun
  | [d1, d2, d3] => { results := [.lit (.bool true)], args := [d1, d2, d3] }
  | _ => none }
def hotlogOpensRow : OpenClaim := { program := "ytgcckfaljfkkhaadoor", sum := "87b1f043d692de398f049787c039a0291969e1954fe440b3f9e0893e81f6b7de", func := "muniment/munimentlaw14.HotlogOpens", spec := "hotlogOpens", unfollowed := true, recurses := true, named := ["math/bits.deBruijn32tab", "muniment/crc.nibbles"], apart := false, laid := [("math/bits.deBruijn32tab", laid_math_bits_deBruijn32tab), ("muniment/crc.nibbles", laid_muniment_crc_nibbles)] }
def HotlogOpensSaid : Prop := hotlogOpensRow.holds Tryd.pinned (OpenSpec.ofChange hotlogOpensSpec)

/-- ITS FALSE NEIGHBOUR: 'it returns false'. Refute it at one input. -/
def hotlogOpensWrong : ChangeSpec := { name := "hotlogOpens", fn := fun _ => fun
  | [d1, d2, d3] => { results := [.lit (.bool false)], args := [d1, d2, d3] }
  | _ => none }
def HotlogOpensWrongFalsely : Prop := hotlogOpensRow.holds Tryd.pinned (OpenSpec.ofChange hotlogOpensWrong)

/-- 'munimentlaw14.HotlogAgain': WHATEVER THE INPUT: true; the input reads as it did. -/
def hotlogAgainSpec : ChangeSpec := { name := "hotlogAgain", fn := fun _ => fun
  | [d1, d2, d3] => { results := [.lit (.bool true)], args := [d1, d2, d3] }
  | _ => none }
def hotlogAgainRow : OpenClaim := { program := "ytgcckfaljfkkhaadoor", sum := "87b1f043d692de398f049787c039a0291969e1954fe440b3f9e0893e81f6b7de", func := "muniment/munimentlaw14.HotlogAgain", spec := "hotlogAgain", unfollowed := true, recurses := true, named := ["math/bits.deBruijn32tab", "muniment/crc.nibbles"], apart := false, laid := [("math/bits.deBruijn32tab", laid_math_bits_deBruijn32tab), ("muniment/crc.nibbles", laid_muniment_crc_nibbles)] }
def HotlogAgainSaid : Prop := hotlogAgainRow.holds Tryd.pinned (OpenSpec.ofChange hotlogAgainSpec)

/-- ITS FALSE NEIGHBOUR: 'it returns false'. Refute it at one input. -/
def hotlogAgainWrong : ChangeSpec := { name := "hotlogAgain", fn := fun _ => fun
  | [d1, d2, d3] => { results := [.lit (.bool false)], args := [d1, d2, d3] }
  | _ => none }
def HotlogAgainWrongFalsely : Prop := hotlogAgainRow.holds Tryd.pinned (OpenSpec.ofChange hotlogAgainWrong)

/-- 'munimentlaw14.HotlogPlays': WHATEVER THE INPUT: true; the input reads as it did. -/
def hotlogPlaysSpec : ChangeSpec := { name := "hotlogPlays", fn := fun _ => fun
  | [d1, d2] => { results := [.lit (.bool true)], args := [d1, d2] }
  | _ => none }
def hotlogPlaysRow : OpenClaim := { program := "ytgcckfaljfkkhaadoor", sum := "87b1f043d692de398f049787c039a0291969e1954fe440b3f9e0893e81f6b7de", func := "muniment/munimentlaw14.HotlogPlays", spec := "hotlogPlays", unfollowed := true, recurses := true, named := ["math/bits.deBruijn32tab", "muniment/crc.nibbles"], apart := false, laid := [("math/bits.deBruijn32tab", laid_math_bits_deBruijn32tab), ("muniment/crc.nibbles", laid_muniment_crc_nibbles)] }
def HotlogPlaysSaid : Prop := hotlogPlaysRow.holds Tryd.pinned (OpenSpec.ofChange hotlogPlaysSpec)

/-- ITS FALSE NEIGHBOUR: 'it returns false'. Refute it at one input. -/
def hotlogPlaysWrong : ChangeSpec := { name := "hotlogPlays", fn := fun _ => fun
  | [d1, d2] => { results := [.lit (.bool false)], args := [d1, d2] }
  | _ => none }
def HotlogPlaysWrongFalsely : Prop := hotlogPlaysRow.holds Tryd.pinned (OpenSpec.ofChange hotlogPlaysWrong)

/-- 'munimentlaw14.HotlogEvery': WHATEVER THE INPUT: true; the input reads as it did. -/
def hotlogEverySpec : ChangeSpec := { name := "hotlogEvery", fn := fun _ => fun
  | [d1, d2] => { results := [.lit (.bool true)], args := [d1, d2] }
  | _ => none }
def hotlogEveryRow : OpenClaim := { program := "ytgcckfaljfkkhaadoor", sum := "87b1f043d692de398f049787c039a0291969e1954fe440b3f9e0893e81f6b7de", func := "muniment/munimentlaw14.HotlogEvery", spec := "hotlogEvery", unfollowed := true, recurses := true, named := ["math/bits.deBruijn32tab", "muniment/crc.nibbles"], apart := false, laid := [("math/bits.deBruijn32tab", laid_math_bits_deBruijn32tab), ("muniment/crc.nibbles", laid_muniment_crc_nibbles)] }
def HotlogEverySaid : Prop := hotlogEveryRow.holds Tryd.pinned (OpenSpec.ofChange hotlogEverySpec)

/-- ITS FALSE NEIGHBOUR: 'it returns false'. Refute it at one input. -/
def hotlogEveryWrong : ChangeSpec := { name := "hotlogEvery", fn := fun _ => fun
  | [d1, d2] => { results := [.lit (.bool false)], args := [d1, d2] }
  | _ => none }
def HotlogEveryWrongFalsely : Prop := hotlogEveryRow.holds Tryd.pinned (OpenSpec.ofChange hotlogEveryWrong)

/-- 'munimentlaw14.HotlogRoom': WHATEVER THE INPUT: true; the input reads as it did. -/
def hotlogRoomSpec : ChangeSpec := { name := "hotlogRoom", fn := fun _ => fun
  | [d1, d2, d3] => { results := [.lit (.bool true)], args := [d1, d2, d3] }
  | _ => none }
def hotlogRoomRow : OpenClaim := { program := "ytgcckfaljfkkhaadoor", sum := "87b1f043d692de398f049787c039a0291969e1954fe440b3f9e0893e81f6b7de", func := "muniment/munimentlaw14.HotlogRoom", spec := "hotlogRoom", unfollowed := true, recurses := true, named := ["math/bits.deBruijn32tab", "muniment/crc.nibbles"], apart := false, laid := [("math/bits.deBruijn32tab", laid_math_bits_deBruijn32tab), ("muniment/crc.nibbles", laid_muniment_crc_nibbles)] }
def HotlogRoomSaid : Prop := hotlogRoomRow.holds Tryd.pinned (OpenSpec.ofChange hotlogRoomSpec)

/-- ITS FALSE NEIGHBOUR: 'it returns false'. Refute it at one input. -/
def hotlogRoomWrong : ChangeSpec := { name := "hotlogRoom", fn := fun _ => fun
  | [d1, d2, d3] => { results := [.lit (.bool false)], args := [d1, d2, d3] }
  | _ => none }
def HotlogRoomWrongFalsely : Prop := hotlogRoomRow.holds Tryd.pinned (OpenSpec.ofChange hotlogRoomWrong)

/-- 'munimentlaw14.HotlogRots': WHATEVER THE INPUT: true; the input reads as it did. -/
def hotlogRotsSpec : ChangeSpec := { name := "hotlogRots", fn := fun _ => fun
  | [d1, d2, d3, d4] => { results := [.lit (.bool true)], args := [d1, d2, d3, d4] }
  | _ => none }
def hotlogRotsRow : OpenClaim := { program := "ytgcckfaljfkkhaadoor", sum := "87b1f043d692de398f049787c039a0291969e1954fe440b3f9e0893e81f6b7de", func := "muniment/munimentlaw14.HotlogRots", spec := "hotlogRots", unfollowed := true, recurses := true, named := ["math/bits.deBruijn32tab", "muniment/crc.nibbles"], apart := false, laid := [("math/bits.deBruijn32tab", laid_math_bits_deBruijn32tab), ("muniment/crc.nibbles", laid_muniment_crc_nibbles)] }
def HotlogRotsSaid : Prop := hotlogRotsRow.holds Tryd.pinned (OpenSpec.ofChange hotlogRotsSpec)

/-- ITS FALSE NEIGHBOUR: 'it returns false'. Refute it at one input. -/
def hotlogRotsWrong : ChangeSpec := { name := "hotlogRots", fn := fun _ => fun
  | [d1, d2, d3, d4] => { results := [.lit (.bool false)], args := [d1, d2, d3, d4] }
  | _ => none }
def HotlogRotsWrongFalsely : Prop := hotlogRotsRow.holds Tryd.pinned (OpenSpec.ofChange hotlogRotsWrong)

/- THE SECOND FORM. 'bulk': how many values and letters a reading holds, each counted each time it is reached (what is shared counts as often as it is met; a slice's spare places count too). A statement '..UptoSaid' is the law's where the arguments, and the package variables that the reading takes, are together of bulk at most 1048576: NARROWER than '..Said'. Prove '..Said' where nothing that the law and all that it calls make is longer than what came in: it says more and counts as full. Else prove '..UptoSaid'. A law counts once. -/
mutual
def uptoBulk {H : Type} : DataW H → Nat
  | .lit (.string bytes) => bytes.length + 1
  | .lit _ => 1
  | .nil => 1
  | .ptr d => uptoBulk d + 1
  | .slice elems spare => uptoBulkAll elems + uptoBulkAll spare + 1
  | .agg parts => uptoBulkAll parts + 1
  | .iface _ d => uptoBulk d + 1
  | .map entries => uptoBulkEntries entries + 1
  | .held _ => 1
def uptoBulkAll {H : Type} : List (DataW H) → Nat
  | [] => 0
  | d :: r => uptoBulk d + uptoBulkAll r
def uptoBulkEntries {H : Type} : List (Lit × DataW H) → Nat
  | [] => 0
  | x :: r => uptoBulkEntry x + uptoBulkEntries r
def uptoBulkEntry {H : Type} : Lit × DataW H → Nat
  | (.string bytes, d) => bytes.length + uptoBulk d + 1
  | (_, d) => uptoBulk d + 1
 end
def uptoSmall : (H : Type) → List (DataW H) → Bool := fun _ ds => decide (uptoBulkAll ds ≤ 1048576)
def OpenSpec.upto (s : _root_.Go.ChangeSpec) : _root_.Go.OpenSpec := { _root_.Go.OpenSpec.ofChange s with cond := some uptoSmall }

/-- 'munimentlaw14.HotlogOpens', WHERE WHAT IT READS IS OF BULK AT MOST 1048576: true; the input reads as it did. -/
def hotlogOpensUptoRow : OpenClaim := { program := "ytgcckfaljfkkhaadoor", sum := "87b1f043d692de398f049787c039a0291969e1954fe440b3f9e0893e81f6b7de", func := "muniment/munimentlaw14.HotlogOpens", spec := "hotlogOpens", unfollowed := true, recurses := true, named := ["math/bits.deBruijn32tab", "muniment/crc.nibbles"], apart := false, laid := [("math/bits.deBruijn32tab", laid_math_bits_deBruijn32tab), ("muniment/crc.nibbles", laid_muniment_crc_nibbles)], narrowed := true }
def HotlogOpensUptoSaid : Prop := hotlogOpensUptoRow.holds Tryd.pinned (OpenSpec.upto hotlogOpensSpec)

/-- 'munimentlaw14.HotlogAgain', WHERE WHAT IT READS IS OF BULK AT MOST 1048576: true; the input reads as it did. -/
def hotlogAgainUptoRow : OpenClaim := { program := "ytgcckfaljfkkhaadoor", sum := "87b1f043d692de398f049787c039a0291969e1954fe440b3f9e0893e81f6b7de", func := "muniment/munimentlaw14.HotlogAgain", spec := "hotlogAgain", unfollowed := true, recurses := true, named := ["math/bits.deBruijn32tab", "muniment/crc.nibbles"], apart := false, laid := [("math/bits.deBruijn32tab", laid_math_bits_deBruijn32tab), ("muniment/crc.nibbles", laid_muniment_crc_nibbles)], narrowed := true }
def HotlogAgainUptoSaid : Prop := hotlogAgainUptoRow.holds Tryd.pinned (OpenSpec.upto hotlogAgainSpec)

/-- 'munimentlaw14.HotlogPlays', WHERE WHAT IT READS IS OF BULK AT MOST 1048576: true; the input reads as it did. -/
def hotlogPlaysUptoRow : OpenClaim := { program := "ytgcckfaljfkkhaadoor", sum := "87b1f043d692de398f049787c039a0291969e1954fe440b3f9e0893e81f6b7de", func := "muniment/munimentlaw14.HotlogPlays", spec := "hotlogPlays", unfollowed := true, recurses := true, named := ["math/bits.deBruijn32tab", "muniment/crc.nibbles"], apart := false, laid := [("math/bits.deBruijn32tab", laid_math_bits_deBruijn32tab), ("muniment/crc.nibbles", laid_muniment_crc_nibbles)], narrowed := true }
def HotlogPlaysUptoSaid : Prop := hotlogPlaysUptoRow.holds Tryd.pinned (OpenSpec.upto hotlogPlaysSpec)

/-- 'munimentlaw14.HotlogEvery', WHERE WHAT IT READS IS OF BULK AT MOST 1048576: true; the input reads as it did. -/
def hotlogEveryUptoRow : OpenClaim := { program := "ytgcckfaljfkkhaadoor", sum := "87b1f043d692de398f049787c039a0291969e1954fe440b3f9e0893e81f6b7de", func := "muniment/munimentlaw14.HotlogEvery", spec := "hotlogEvery", unfollowed := true, recurses := true, named := ["math/bits.deBruijn32tab", "muniment/crc.nibbles"], apart := false, laid := [("math/bits.deBruijn32tab", laid_math_bits_deBruijn32tab), ("muniment/crc.nibbles", laid_muniment_crc_nibbles)], narrowed := true }
def HotlogEveryUptoSaid : Prop := hotlogEveryUptoRow.holds Tryd.pinned (OpenSpec.upto hotlogEverySpec)

/-- 'munimentlaw14.HotlogRoom', WHERE WHAT IT READS IS OF BULK AT MOST 1048576: true; the input reads as it did. -/
def hotlogRoomUptoRow : OpenClaim := { program := "ytgcckfaljfkkhaadoor", sum := "87b1f043d692de398f049787c039a0291969e1954fe440b3f9e0893e81f6b7de", func := "muniment/munimentlaw14.HotlogRoom", spec := "hotlogRoom", unfollowed := true, recurses := true, named := ["math/bits.deBruijn32tab", "muniment/crc.nibbles"], apart := false, laid := [("math/bits.deBruijn32tab", laid_math_bits_deBruijn32tab), ("muniment/crc.nibbles", laid_muniment_crc_nibbles)], narrowed := true }
def HotlogRoomUptoSaid : Prop := hotlogRoomUptoRow.holds Tryd.pinned (OpenSpec.upto hotlogRoomSpec)

/-- 'munimentlaw14.HotlogRots', WHERE WHAT IT READS IS OF BULK AT MOST 1048576: true; the input reads as it did. -/
def hotlogRotsUptoRow : OpenClaim := { program := "ytgcckfaljfkkhaadoor", sum := "87b1f043d692de398f049787c039a0291969e1954fe440b3f9e0893e81f6b7de", func := "muniment/munimentlaw14.HotlogRots", spec := "hotlogRots", unfollowed := true, recurses := true, named := ["math/bits.deBruijn32tab", "muniment/crc.nibbles"], apart := false, laid := [("math/bits.deBruijn32tab", laid_math_bits_deBruijn32tab), ("muniment/crc.nibbles", laid_muniment_crc_nibbles)], narrowed := true }
def HotlogRotsUptoSaid : Prop := hotlogRotsUptoRow.holds Tryd.pinned (OpenSpec.upto hotlogRotsSpec)

end Rows
end Go.Proofs.YtgcckfaljfkkhaaDoor
