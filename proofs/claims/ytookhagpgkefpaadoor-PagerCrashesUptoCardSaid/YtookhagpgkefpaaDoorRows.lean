/-
  NARROWER THAN 'FOR EVERY INPUT', by the rows' own cells (each row's printed sentence says how): PagerPlays: laid · PagerRots: laid · PagerFormats: laid · PagerKeeps: laid · PagerCrashes: laid.
  DERIVED. THE GIVEN ROWS OF THIS SEAT. 5 by the template 'for every input the law returns true; each argument reads behind the call as it read before'; 0 by the template 'total and deterministic' (their statements: YtookhagpgkefpaaDoorTotals.lean).
  GIVEN WITH THE SEED: the statements are not yours to turn. If you find one false, say at which input.
  Laid BY PROGRAM, IN A SANDBOX (cutbox-rows.mjs): the forced cells as the released guide's own fill.sh prints them over the translation a5a5d919a5740453… (all of the seat's roots in one cut). By AI agents, Wed Nov 11 2026. No macro, syntax, notation, axiom, sorry.
-/
import Derived.Test.YtookhagpgkefpaaDoorChecked
import GoSem.Claim
import GoSem.ClaimJoined
import GoSem.ClaimMapViews
import Derived.JoinedTies
import Derived.KernelRfl
namespace Go.Proofs.YtookhagpgkefpaaDoor
/- THE CELL 'sum', in the pinned program and in every row, IS THE sha256 OF THE DUMP (.gsa) THAT YtookhagpgkefpaaDoorProg.lean LOADS. Nothing in Lean hashes anything: it is a label: what it is worth is what the hold of that sum in a sandbox is worth. -/
noncomputable def Tryd.pinned : Pinned := { name := "ytookhagpgkefpaadoor", sum := "a5a5d919a5740453b1478d78c57e4062c7e33fb4c15450c3904ddf95d9703fed", checked := Tryd.checked }
namespace Rows
def none {H : Type} : Left H := { results := [], args := [] }

/- WHAT THE LISTED PACKAGE-LEVEL VARIABLES READ AS WHEN THE CALL BEGINS. Each datum BY PROGRAM (the guide's laid-datum.mjs) off the statement by which the dump's own 'gosem.cut.vars' lays the variable. In a bare row this is a premise. The card (YtookhagpgkefpaaDoorCards.lean) ties it to the program's text. -/
def laid_muniment_crc_nibbles {H : Type} : DataW H := .agg [.lit (.int .u32 0), .lit (.int .u32 498536548), .lit (.int .u32 997073096), .lit (.int .u32 651767980), .lit (.int .u32 1994146192), .lit (.int .u32 1802195444), .lit (.int .u32 1303535960), .lit (.int .u32 1342533948), .lit (.int .u32 3988292384), .lit (.int .u32 4027552580), .lit (.int .u32 3604390888), .lit (.int .u32 3412177804), .lit (.int .u32 2607071920), .lit (.int .u32 2262029012), .lit (.int .u32 2685067896), .lit (.int .u32 3183342108)]

/-- 'munimentlaw09.PagerPlays': WHATEVER THE INPUT: true; the input reads as it did. -/
def pagerPlaysSpec : ChangeSpec := { name := "pagerPlays", fn := fun _ => fun
  | [d1, d2] => { results := [.lit (.bool true)], args := [d1, d2] }
  | _ => none }
def pagerPlaysRow : OpenClaim := { program := "ytookhagpgkefpaadoor", sum := "a5a5d919a5740453b1478d78c57e4062c7e33fb4c15450c3904ddf95d9703fed", func := "muniment/munimentlaw09.PagerPlays", spec := "pagerPlays", unfollowed := true, recurses := true, named := ["muniment/crc.nibbles"], apart := false, laid := [("muniment/crc.nibbles", laid_muniment_crc_nibbles)] }
def PagerPlaysSaid : Prop := pagerPlaysRow.holds Tryd.pinned (OpenSpec.ofChange pagerPlaysSpec)

/-- ITS FALSE NEIGHBOUR: 'it returns false'. Refute it at one input. -/
def pagerPlaysWrong : ChangeSpec := { name := "pagerPlays", fn := fun _ => fun
  | [d1, d2] => { results := [.lit (.bool false)], args := [d1, d2] }
  | _ => none }
def PagerPlaysWrongFalsely : Prop := pagerPlaysRow.holds Tryd.pinned (OpenSpec.ofChange pagerPlaysWrong)

/-- 'munimentlaw09.PagerRots': WHATEVER THE INPUT: true; the input reads as it did. -/
def pagerRotsSpec : ChangeSpec := { name := "pagerRots", fn := fun _ => fun
  | [d1, d2] => { results := [.lit (.bool true)], args := [d1, d2] }
  | _ => none }
def pagerRotsRow : OpenClaim := { program := "ytookhagpgkefpaadoor", sum := "a5a5d919a5740453b1478d78c57e4062c7e33fb4c15450c3904ddf95d9703fed", func := "muniment/munimentlaw09.PagerRots", spec := "pagerRots", unfollowed := true, recurses := true, named := ["muniment/crc.nibbles"], apart := false, laid := [("muniment/crc.nibbles", laid_muniment_crc_nibbles)] }
def PagerRotsSaid : Prop := pagerRotsRow.holds Tryd.pinned (OpenSpec.ofChange pagerRotsSpec)

/-- ITS FALSE NEIGHBOUR: 'it returns false'. Refute it at one input. -/
def pagerRotsWrong : ChangeSpec := { name := "pagerRots", fn := fun _ => fun
  | [d1, d2] => { results := [.lit (.bool false)], args := [d1, d2] }
  | _ => none }
def PagerRotsWrongFalsely : Prop := pagerRotsRow.holds Tryd.pinned (OpenSpec.ofChange pagerRotsWrong)

/-- 'munimentlaw09.PagerFormats': WHATEVER THE INPUT: true; the input reads as it did. -/
def pagerFormatsSpec : ChangeSpec := { name := "pagerFormats", fn := fun _ => fun
  | [d1, d2, d3] => { results := [.lit (.bool true)], args := [d1, d2, d3] }
  | _ => none }
def pagerFormatsRow : OpenClaim := { program := "ytookhagpgkefpaadoor", sum := "a5a5d919a5740453b1478d78c57e4062c7e33fb4c15450c3904ddf95d9703fed", func := "muniment/munimentlaw09.PagerFormats", spec := "pagerFormats", unfollowed := true, recurses := true, named := ["muniment/crc.nibbles"], apart := false, laid := [("muniment/crc.nibbles", laid_muniment_crc_nibbles)] }
def PagerFormatsSaid : Prop := pagerFormatsRow.holds Tryd.pinned (OpenSpec.ofChange pagerFormatsSpec)

/-- ITS FALSE NEIGHBOUR: 'it returns false'. Refute it at one input. -/
def pagerFormatsWrong : ChangeSpec := { name := "pagerFormats", fn := fun _ => fun
  | [d1, d2, d3] => { results := [.lit (.bool false)], args := [d1, d2, d3] }
  | _ => none }
def PagerFormatsWrongFalsely : Prop := pagerFormatsRow.holds Tryd.pinned (OpenSpec.ofChange pagerFormatsWrong)

/-- 'munimentlaw09.PagerKeeps': WHATEVER THE INPUT: true; the input reads as it did. -/
def pagerKeepsSpec : ChangeSpec := { name := "pagerKeeps", fn := fun _ => fun
  | [d1, d2, d3] => { results := [.lit (.bool true)], args := [d1, d2, d3] }
  | _ => none }
def pagerKeepsRow : OpenClaim := { program := "ytookhagpgkefpaadoor", sum := "a5a5d919a5740453b1478d78c57e4062c7e33fb4c15450c3904ddf95d9703fed", func := "muniment/munimentlaw09.PagerKeeps", spec := "pagerKeeps", unfollowed := true, recurses := true, named := ["muniment/crc.nibbles"], apart := false, laid := [("muniment/crc.nibbles", laid_muniment_crc_nibbles)] }
def PagerKeepsSaid : Prop := pagerKeepsRow.holds Tryd.pinned (OpenSpec.ofChange pagerKeepsSpec)

/-- ITS FALSE NEIGHBOUR: 'it returns false'. Refute it at one input. -/
def pagerKeepsWrong : ChangeSpec := { name := "pagerKeeps", fn := fun _ => fun
  | [d1, d2, d3] => { results := [.lit (.bool false)], args := [d1, d2, d3] }
  | _ => none }
def PagerKeepsWrongFalsely : Prop := pagerKeepsRow.holds Tryd.pinned (OpenSpec.ofChange pagerKeepsWrong)

/-- 'munimentlaw09.PagerCrashes': WHATEVER THE INPUT: true; the input reads as it did. -/
def pagerCrashesSpec : ChangeSpec := { name := "pagerCrashes", fn := fun _ => fun
  | [d1, d2] => { results := [.lit (.bool true)], args := [d1, d2] }
  | _ => none }
def pagerCrashesRow : OpenClaim := { program := "ytookhagpgkefpaadoor", sum := "a5a5d919a5740453b1478d78c57e4062c7e33fb4c15450c3904ddf95d9703fed", func := "muniment/munimentlaw09.PagerCrashes", spec := "pagerCrashes", unfollowed := true, recurses := true, named := ["muniment/crc.nibbles"], apart := false, laid := [("muniment/crc.nibbles", laid_muniment_crc_nibbles)] }
def PagerCrashesSaid : Prop := pagerCrashesRow.holds Tryd.pinned (OpenSpec.ofChange pagerCrashesSpec)

/-- ITS FALSE NEIGHBOUR: 'it returns false'. Refute it at one input. -/
def pagerCrashesWrong : ChangeSpec := { name := "pagerCrashes", fn := fun _ => fun
  | [d1, d2] => { results := [.lit (.bool false)], args := [d1, d2] }
  | _ => none }
def PagerCrashesWrongFalsely : Prop := pagerCrashesRow.holds Tryd.pinned (OpenSpec.ofChange pagerCrashesWrong)

/- THE SECOND FORM. 'bulk': how many values and letters a reading holds, each counted each time it is reached (what is shared counts as often as it is met; a slice's spare places count too). A statement '..UptoSaid' is the law's where the arguments, and the package variables that the reading takes, are together of bulk at most 1048576: NARROWER than '..Said'. Prove '..Said' where nothing that the law and all that it calls make is longer than what came in: it says more and counts as full. Else prove '..UptoSaid'. A law counts once. -/
mutual
def uptoBulk {H : Type} : DataW H → Nat
  | .lit (.string bytes) => bytes.length + 1
  | .lit _ => 1
  | .nil => 1
  | .ptr d => uptoBulk d + 1
  | .slice elems spare => uptoBulkAll elems + uptoBulkAll spare + 1
  | .agg parts => uptoBulkAll parts + 1
  | .iface _ d => uptoBulk d + 1
  | .map entries => uptoBulkEntries entries + 1
  | .held _ => 1
def uptoBulkAll {H : Type} : List (DataW H) → Nat
  | [] => 0
  | d :: r => uptoBulk d + uptoBulkAll r
def uptoBulkEntries {H : Type} : List (Lit × DataW H) → Nat
  | [] => 0
  | x :: r => uptoBulkEntry x + uptoBulkEntries r
def uptoBulkEntry {H : Type} : Lit × DataW H → Nat
  | (.string bytes, d) => bytes.length + uptoBulk d + 1
  | (_, d) => uptoBulk d + 1
 end
def uptoSmall : (H : Type) → List (DataW H) → Bool := fun _ ds => decide (uptoBulkAll ds ≤ 1048576)
def OpenSpec.upto (s : _root_.Go.ChangeSpec) : _root_.Go.OpenSpec := { _root_.Go.OpenSpec.ofChange s with cond := some uptoSmall }

/-- 'munimentlaw09.PagerPlays', WHERE WHAT IT READS IS OF BULK AT MOST 1048576: true; the input reads as it did. -/
def pagerPlaysUptoRow : OpenClaim := { program := "ytookhagpgkefpaadoor", sum := "a5a5d919a5740453b1478d78c57e4062c7e33fb4c15450c3904ddf95d9703fed", func := "muniment/munimentlaw09.PagerPlays", spec := "pagerPlays", unfollowed := true, recurses := true, named := ["muniment/crc.nibbles"], apart := false, laid := [("muniment/crc.nibbles", laid_muniment_crc_nibbles)], narrowed := true }
def PagerPlaysUptoSaid : Prop := pagerPlaysUptoRow.holds Tryd.pinned (OpenSpec.upto pagerPlaysSpec)

/-- 'munimentlaw09.PagerRots', WHERE WHAT IT READS IS OF BULK AT MOST 1048576: true; the input reads as it did. -/
def pagerRotsUptoRow : OpenClaim := { program := "ytookhagpgkefpaadoor", sum := "a5a5d919a5740453b1478d78c57e4062c7e33fb4c15450c3904ddf95d9703fed", func := "muniment/munimentlaw09.PagerRots", spec := "pagerRots", unfollowed := true, recurses := true, named := ["muniment/crc.nibbles"], apart := false, laid := [("muniment/crc.nibbles", laid_muniment_crc_nibbles)], narrowed := true }
def PagerRotsUptoSaid : Prop := pagerRotsUptoRow.holds Tryd.pinned (OpenSpec.upto pagerRotsSpec)

/-- 'munimentlaw09.PagerFormats', WHERE WHAT IT READS IS OF BULK AT MOST 1048576: true; the input reads as it did. -/
def pagerFormatsUptoRow : OpenClaim := { program := "ytookhagpgkefpaadoor", sum := "a5a5d919a5740453b1478d78c57e4062c7e33fb4c15450c3904ddf95d9703fed", func := "muniment/munimentlaw09.PagerFormats", spec := "pagerFormats", unfollowed := true, recurses := true, named := ["muniment/crc.nibbles"], apart := false, laid := [("muniment/crc.nibbles", laid_muniment_crc_nibbles)], narrowed := true }
def PagerFormatsUptoSaid : Prop := pagerFormatsUptoRow.holds Tryd.pinned (OpenSpec.upto pagerFormatsSpec)

/-- 'munimentlaw09.PagerKeeps', WHERE WHAT IT READS IS OF BULK AT MOST 1048576: true; the input reads as it did. -/
def pagerKeepsUptoRow : OpenClaim := { program := "ytookhagpgkefpaadoor", sum := "a5a5d919a5740453b1478d78c57e4062c7e33fb4c15450c3904ddf95d9703fed", func := "muniment/munimentlaw09.PagerKeeps", spec := "pagerKeeps", unfollowed := true, recurses := true, named := ["muniment/crc.nibbles"], apart := false, laid := [("muniment/crc.nibbles", laid_muniment_crc_nibbles)], narrowed := true }
def PagerKeepsUptoSaid : Prop := pagerKeepsUptoRow.holds Tryd.pinned (OpenSpec.upto pagerKeepsSpec)

/-- 'munimentlaw09.PagerCrashes', WHERE WHAT IT READS IS OF BULK AT MOST 1048576: true; the input reads as it did. -/
def pagerCrashesUptoRow : OpenClaim := { program := "ytookhagpgkefpaadoor", sum := "a5a5d919a5740453b1478d78c57e4062c7e33fb4c15450c3904ddf95d9703fed", func := "muniment/munimentlaw09.PagerCrashes", spec := "pagerCrashes", unfollowed := true, recurses := true, named := ["muniment/crc.nibbles"], apart := false, laid := [("muniment/crc.nibbles", laid_muniment_crc_nibbles)], narrowed := true }
def PagerCrashesUptoSaid : Prop := pagerCrashesUptoRow.holds Tryd.pinned (OpenSpec.upto pagerCrashesSpec)

end Rows
end Go.Proofs.YtookhagpgkefpaaDoor
