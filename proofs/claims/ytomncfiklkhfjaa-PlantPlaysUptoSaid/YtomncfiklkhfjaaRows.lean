/-
  No cell of these rows narrows 'for every input' (looked for: loops, veiled, ifaces, maps, wideKeys, modest, calm, conditions, laid).
  DERIVED. THE GIVEN ROWS OF THIS SEAT. 10 by the template 'for every input the law returns true; each argument reads behind the call as it read before'; 0 by the template 'total and deterministic' (their statements: YtomncfiklkhfjaaTotals.lean).
  GIVEN WITH THE SEED: the statements are not yours to turn. If you find one false, say at which input.
  Laid BY PROGRAM, IN A SANDBOX (cutbox-rows.mjs): the forced cells as the released guide's own fill.sh prints them over the translation 11fc6ccd58fbcc42… (all of the seat's roots in one cut). By AI agents, Wed Nov 11 2026. No macro, syntax, notation, axiom, sorry.
-/
import Derived.Test.YtomncfiklkhfjaaChecked
import GoSem.Claim
import GoSem.ClaimJoined
import GoSem.ClaimMapViews
import Derived.JoinedTies
import Derived.KernelRfl
namespace Go.Proofs.Ytomncfiklkhfjaa
/- THE CELL 'sum', in the pinned program and in every row, IS THE sha256 OF THE DUMP (.gsa) THAT YtomncfiklkhfjaaProg.lean LOADS. Nothing in Lean hashes anything: it is a label: what it is worth is what the hold of that sum in a sandbox is worth. -/
noncomputable def Try.pinned : Pinned := { name := "ytomncfiklkhfjaa", sum := "11fc6ccd58fbcc422a239b2784b5016bcf6c70efa54a53acd000eedb5f3d35f6", checked := Try.checked }
namespace Rows
def none {H : Type} : Left H := { results := [], args := [] }

/-- 'munimentlaw11.RecordWrites': WHATEVER THE INPUT: true; the input reads as it did. -/
def recordWritesSpec : ChangeSpec := { name := "recordWrites", fn := fun _ => fun
  | [d] => { results := [.lit (.bool true)], args := [d] }
  | _ => none }
def recordWritesRow : OpenClaim := { program := "ytomncfiklkhfjaa", sum := "11fc6ccd58fbcc422a239b2784b5016bcf6c70efa54a53acd000eedb5f3d35f6", func := "muniment/munimentlaw11.RecordWrites", spec := "recordWrites", apart := false }
def RecordWritesSaid : Prop := recordWritesRow.holds Try.pinned (OpenSpec.ofChange recordWritesSpec)

/-- ITS FALSE NEIGHBOUR: 'it returns false'. Refute it at one input. -/
def recordWritesWrong : ChangeSpec := { name := "recordWrites", fn := fun _ => fun
  | [d] => { results := [.lit (.bool false)], args := [d] }
  | _ => none }
def RecordWritesWrongFalsely : Prop := recordWritesRow.holds Try.pinned (OpenSpec.ofChange recordWritesWrong)

/-- 'munimentlaw11.RecordReads': WHATEVER THE INPUT: true; the input reads as it did. -/
def recordReadsSpec : ChangeSpec := { name := "recordReads", fn := fun _ => fun
  | [d] => { results := [.lit (.bool true)], args := [d] }
  | _ => none }
def recordReadsRow : OpenClaim := { program := "ytomncfiklkhfjaa", sum := "11fc6ccd58fbcc422a239b2784b5016bcf6c70efa54a53acd000eedb5f3d35f6", func := "muniment/munimentlaw11.RecordReads", spec := "recordReads", apart := false }
def RecordReadsSaid : Prop := recordReadsRow.holds Try.pinned (OpenSpec.ofChange recordReadsSpec)

/-- ITS FALSE NEIGHBOUR: 'it returns false'. Refute it at one input. -/
def recordReadsWrong : ChangeSpec := { name := "recordReads", fn := fun _ => fun
  | [d] => { results := [.lit (.bool false)], args := [d] }
  | _ => none }
def RecordReadsWrongFalsely : Prop := recordReadsRow.holds Try.pinned (OpenSpec.ofChange recordReadsWrong)

/-- 'munimentlaw11.RecordEntries': WHATEVER THE INPUT: true; the input reads as it did. -/
def recordEntriesSpec : ChangeSpec := { name := "recordEntries", fn := fun _ => fun
  | [d] => { results := [.lit (.bool true)], args := [d] }
  | _ => none }
def recordEntriesRow : OpenClaim := { program := "ytomncfiklkhfjaa", sum := "11fc6ccd58fbcc422a239b2784b5016bcf6c70efa54a53acd000eedb5f3d35f6", func := "muniment/munimentlaw11.RecordEntries", spec := "recordEntries", apart := false }
def RecordEntriesSaid : Prop := recordEntriesRow.holds Try.pinned (OpenSpec.ofChange recordEntriesSpec)

/-- ITS FALSE NEIGHBOUR: 'it returns false'. Refute it at one input. -/
def recordEntriesWrong : ChangeSpec := { name := "recordEntries", fn := fun _ => fun
  | [d] => { results := [.lit (.bool false)], args := [d] }
  | _ => none }
def RecordEntriesWrongFalsely : Prop := recordEntriesRow.holds Try.pinned (OpenSpec.ofChange recordEntriesWrong)

/-- 'munimentlaw11.RecordBack': WHATEVER THE INPUT: true; the input reads as it did. -/
def recordBackSpec : ChangeSpec := { name := "recordBack", fn := fun _ => fun
  | [d] => { results := [.lit (.bool true)], args := [d] }
  | _ => none }
def recordBackRow : OpenClaim := { program := "ytomncfiklkhfjaa", sum := "11fc6ccd58fbcc422a239b2784b5016bcf6c70efa54a53acd000eedb5f3d35f6", func := "muniment/munimentlaw11.RecordBack", spec := "recordBack", apart := false }
def RecordBackSaid : Prop := recordBackRow.holds Try.pinned (OpenSpec.ofChange recordBackSpec)

/-- ITS FALSE NEIGHBOUR: 'it returns false'. Refute it at one input. -/
def recordBackWrong : ChangeSpec := { name := "recordBack", fn := fun _ => fun
  | [d] => { results := [.lit (.bool false)], args := [d] }
  | _ => none }
def RecordBackWrongFalsely : Prop := recordBackRow.holds Try.pinned (OpenSpec.ofChange recordBackWrong)

/-- 'munimentlaw11.RecordUnlike': WHATEVER THE INPUT: true; the input reads as it did. -/
def recordUnlikeSpec : ChangeSpec := { name := "recordUnlike", fn := fun _ => fun
  | [d1, d2] => { results := [.lit (.bool true)], args := [d1, d2] }
  | _ => none }
def recordUnlikeRow : OpenClaim := { program := "ytomncfiklkhfjaa", sum := "11fc6ccd58fbcc422a239b2784b5016bcf6c70efa54a53acd000eedb5f3d35f6", func := "muniment/munimentlaw11.RecordUnlike", spec := "recordUnlike", apart := false }
def RecordUnlikeSaid : Prop := recordUnlikeRow.holds Try.pinned (OpenSpec.ofChange recordUnlikeSpec)

/-- ITS FALSE NEIGHBOUR: 'it returns false'. Refute it at one input. -/
def recordUnlikeWrong : ChangeSpec := { name := "recordUnlike", fn := fun _ => fun
  | [d1, d2] => { results := [.lit (.bool false)], args := [d1, d2] }
  | _ => none }
def RecordUnlikeWrongFalsely : Prop := recordUnlikeRow.holds Try.pinned (OpenSpec.ofChange recordUnlikeWrong)

/-- 'munimentlaw03.PlantMakes': WHATEVER THE INPUT: true; the input reads as it did. -/
def plantMakesSpec : ChangeSpec := { name := "plantMakes", fn := fun _ => fun
  | [d] => { results := [.lit (.bool true)], args := [d] }
  | _ => none }
def plantMakesRow : OpenClaim := { program := "ytomncfiklkhfjaa", sum := "11fc6ccd58fbcc422a239b2784b5016bcf6c70efa54a53acd000eedb5f3d35f6", func := "muniment/munimentlaw03.PlantMakes", spec := "plantMakes", unfollowed := true, recurses := true, apart := false }
def PlantMakesSaid : Prop := plantMakesRow.holds Try.pinned (OpenSpec.ofChange plantMakesSpec)

/-- ITS FALSE NEIGHBOUR: 'it returns false'. Refute it at one input. -/
def plantMakesWrong : ChangeSpec := { name := "plantMakes", fn := fun _ => fun
  | [d] => { results := [.lit (.bool false)], args := [d] }
  | _ => none }
def PlantMakesWrongFalsely : Prop := plantMakesRow.holds Try.pinned (OpenSpec.ofChange plantMakesWrong)

/-- 'munimentlaw03.PlantTapes': WHATEVER THE INPUT: true; the input reads as it did. -/
def plantTapesSpec : ChangeSpec := { name := "plantTapes", fn := fun _ => fun
  | [d1, d2, d3] => { results := [.lit (.bool true)], args := [d1, d2, d3] }
  | _ => none }
def plantTapesRow : OpenClaim := { program := "ytomncfiklkhfjaa", sum := "11fc6ccd58fbcc422a239b2784b5016bcf6c70efa54a53acd000eedb5f3d35f6", func := "muniment/munimentlaw03.PlantTapes", spec := "plantTapes", unfollowed := true, recurses := true, apart := false }
def PlantTapesSaid : Prop := plantTapesRow.holds Try.pinned (OpenSpec.ofChange plantTapesSpec)

/-- ITS FALSE NEIGHBOUR: 'it returns false'. Refute it at one input. -/
def plantTapesWrong : ChangeSpec := { name := "plantTapes", fn := fun _ => fun
  | [d1, d2, d3] => { results := [.lit (.bool false)], args := [d1, d2, d3] }
  | _ => none }
def PlantTapesWrongFalsely : Prop := plantTapesRow.holds Try.pinned (OpenSpec.ofChange plantTapesWrong)

/-- 'munimentlaw03.PlantKeeps': WHATEVER THE INPUT: true; the input reads as it did. -/
def plantKeepsSpec : ChangeSpec := { name := "plantKeeps", fn := fun _ => fun
  | [d1, d2, d3] => { results := [.lit (.bool true)], args := [d1, d2, d3] }
  | _ => none }
def plantKeepsRow : OpenClaim := { program := "ytomncfiklkhfjaa", sum := "11fc6ccd58fbcc422a239b2784b5016bcf6c70efa54a53acd000eedb5f3d35f6", func := "muniment/munimentlaw03.PlantKeeps", spec := "plantKeeps", unfollowed := true, recurses := true, apart := false }
def PlantKeepsSaid : Prop := plantKeepsRow.holds Try.pinned (OpenSpec.ofChange plantKeepsSpec)

/-- ITS FALSE NEIGHBOUR: 'it returns false'. Refute it at one input. -/
def plantKeepsWrong : ChangeSpec := { name := "plantKeeps", fn := fun _ => fun
  | [d1, d2, d3] => { results := [.lit (.bool false)], args := [d1, d2, d3] }
  | _ => none }
def PlantKeepsWrongFalsely : Prop := plantKeepsRow.holds Try.pinned (OpenSpec.ofChange plantKeepsWrong)

/-- 'munimentlaw03.PlantOff': WHATEVER THE INPUT: true; the input reads as it did. -/
def plantOffSpec : ChangeSpec := { name := "plantOff", fn := fun _ => fun
  | [d1, d2] => { results := [.lit (.bool true)], args := [d1, d2] }
  | _ => none }
def plantOffRow : OpenClaim := { program := "ytomncfiklkhfjaa", sum := "11fc6ccd58fbcc422a239b2784b5016bcf6c70efa54a53acd000eedb5f3d35f6", func := "muniment/munimentlaw03.PlantOff", spec := "plantOff", unfollowed := true, recurses := true, apart := false }
def PlantOffSaid : Prop := plantOffRow.holds Try.pinned (OpenSpec.ofChange plantOffSpec)

/-- ITS FALSE NEIGHBOUR: 'it returns false'. Refute it at one input. -/
def plantOffWrong : ChangeSpec := { name := "plantOff", fn := fun _ => fun
  | [d1, d2] => { results := [.lit (.bool false)], args := [d1, d2] }
  | _ => none }
def PlantOffWrongFalsely : Prop := plantOffRow.holds Try.pinned (OpenSpec.ofChange plantOffWrong)

/-- 'munimentlaw03.PlantPlays': WHATEVER THE INPUT: true; the input reads as it did. -/
def plantPlaysSpec : ChangeSpec := { name := "plantPlays", fn := fun _ => fun
  | [d1, d2] => { results := [.lit (.bool true)], args := [d1, d2] }
  | _ => none }
def plantPlaysRow : OpenClaim := { program := "ytomncfiklkhfjaa", sum := "11fc6ccd58fbcc422a239b2784b5016bcf6c70efa54a53acd000eedb5f3d35f6", func := "muniment/munimentlaw03.PlantPlays", spec := "plantPlays", unfollowed := true, recurses := true, apart := false }
def PlantPlaysSaid : Prop := plantPlaysRow.holds Try.pinned (OpenSpec.ofChange plantPlaysSpec)

/-- ITS FALSE NEIGHBOUR: 'it returns false'. Refute it at one input. -/
def plantPlaysWrong : ChangeSpec := { name := "plantPlays", fn := fun _ => fun
  | [d1, d2] => { results := [.lit (.bool false)], args := [d1, d2] }
  | _ => none }
def PlantPlaysWrongFalsely : Prop := plantPlaysRow.holds Try.pinned (OpenSpec.ofChange plantPlaysWrong)

/- THE SECOND FORM. 'bulk': how many values and letters a reading holds, each counted each time it is reached (what is shared counts as often as it is met; a slice's spare places count too). A statement '..UptoSaid' is the law's where the arguments, and the package variables that the reading takes, are together of bulk at most 1048576: NARROWER than '..Said'. Prove '..Said' where nothing that the law and all that it calls make is longer than what came in: it says more and counts as full. Else prove '..UptoSaid'. A law counts once. -/
mutual
def uptoBulk {H : Type} : DataW H → Nat
  | .lit (.string bytes) => bytes.length + 1
  | .lit _ => 1
  | .nil => 1
  | .ptr d => uptoBulk d + 1
  | .slice elems spare => uptoBulkAll elems + uptoBulkAll spare + 1
  | .agg parts => uptoBulkAll parts + 1
  | .iface _ d => uptoBulk d + 1
  | .map entries => uptoBulkEntries entries + 1
  | .held _ => 1
def uptoBulkAll {H : Type} : List (DataW H) → Nat
  | [] => 0
  | d :: r => uptoBulk d + uptoBulkAll r
def uptoBulkEntries {H : Type} : List (Lit × DataW H) → Nat
  | [] => 0
  | x :: r => uptoBulkEntry x + uptoBulkEntries r
def uptoBulkEntry {H : Type} : Lit × DataW H → Nat
  | (.string bytes, d) => bytes.length + uptoBulk d + 1
  | (_, d) => uptoBulk d + 1
 end
def uptoSmall : (H : Type) → List (DataW H) → Bool := fun _ ds => decide (uptoBulkAll ds ≤ 1048576)
def OpenSpec.upto (s : _root_.Go.ChangeSpec) : _root_.Go.OpenSpec := { _root_.Go.OpenSpec.ofChange s with cond := some uptoSmall }

/-- 'munimentlaw11.RecordWrites', WHERE WHAT IT READS IS OF BULK AT MOST 1048576: true; the input reads as it did. -/
def recordWritesUptoRow : OpenClaim := { program := "ytomncfiklkhfjaa", sum := "11fc6ccd58fbcc422a239b2784b5016bcf6c70efa54a53acd000eedb5f3d35f6", func := "muniment/munimentlaw11.RecordWrites", spec := "recordWrites", apart := false, narrowed := true }
def RecordWritesUptoSaid : Prop := recordWritesUptoRow.holds Try.pinned (OpenSpec.upto recordWritesSpec)

/-- 'munimentlaw11.RecordReads', WHERE WHAT IT READS IS OF BULK AT MOST 1048576: true; the input reads as it did. -/
def recordReadsUptoRow : OpenClaim := { program := "ytomncfiklkhfjaa", sum := "11fc6ccd58fbcc422a239b2784b5016bcf6c70efa54a53acd000eedb5f3d35f6", func := "muniment/munimentlaw11.RecordReads", spec := "recordReads", apart := false, narrowed := true }
def RecordReadsUptoSaid : Prop := recordReadsUptoRow.holds Try.pinned (OpenSpec.upto recordReadsSpec)

/-- 'munimentlaw11.RecordEntries', WHERE WHAT IT READS IS OF BULK AT MOST 1048576: true; the input reads as it did. -/
def recordEntriesUptoRow : OpenClaim := { program := "ytomncfiklkhfjaa", sum := "11fc6ccd58fbcc422a239b2784b5016bcf6c70efa54a53acd000eedb5f3d35f6", func := "muniment/munimentlaw11.RecordEntries", spec := "recordEntries", apart := false, narrowed := true }
def RecordEntriesUptoSaid : Prop := recordEntriesUptoRow.holds Try.pinned (OpenSpec.upto recordEntriesSpec)

/-- 'munimentlaw11.RecordBack', WHERE WHAT IT READS IS OF BULK AT MOST 1048576: true; the input reads as it did. -/
def recordBackUptoRow : OpenClaim := { program := "ytomncfiklkhfjaa", sum := "11fc6ccd58fbcc422a239b2784b5016bcf6c70efa54a53acd000eedb5f3d35f6", func := "muniment/munimentlaw11.RecordBack", spec := "recordBack", apart := false, narrowed := true }
def RecordBackUptoSaid : Prop := recordBackUptoRow.holds Try.pinned (OpenSpec.upto recordBackSpec)

/-- 'munimentlaw11.RecordUnlike', WHERE WHAT IT READS IS OF BULK AT MOST 1048576: true; the input reads as it did. -/
def recordUnlikeUptoRow : OpenClaim := { program := "ytomncfiklkhfjaa", sum := "11fc6ccd58fbcc422a239b2784b5016bcf6c70efa54a53acd000eedb5f3d35f6", func := "muniment/munimentlaw11.RecordUnlike", spec := "recordUnlike", apart := false, narrowed := true }
def RecordUnlikeUptoSaid : Prop := recordUnlikeUptoRow.holds Try.pinned (OpenSpec.upto recordUnlikeSpec)

/-- 'munimentlaw03.PlantMakes', WHERE WHAT IT READS IS OF BULK AT MOST 1048576: true; the input reads as it did. -/
def plantMakesUptoRow : OpenClaim := { program := "ytomncfiklkhfjaa", sum := "11fc6ccd58fbcc422a239b2784b5016bcf6c70efa54a53acd000eedb5f3d35f6", func := "muniment/munimentlaw03.PlantMakes", spec := "plantMakes", unfollowed := true, recurses := true, apart := false, narrowed := true }
def PlantMakesUptoSaid : Prop := plantMakesUptoRow.holds Try.pinned (OpenSpec.upto plantMakesSpec)

/-- 'munimentlaw03.PlantTapes', WHERE WHAT IT READS IS OF BULK AT MOST 1048576: true; the input reads as it did. -/
def plantTapesUptoRow : OpenClaim := { program := "ytomncfiklkhfjaa", sum := "11fc6ccd58fbcc422a239b2784b5016bcf6c70efa54a53acd000eedb5f3d35f6", func := "muniment/munimentlaw03.PlantTapes", spec := "plantTapes", unfollowed := true, recurses := true, apart := false, narrowed := true }
def PlantTapesUptoSaid : Prop := plantTapesUptoRow.holds Try.pinned (OpenSpec.upto plantTapesSpec)

/-- 'munimentlaw03.PlantKeeps', WHERE WHAT IT READS IS OF BULK AT MOST 1048576: true; the input reads as it did. -/
def plantKeepsUptoRow : OpenClaim := { program := "ytomncfiklkhfjaa", sum := "11fc6ccd58fbcc422a239b2784b5016bcf6c70efa54a53acd000eedb5f3d35f6", func := "muniment/munimentlaw03.PlantKeeps", spec := "plantKeeps", unfollowed := true, recurses := true, apart := false, narrowed := true }
def PlantKeepsUptoSaid : Prop := plantKeepsUptoRow.holds Try.pinned (OpenSpec.upto plantKeepsSpec)

/-- 'munimentlaw03.PlantOff', WHERE WHAT IT READS IS OF BULK AT MOST 1048576: true; the input reads as it did. -/
def plantOffUptoRow : OpenClaim := { program := "ytomncfiklkhfjaa", sum := "11fc6ccd58fbcc422a239b2784b5016bcf6c70efa54a53acd000eedb5f3d35f6", func := "muniment/munimentlaw03.PlantOff", spec := "plantOff", unfollowed := true, recurses := true, apart := false, narrowed := true }
def PlantOffUptoSaid : Prop := plantOffUptoRow.holds Try.pinned (OpenSpec.upto plantOffSpec)

/-- 'munimentlaw03.PlantPlays', WHERE WHAT IT READS IS OF BULK AT MOST 1048576: true; the input reads as it did. -/
def plantPlaysUptoRow : OpenClaim := { program := "ytomncfiklkhfjaa", sum := "11fc6ccd58fbcc422a239b2784b5016bcf6c70efa54a53acd000eedb5f3d35f6", func := "muniment/munimentlaw03.PlantPlays", spec := "plantPlays", unfollowed := true, recurses := true, apart := false, narrowed := true }
def PlantPlaysUptoSaid : Prop := plantPlaysUptoRow.holds Try.pinned (OpenSpec.upto plantPlaysSpec)

end Rows
end Go.Proofs.Ytomncfiklkhfjaa
