/-
  NARROWER THAN 'FOR EVERY INPUT', by the rows' own cells (each row's printed sentence says how): WalOver: laid · WalAnew: laid · WalKeeps: laid · WalEvery: laid · WalApart: laid · WalLooks: laid · WalRots: laid.
  DERIVED. THE GIVEN ROWS OF THIS SEAT. 7 by the template 'for every input the law returns true; each argument reads behind the call as it read before'; 0 by the template 'total and deterministic' (their statements: YtlnfeehokpkgiaaDoorTotals.lean).
  GIVEN WITH THE SEED: the statements are not yours to turn. If you find one false, say at which input.
  Laid BY PROGRAM, IN A SANDBOX (cutbox-rows.mjs): the forced cells as the released guide's own fill.sh prints them over the translation 877f2c76911acaa0… (all of the seat's roots in one cut). By AI agents, Wed Nov 11 2026. No macro, syntax, notation, axiom, sorry.
-/
import Derived.Test.YtlnfeehokpkgiaaDoorChecked
import GoSem.Claim
import GoSem.ClaimJoined
import GoSem.ClaimMapViews
import Derived.JoinedTies
import Derived.KernelRfl
namespace Go.Proofs.YtlnfeehokpkgiaaDoor
/- THE CELL 'sum', in the pinned program and in every row, IS THE sha256 OF THE DUMP (.gsa) THAT YtlnfeehokpkgiaaDoorProg.lean LOADS. Nothing in Lean hashes anything: it is a label: what it is worth is what the hold of that sum in a sandbox is worth. -/
noncomputable def Tryd.pinned : Pinned := { name := "ytlnfeehokpkgiaadoor", sum := "877f2c76911acaa09daaf415f5890d5a1d9028a4fe47a0026fd88f83163960a3", checked := Tryd.checked }
namespace Rows
def none {H : Type} : Left H := { results := [], args := [] }

/- WHAT THE LISTED PACKAGE-LEVEL VARIABLES READ AS WHEN THE CALL BEGINS. Each datum BY PROGRAM (the guide's laid-datum.mjs) off the statement by which the dump's own 'gosem.cut.vars' lays the variable. In a bare row this is a premise. The card (YtlnfeehokpkgiaaDoorCards.lean) ties it to the program's text. -/
def laid_muniment_crc_nibbles {H : Type} : DataW H := .agg [.lit (.int .u32 0), .lit (.int .u32 498536548), .lit (.int .u32 997073096), .lit (.int .u32 651767980), .lit (.int .u32 1994146192), .lit (.int .u32 1802195444), .lit (.int .u32 1303535960), .lit (.int .u32 1342533948), .lit (.int .u32 3988292384), .lit (.int .u32 4027552580), .lit (.int .u32 3604390888), .lit (.int .u32 3412177804), .lit (.int .u32 2607071920), .lit (.int .u32 2262029012), .lit (.int .u32 2685067896), .lit (.int .u32 3183342108)]

/-- 'munimentlaw08.WalOver': WHATEVER THE INPUT: true; the input reads as it did. -/
def walOverSpec : ChangeSpec := { name := "walOver", fn := fun _ => fun
  | [d1, d2, d3] => { results := [.lit (.bool true)], args := [d1, d2, d3] }
  | _ => none }
def walOverRow : OpenClaim := { program := "ytlnfeehokpkgiaadoor", sum := "877f2c76911acaa09daaf415f5890d5a1d9028a4fe47a0026fd88f83163960a3", func := "muniment/munimentlaw08.WalOver", spec := "walOver", unfollowed := true, recurses := true, named := ["muniment/crc.nibbles"], apart := false, laid := [("muniment/crc.nibbles", laid_muniment_crc_nibbles)] }
def WalOverSaid : Prop := walOverRow.holds Tryd.pinned (OpenSpec.ofChange walOverSpec)

/-- ITS FALSE NEIGHBOUR: 'it returns false'. Refute it at one input. -/
def walOverWrong : ChangeSpec := { name := "walOver", fn := fun _ => fun
  | [d1, d2, d3] => { results := [.lit (.bool false)], args := [d1, d2, d3] }
  | _ => none }
def WalOverWrongFalsely : Prop := walOverRow.holds Tryd.pinned (OpenSpec.ofChange walOverWrong)

/-- 'munimentlaw08.WalAnew': WHATEVER THE INPUT: true; the input reads as it did. -/
def walAnewSpec : ChangeSpec := { name := "walAnew", fn := fun _ => fun
  | [d1, d2, d3] => { results := [.lit (.bool true)], args := [d1, d2, d3] }
  | _ => none }
def walAnewRow : OpenClaim := { program := "ytlnfeehokpkgiaadoor", sum := "877f2c76911acaa09daaf415f5890d5a1d9028a4fe47a0026fd88f83163960a3", func := "muniment/munimentlaw08.WalAnew", spec := "walAnew", unfollowed := true, recurses := true, named := ["muniment/crc.nibbles"], apart := false, laid := [("muniment/crc.nibbles", laid_muniment_crc_nibbles)] }
def WalAnewSaid : Prop := walAnewRow.holds Tryd.pinned (OpenSpec.ofChange walAnewSpec)

/-- ITS FALSE NEIGHBOUR: 'it returns false'. Refute it at one input. -/
def walAnewWrong : ChangeSpec := { name := "walAnew", fn := fun _ => fun
  | [d1, d2, d3] => { results := [.lit (.bool false)], args := [d1, d2, d3] }
  | _ => none }
def WalAnewWrongFalsely : Prop := walAnewRow.holds Tryd.pinned (OpenSpec.ofChange walAnewWrong)

/-- 'munimentlaw08.WalKeeps': WHATEVER THE INPUT: true; the input reads as it did. -/
def walKeepsSpec : ChangeSpec := { name := "walKeeps", fn := fun _ => fun
  | [d1, d2] => { results := [.lit (.bool true)], args := [d1, d2] }
  | _ => none }
def walKeepsRow : OpenClaim := { program := "ytlnfeehokpkgiaadoor", sum := "877f2c76911acaa09daaf415f5890d5a1d9028a4fe47a0026fd88f83163960a3", func := "muniment/munimentlaw08.WalKeeps", spec := "walKeeps", unfollowed := true, recurses := true, named := ["muniment/crc.nibbles"], apart := false, laid := [("muniment/crc.nibbles", laid_muniment_crc_nibbles)] }
def WalKeepsSaid : Prop := walKeepsRow.holds Tryd.pinned (OpenSpec.ofChange walKeepsSpec)

/-- ITS FALSE NEIGHBOUR: 'it returns false'. Refute it at one input. -/
def walKeepsWrong : ChangeSpec := { name := "walKeeps", fn := fun _ => fun
  | [d1, d2] => { results := [.lit (.bool false)], args := [d1, d2] }
  | _ => none }
def WalKeepsWrongFalsely : Prop := walKeepsRow.holds Tryd.pinned (OpenSpec.ofChange walKeepsWrong)

/-- 'munimentlaw08.WalEvery': WHATEVER THE INPUT: true; the input reads as it did. -/
def walEverySpec : ChangeSpec := { name := "walEvery", fn := fun _ => fun
  | [d1, d2] => { results := [.lit (.bool true)], args := [d1, d2] }
  | _ => none }
def walEveryRow : OpenClaim := { program := "ytlnfeehokpkgiaadoor", sum := "877f2c76911acaa09daaf415f5890d5a1d9028a4fe47a0026fd88f83163960a3", func := "muniment/munimentlaw08.WalEvery", spec := "walEvery", unfollowed := true, recurses := true, named := ["muniment/crc.nibbles"], apart := false, laid := [("muniment/crc.nibbles", laid_muniment_crc_nibbles)] }
def WalEverySaid : Prop := walEveryRow.holds Tryd.pinned (OpenSpec.ofChange walEverySpec)

/-- ITS FALSE NEIGHBOUR: 'it returns false'. Refute it at one input. -/
def walEveryWrong : ChangeSpec := { name := "walEvery", fn := fun _ => fun
  | [d1, d2] => { results := [.lit (.bool false)], args := [d1, d2] }
  | _ => none }
def WalEveryWrongFalsely : Prop := walEveryRow.holds Tryd.pinned (OpenSpec.ofChange walEveryWrong)

/-- 'munimentlaw08.WalApart': WHATEVER THE INPUT: true; the input reads as it did. -/
def walApartSpec : ChangeSpec := { name := "walApart", fn := fun _ => fun
  | [d1, d2] => { results := [.lit (.bool true)], args := [d1, d2] }
  | _ => none }
def walApartRow : OpenClaim := { program := "ytlnfeehokpkgiaadoor", sum := "877f2c76911acaa09daaf415f5890d5a1d9028a4fe47a0026fd88f83163960a3", func := "muniment/munimentlaw08.WalApart", spec := "walApart", unfollowed := true, recurses := true, named := ["muniment/crc.nibbles"], apart := false, laid := [("muniment/crc.nibbles", laid_muniment_crc_nibbles)] }
def WalApartSaid : Prop := walApartRow.holds Tryd.pinned (OpenSpec.ofChange walApartSpec)

/-- ITS FALSE NEIGHBOUR: 'it returns false'. Refute it at one input. -/
def walApartWrong : ChangeSpec := { name := "walApart", fn := fun _ => fun
  | [d1, d2] => { results := [.lit (.bool false)], args := [d1, d2] }
  | _ => none }
def WalApartWrongFalsely : Prop := walApartRow.holds Tryd.pinned (OpenSpec.ofChange walApartWrong)

/-- 'munimentlaw08.WalLooks': WHATEVER THE INPUT: true; the input reads as it did. -/
def walLooksSpec : ChangeSpec := { name := "walLooks", fn := fun _ => fun
  | [d1, d2, d3, d4] => { results := [.lit (.bool true)], args := [d1, d2, d3, d4] }
  | _ => none }
def walLooksRow : OpenClaim := { program := "ytlnfeehokpkgiaadoor", sum := "877f2c76911acaa09daaf415f5890d5a1d9028a4fe47a0026fd88f83163960a3", func := "muniment/munimentlaw08.WalLooks", spec := "walLooks", unfollowed := true, recurses := true, named := ["muniment/crc.nibbles"], apart := false, laid := [("muniment/crc.nibbles", laid_muniment_crc_nibbles)] }
def WalLooksSaid : Prop := walLooksRow.holds Tryd.pinned (OpenSpec.ofChange walLooksSpec)

/-- ITS FALSE NEIGHBOUR: 'it returns false'. Refute it at one input. -/
def walLooksWrong : ChangeSpec := { name := "walLooks", fn := fun _ => fun
  | [d1, d2, d3, d4] => { results := [.lit (.bool false)], args := [d1, d2, d3, d4] }
  | _ => none }
def WalLooksWrongFalsely : Prop := walLooksRow.holds Tryd.pinned (OpenSpec.ofChange walLooksWrong)

/-- 'munimentlaw08.WalRots': WHATEVER THE INPUT: true; the input reads as it did. -/
def walRotsSpec : ChangeSpec := { name := "walRots", fn := fun _ => fun
  | [d1, d2] => { results := [.lit (.bool true)], args := [d1, d2] }
  | _ => none }
def walRotsRow : OpenClaim := { program := "ytlnfeehokpkgiaadoor", sum := "877f2c76911acaa09daaf415f5890d5a1d9028a4fe47a0026fd88f83163960a3", func := "muniment/munimentlaw08.WalRots", spec := "walRots", unfollowed := true, recurses := true, named := ["muniment/crc.nibbles"], apart := false, laid := [("muniment/crc.nibbles", laid_muniment_crc_nibbles)] }
def WalRotsSaid : Prop := walRotsRow.holds Tryd.pinned (OpenSpec.ofChange walRotsSpec)

/-- ITS FALSE NEIGHBOUR: 'it returns false'. Refute it at one input. -/
def walRotsWrong : ChangeSpec := { name := "walRots", fn := fun _ => fun
  | [d1, d2] => { results := [.lit (.bool false)], args := [d1, d2] }
  | _ => none }
def WalRotsWrongFalsely : Prop := walRotsRow.holds Tryd.pinned (OpenSpec.ofChange walRotsWrong)

/- THE SECOND FORM. 'bulk': how many values and letters a reading holds, each counted each time it is reached (what is shared counts as often as it is met; a slice's spare places count too). A statement '..UptoSaid' is the law's where the arguments, and the package variables that the reading takes, are together of bulk at most 1048576: NARROWER than '..Said'. Prove '..Said' where nothing that the law and all that it calls make is longer than what came in: it says more and counts as full. Else prove '..UptoSaid'. A law counts once. -/
mutual
def uptoBulk {H : Type} : DataW H → Nat
  | .lit (.string bytes) => bytes.length + 1
  | .lit _ => 1
  | .nil => 1
  | .ptr d => uptoBulk d + 1
  | .slice elems spare => uptoBulkAll elems + uptoBulkAll spare + 1
  | .agg parts => uptoBulkAll parts + 1
  | .iface _ d => uptoBulk d + 1
  | .map entries => uptoBulkEntries entries + 1
  | .held _ => 1
def uptoBulkAll {H : Type} : List (DataW H) → Nat
  | [] => 0
  | d :: r => uptoBulk d + uptoBulkAll r
def uptoBulkEntries {H : Type} : List (Lit × DataW H) → Nat
  | [] => 0
  | x :: r => uptoBulkEntry x + uptoBulkEntries r
def uptoBulkEntry {H : Type} : Lit × DataW H → Nat
  | (.string bytes, d) => bytes.length + uptoBulk d + 1
  | (_, d) => uptoBulk d + 1
 end
def uptoSmall : (H : Type) → List (DataW H) → Bool := fun _ ds => decide (uptoBulkAll ds ≤ 1048576)
def OpenSpec.upto (s : _root_.Go.ChangeSpec) : _root_.Go.OpenSpec := { _root_.Go.OpenSpec.ofChange s with cond := some uptoSmall }

/-- 'munimentlaw08.WalOver', WHERE WHAT IT READS IS OF BULK AT MOST 1048576: true; the input reads as it did. -/
def walOverUptoRow : OpenClaim := { program := "ytlnfeehokpkgiaadoor", sum := "877f2c76911acaa09daaf415f5890d5a1d9028a4fe47a0026fd88f83163960a3", func := "muniment/munimentlaw08.WalOver", spec := "walOver", unfollowed := true, recurses := true, named := ["muniment/crc.nibbles"], apart := false, laid := [("muniment/crc.nibbles", laid_muniment_crc_nibbles)], narrowed := true }
def WalOverUptoSaid : Prop := walOverUptoRow.holds Tryd.pinned (OpenSpec.upto walOverSpec)

/-- 'munimentlaw08.WalAnew', WHERE WHAT IT READS IS OF BULK AT MOST 1048576: true; the input reads as it did. -/
def walAnewUptoRow : OpenClaim := { program := "ytlnfeehokpkgiaadoor", sum := "877f2c76911acaa09daaf415f5890d5a1d9028a4fe47a0026fd88f83163960a3", func := "muniment/munimentlaw08.WalAnew", spec := "walAnew", unfollowed := true, recurses := true, named := ["muniment/crc.nibbles"], apart := false, laid := [("muniment/crc.nibbles", laid_muniment_crc_nibbles)], narrowed := true }
def WalAnewUptoSaid : Prop := walAnewUptoRow.holds Tryd.pinned (OpenSpec.upto walAnewSpec)

/-- 'munimentlaw08.WalKeeps', WHERE WHAT IT READS IS OF BULK AT MOST 1048576: true; the input reads as it did. -/
def walKeepsUptoRow : OpenClaim := { program := "ytlnfeehokpkgiaadoor", sum := "877f2c76911acaa09daaf415f5890d5a1d9028a4fe47a0026fd88f83163960a3", func := "muniment/munimentlaw08.WalKeeps", spec := "walKeeps", unfollowed := true, recurses := true, named := ["muniment/crc.nibbles"], apart := false, laid := [("muniment/crc.nibbles", laid_muniment_crc_nibbles)], narrowed := true }
def WalKeepsUptoSaid : Prop := walKeepsUptoRow.holds Tryd.pinned (OpenSpec.upto walKeepsSpec)

/-- 'munimentlaw08.WalEvery', WHERE WHAT IT READS IS OF BULK AT MOST 1048576: true; the input reads as it did. -/
def walEveryUptoRow : OpenClaim := { program := "ytlnfeehokpkgiaadoor", sum := "877f2c76911acaa09daaf415f5890d5a1d9028a4fe47a0026fd88f83163960a3", func := "muniment/munimentlaw08.WalEvery", spec := "walEvery", unfollowed := true, recurses := true, named := ["muniment/crc.nibbles"], apart := false, laid := [("muniment/crc.nibbles", laid_muniment_crc_nibbles)], narrowed := true }
def WalEveryUptoSaid : Prop := walEveryUptoRow.holds Tryd.pinned (OpenSpec.upto walEverySpec)

/-- 'munimentlaw08.WalApart', WHERE WHAT IT READS IS OF BULK AT MOST 1048576: true; the input reads as it did. -/
def walApartUptoRow : OpenClaim := { program := "ytlnfeehokpkgiaadoor", sum := "877f2c76911acaa09daaf415f5890d5a1d9028a4fe47a0026fd88f83163960a3", func := "muniment/munimentlaw08.WalApart", spec := "walApart", unfollowed := true, recurses := true, named := ["muniment/crc.nibbles"], apart := false, laid := [("muniment/crc.nibbles", laid_muniment_crc_nibbles)], narrowed := true }
def WalApartUptoSaid : Prop := walApartUptoRow.holds Tryd.pinned (OpenSpec.upto walApartSpec)

/-- 'munimentlaw08.WalLooks', WHERE WHAT IT READS IS OF BULK AT MOST 1048576: true; the input reads as it did. -/
def walLooksUptoRow : OpenClaim := { program := "ytlnfeehokpkgiaadoor", sum := "877f2c76911acaa09daaf415f5890d5a1d9028a4fe47a0026fd88f83163960a3", func := "muniment/munimentlaw08.WalLooks", spec := "walLooks", unfollowed := true, recurses := true, named := ["muniment/crc.nibbles"], apart := false, laid := [("muniment/crc.nibbles", laid_muniment_crc_nibbles)], narrowed := true }
def WalLooksUptoSaid : Prop := walLooksUptoRow.holds Tryd.pinned (OpenSpec.upto walLooksSpec)

/-- 'munimentlaw08.WalRots', WHERE WHAT IT READS IS OF BULK AT MOST 1048576: true; the input reads as it did. -/
def walRotsUptoRow : OpenClaim := { program := "ytlnfeehokpkgiaadoor", sum := "877f2c76911acaa09daaf415f5890d5a1d9028a4fe47a0026fd88f83163960a3", func := "muniment/munimentlaw08.WalRots", spec := "walRots", unfollowed := true, recurses := true, named := ["muniment/crc.nibbles"], apart := false, laid := [("muniment/crc.nibbles", laid_muniment_crc_nibbles)], narrowed := true }
def WalRotsUptoSaid : Prop := walRotsUptoRow.holds Tryd.pinned (OpenSpec.upto walRotsSpec)

end Rows
end Go.Proofs.YtlnfeehokpkgiaaDoor
