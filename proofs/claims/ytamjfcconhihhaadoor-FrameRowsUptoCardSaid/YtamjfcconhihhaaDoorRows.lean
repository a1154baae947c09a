/-
  NARROWER THAN 'FOR EVERY INPUT', by the rows' own cells (each row's printed sentence says how): CrcSums: laid · CrcJoins: laid · CrcTells: laid · CrcLinear: laid · CrcResidue: laid · FramePacks: laid · FrameUnpacks: laid · FrameNumbers: laid · FrameBack: laid · FrameCounts: laid · FrameTurned: laid · FrameSums: laid · FrameRows: laid.
  DERIVED. THE GIVEN ROWS OF THIS SEAT. 13 by the template 'for every input the law returns true; each argument reads behind the call as it read before'; 0 by the template 'total and deterministic' (their statements: YtamjfcconhihhaaDoorTotals.lean).
  GIVEN WITH THE SEED: the statements are not yours to turn. If you find one false, say at which input.
  Laid BY PROGRAM, IN A SANDBOX (cutbox-rows.mjs): the forced cells as the released guide's own fill.sh prints them over the translation e6016b876cfd4286… (all of the seat's roots in one cut). By AI agents, Wed Nov 11 2026. No macro, syntax, notation, axiom, sorry.
-/
import Derived.Test.YtamjfcconhihhaaDoorChecked
import GoSem.Claim
import GoSem.ClaimJoined
import GoSem.ClaimMapViews
import Derived.JoinedTies
import Derived.KernelRfl
namespace Go.Proofs.YtamjfcconhihhaaDoor
/- THE CELL 'sum', in the pinned program and in every row, IS THE sha256 OF THE DUMP (.gsa) THAT YtamjfcconhihhaaDoorProg.lean LOADS. Nothing in Lean hashes anything: it is a label: what it is worth is what the hold of that sum in a sandbox is worth. -/
noncomputable def Tryd.pinned : Pinned := { name := "ytamjfcconhihhaadoor", sum := "e6016b876cfd42868792220c7b83e2b4ee93a7bd247651f23119b8a5e4fd00d1", checked := Tryd.checked }
namespace Rows
def none {H : Type} : Left H := { results := [], args := [] }

/- WHAT THE LISTED PACKAGE-LEVEL VARIABLES READ AS WHEN THE CALL BEGINS. Each datum BY PROGRAM (the guide's laid-datum.mjs) off the statement by which the dump's own 'gosem.cut.vars' lays the variable. In a bare row this is a premise. The card (YtamjfcconhihhaaDoorCards.lean) ties it to the program's text. -/
def laid_muniment_crc_nibbles {H : Type} : DataW H := .agg [.lit (.int .u32 0), .lit (.int .u32 498536548), .lit (.int .u32 997073096), .lit (.int .u32 651767980), .lit (.int .u32 1994146192), .lit (.int .u32 1802195444), .lit (.int .u32 1303535960), .lit (.int .u32 1342533948), .lit (.int .u32 3988292384), .lit (.int .u32 4027552580), .lit (.int .u32 3604390888), .lit (.int .u32 3412177804), .lit (.int .u32 2607071920), .lit (.int .u32 2262029012), .lit (.int .u32 2685067896), .lit (.int .u32 3183342108)]

/-- 'munimentlaw01.CrcSums': WHATEVER THE INPUT: true; the input reads as it did. -/
def crcSumsSpec : ChangeSpec := { name := "crcSums", fn := fun _ => fun
  | [d1, d2] => { results := [.lit (.bool true)], args := [d1, d2] }
  | _ => none }
def crcSumsRow : OpenClaim := { program := "ytamjfcconhihhaadoor", sum := "e6016b876cfd42868792220c7b83e2b4ee93a7bd247651f23119b8a5e4fd00d1", func := "muniment/munimentlaw01.CrcSums", spec := "crcSums", named := ["muniment/crc.nibbles"], apart := false, laid := [("muniment/crc.nibbles", laid_muniment_crc_nibbles)] }
def CrcSumsSaid : Prop := crcSumsRow.holds Tryd.pinned (OpenSpec.ofChange crcSumsSpec)

/-- ITS FALSE NEIGHBOUR: 'it returns false'. Refute it at one input. -/
def crcSumsWrong : ChangeSpec := { name := "crcSums", fn := fun _ => fun
  | [d1, d2] => { results := [.lit (.bool false)], args := [d1, d2] }
  | _ => none }
def CrcSumsWrongFalsely : Prop := crcSumsRow.holds Tryd.pinned (OpenSpec.ofChange crcSumsWrong)

/-- 'munimentlaw01.CrcJoins': WHATEVER THE INPUT: true; the input reads as it did. -/
def crcJoinsSpec : ChangeSpec := { name := "crcJoins", fn := fun _ => fun
  | [d1, d2, d3] => { results := [.lit (.bool true)], args := [d1, d2, d3] }
  | _ => none }
def crcJoinsRow : OpenClaim := { program := "ytamjfcconhihhaadoor", sum := "e6016b876cfd42868792220c7b83e2b4ee93a7bd247651f23119b8a5e4fd00d1", func := "muniment/munimentlaw01.CrcJoins", spec := "crcJoins", named := ["muniment/crc.nibbles"], apart := false, laid := [("muniment/crc.nibbles", laid_muniment_crc_nibbles)] }
def CrcJoinsSaid : Prop := crcJoinsRow.holds Tryd.pinned (OpenSpec.ofChange crcJoinsSpec)

/-- ITS FALSE NEIGHBOUR: 'it returns false'. Refute it at one input. -/
def crcJoinsWrong : ChangeSpec := { name := "crcJoins", fn := fun _ => fun
  | [d1, d2, d3] => { results := [.lit (.bool false)], args := [d1, d2, d3] }
  | _ => none }
def CrcJoinsWrongFalsely : Prop := crcJoinsRow.holds Tryd.pinned (OpenSpec.ofChange crcJoinsWrong)

/-- 'munimentlaw01.CrcTells': WHATEVER THE INPUT: true; the input reads as it did. -/
def crcTellsSpec : ChangeSpec := { name := "crcTells", fn := fun _ => fun
  | [d1, d2, d3] => { results := [.lit (.bool true)], args := [d1, d2, d3] }
  | _ => none }
def crcTellsRow : OpenClaim := { program := "ytamjfcconhihhaadoor", sum := "e6016b876cfd42868792220c7b83e2b4ee93a7bd247651f23119b8a5e4fd00d1", func := "muniment/munimentlaw01.CrcTells", spec := "crcTells", named := ["muniment/crc.nibbles"], apart := false, laid := [("muniment/crc.nibbles", laid_muniment_crc_nibbles)] }
def CrcTellsSaid : Prop := crcTellsRow.holds Tryd.pinned (OpenSpec.ofChange crcTellsSpec)

/-- ITS FALSE NEIGHBOUR: 'it returns false'. Refute it at one input. -/
def crcTellsWrong : ChangeSpec := { name := "crcTells", fn := fun _ => fun
  | [d1, d2, d3] => { results := [.lit (.bool false)], args := [d1, d2, d3] }
  | _ => none }
def CrcTellsWrongFalsely : Prop := crcTellsRow.holds Tryd.pinned (OpenSpec.ofChange crcTellsWrong)

/-- 'munimentlaw01.CrcLinear': WHATEVER THE INPUT: true; the input reads as it did. -/
def crcLinearSpec : ChangeSpec := { name := "crcLinear", fn := fun _ => fun
  | [d1, d2, d3] => { results := [.lit (.bool true)], args := [d1, d2, d3] }
  | _ => none }
def crcLinearRow : OpenClaim := { program := "ytamjfcconhihhaadoor", sum := "e6016b876cfd42868792220c7b83e2b4ee93a7bd247651f23119b8a5e4fd00d1", func := "muniment/munimentlaw01.CrcLinear", spec := "crcLinear", named := ["muniment/crc.nibbles"], apart := false, laid := [("muniment/crc.nibbles", laid_muniment_crc_nibbles)] }
def CrcLinearSaid : Prop := crcLinearRow.holds Tryd.pinned (OpenSpec.ofChange crcLinearSpec)

/-- ITS FALSE NEIGHBOUR: 'it returns false'. Refute it at one input. -/
def crcLinearWrong : ChangeSpec := { name := "crcLinear", fn := fun _ => fun
  | [d1, d2, d3] => { results := [.lit (.bool false)], args := [d1, d2, d3] }
  | _ => none }
def CrcLinearWrongFalsely : Prop := crcLinearRow.holds Tryd.pinned (OpenSpec.ofChange crcLinearWrong)

/-- 'munimentlaw01.CrcResidue': WHATEVER THE INPUT: true; the input reads as it did. -/
def crcResidueSpec : ChangeSpec := { name := "crcResidue", fn := fun _ => fun
  | [d] => { results := [.lit (.bool true)], args := [d] }
  | _ => none }
def crcResidueRow : OpenClaim := { program := "ytamjfcconhihhaadoor", sum := "e6016b876cfd42868792220c7b83e2b4ee93a7bd247651f23119b8a5e4fd00d1", func := "muniment/munimentlaw01.CrcResidue", spec := "crcResidue", named := ["muniment/crc.nibbles"], apart := false, laid := [("muniment/crc.nibbles", laid_muniment_crc_nibbles)] }
def CrcResidueSaid : Prop := crcResidueRow.holds Tryd.pinned (OpenSpec.ofChange crcResidueSpec)

/-- ITS FALSE NEIGHBOUR: 'it returns false'. Refute it at one input. -/
def crcResidueWrong : ChangeSpec := { name := "crcResidue", fn := fun _ => fun
  | [d] => { results := [.lit (.bool false)], args := [d] }
  | _ => none }
def CrcResidueWrongFalsely : Prop := crcResidueRow.holds Tryd.pinned (OpenSpec.ofChange crcResidueWrong)

/-- 'munimentlaw04.FramePacks': WHATEVER THE INPUT: true; the input reads as it did. -/
def framePacksSpec : ChangeSpec := { name := "framePacks", fn := fun _ => fun
  | [d1, d2] => { results := [.lit (.bool true)], args := [d1, d2] }
  | _ => none }
def framePacksRow : OpenClaim := { program := "ytamjfcconhihhaadoor", sum := "e6016b876cfd42868792220c7b83e2b4ee93a7bd247651f23119b8a5e4fd00d1", func := "muniment/munimentlaw04.FramePacks", spec := "framePacks", named := ["muniment/crc.nibbles"], apart := false, laid := [("muniment/crc.nibbles", laid_muniment_crc_nibbles)] }
def FramePacksSaid : Prop := framePacksRow.holds Tryd.pinned (OpenSpec.ofChange framePacksSpec)

/-- ITS FALSE NEIGHBOUR: 'it returns false'. Refute it at one input. -/
def framePacksWrong : ChangeSpec := { name := "framePacks", fn := fun _ => fun
  | [d1, d2] => { results := [.lit (.bool false)], args := [d1, d2] }
  | _ => none }
def FramePacksWrongFalsely : Prop := framePacksRow.holds Tryd.pinned (OpenSpec.ofChange framePacksWrong)

/-- 'munimentlaw04.FrameUnpacks': WHATEVER THE INPUT: true; the input reads as it did. -/
def frameUnpacksSpec : ChangeSpec := { name := "frameUnpacks", fn := fun _ => fun
  | [d] => { results := [.lit (.bool true)], args := [d] }
  | _ => none }
def frameUnpacksRow : OpenClaim := { program := "ytamjfcconhihhaadoor", sum := "e6016b876cfd42868792220c7b83e2b4ee93a7bd247651f23119b8a5e4fd00d1", func := "muniment/munimentlaw04.FrameUnpacks", spec := "frameUnpacks", named := ["muniment/crc.nibbles"], apart := false, laid := [("muniment/crc.nibbles", laid_muniment_crc_nibbles)] }
def FrameUnpacksSaid : Prop := frameUnpacksRow.holds Tryd.pinned (OpenSpec.ofChange frameUnpacksSpec)

/-- ITS FALSE NEIGHBOUR: 'it returns false'. Refute it at one input. -/
def frameUnpacksWrong : ChangeSpec := { name := "frameUnpacks", fn := fun _ => fun
  | [d] => { results := [.lit (.bool false)], args := [d] }
  | _ => none }
def FrameUnpacksWrongFalsely : Prop := frameUnpacksRow.holds Tryd.pinned (OpenSpec.ofChange frameUnpacksWrong)

/-- 'munimentlaw04.FrameNumbers': WHATEVER THE INPUT: true; the input reads as it did. -/
def frameNumbersSpec : ChangeSpec := { name := "frameNumbers", fn := fun _ => fun
  | [d1, d2, d3] => { results := [.lit (.bool true)], args := [d1, d2, d3] }
  | _ => none }
def frameNumbersRow : OpenClaim := { program := "ytamjfcconhihhaadoor", sum := "e6016b876cfd42868792220c7b83e2b4ee93a7bd247651f23119b8a5e4fd00d1", func := "muniment/munimentlaw04.FrameNumbers", spec := "frameNumbers", named := ["muniment/crc.nibbles"], apart := false, laid := [("muniment/crc.nibbles", laid_muniment_crc_nibbles)] }
def FrameNumbersSaid : Prop := frameNumbersRow.holds Tryd.pinned (OpenSpec.ofChange frameNumbersSpec)

/-- ITS FALSE NEIGHBOUR: 'it returns false'. Refute it at one input. -/
def frameNumbersWrong : ChangeSpec := { name := "frameNumbers", fn := fun _ => fun
  | [d1, d2, d3] => { results := [.lit (.bool false)], args := [d1, d2, d3] }
  | _ => none }
def FrameNumbersWrongFalsely : Prop := frameNumbersRow.holds Tryd.pinned (OpenSpec.ofChange frameNumbersWrong)

/-- 'munimentlaw04.FrameBack': WHATEVER THE INPUT: true; the input reads as it did. -/
def frameBackSpec : ChangeSpec := { name := "frameBack", fn := fun _ => fun
  | [d1, d2, d3] => { results := [.lit (.bool true)], args := [d1, d2, d3] }
  | _ => none }
def frameBackRow : OpenClaim := { program := "ytamjfcconhihhaadoor", sum := "e6016b876cfd42868792220c7b83e2b4ee93a7bd247651f23119b8a5e4fd00d1", func := "muniment/munimentlaw04.FrameBack", spec := "frameBack", named := ["muniment/crc.nibbles"], apart := false, laid := [("muniment/crc.nibbles", laid_muniment_crc_nibbles)] }
def FrameBackSaid : Prop := frameBackRow.holds Tryd.pinned (OpenSpec.ofChange frameBackSpec)

/-- ITS FALSE NEIGHBOUR: 'it returns false'. Refute it at one input. -/
def frameBackWrong : ChangeSpec := { name := "frameBack", fn := fun _ => fun
  | [d1, d2, d3] => { results := [.lit (.bool false)], args := [d1, d2, d3] }
  | _ => none }
def FrameBackWrongFalsely : Prop := frameBackRow.holds Tryd.pinned (OpenSpec.ofChange frameBackWrong)

/-- 'munimentlaw04.FrameCounts': WHATEVER THE INPUT: true; the input reads as it did. -/
def frameCountsSpec : ChangeSpec := { name := "frameCounts", fn := fun _ => fun
  | [d1, d2, d3] => { results := [.lit (.bool true)], args := [d1, d2, d3] }
  | _ => none }
def frameCountsRow : OpenClaim := { program := "ytamjfcconhihhaadoor", sum := "e6016b876cfd42868792220c7b83e2b4ee93a7bd247651f23119b8a5e4fd00d1", func := "muniment/munimentlaw04.FrameCounts", spec := "frameCounts", named := ["muniment/crc.nibbles"], apart := false, laid := [("muniment/crc.nibbles", laid_muniment_crc_nibbles)] }
def FrameCountsSaid : Prop := frameCountsRow.holds Tryd.pinned (OpenSpec.ofChange frameCountsSpec)

/-- ITS FALSE NEIGHBOUR: 'it returns false'. Refute it at one input. -/
def frameCountsWrong : ChangeSpec := { name := "frameCounts", fn := fun _ => fun
  | [d1, d2, d3] => { results := [.lit (.bool false)], args := [d1, d2, d3] }
  | _ => none }
def FrameCountsWrongFalsely : Prop := frameCountsRow.holds Tryd.pinned (OpenSpec.ofChange frameCountsWrong)

/-- 'munimentlaw04.FrameTurned': WHATEVER THE INPUT: true; the input reads as it did. -/
def frameTurnedSpec : ChangeSpec := { name := "frameTurned", fn := fun _ => fun
  | [d1, d2, d3, d4] => { results := [.lit (.bool true)], args := [d1, d2, d3, d4] }
  | _ => none }
def frameTurnedRow : OpenClaim := { program := "ytamjfcconhihhaadoor", sum := "e6016b876cfd42868792220c7b83e2b4ee93a7bd247651f23119b8a5e4fd00d1", func := "muniment/munimentlaw04.FrameTurned", spec := "frameTurned", named := ["muniment/crc.nibbles"], apart := false, laid := [("muniment/crc.nibbles", laid_muniment_crc_nibbles)] }
def FrameTurnedSaid : Prop := frameTurnedRow.holds Tryd.pinned (OpenSpec.ofChange frameTurnedSpec)

/-- ITS FALSE NEIGHBOUR: 'it returns false'. Refute it at one input. -/
def frameTurnedWrong : ChangeSpec := { name := "frameTurned", fn := fun _ => fun
  | [d1, d2, d3, d4] => { results := [.lit (.bool false)], args := [d1, d2, d3, d4] }
  | _ => none }
def FrameTurnedWrongFalsely : Prop := frameTurnedRow.holds Tryd.pinned (OpenSpec.ofChange frameTurnedWrong)

/-- 'munimentlaw04.FrameSums': WHATEVER THE INPUT: true; the input reads as it did. -/
def frameSumsSpec : ChangeSpec := { name := "frameSums", fn := fun _ => fun
  | [d1, d2] => { results := [.lit (.bool true)], args := [d1, d2] }
  | _ => none }
def frameSumsRow : OpenClaim := { program := "ytamjfcconhihhaadoor", sum := "e6016b876cfd42868792220c7b83e2b4ee93a7bd247651f23119b8a5e4fd00d1", func := "muniment/munimentlaw04.FrameSums", spec := "frameSums", named := ["muniment/crc.nibbles"], apart := false, laid := [("muniment/crc.nibbles", laid_muniment_crc_nibbles)] }
def FrameSumsSaid : Prop := frameSumsRow.holds Tryd.pinned (OpenSpec.ofChange frameSumsSpec)

/-- ITS FALSE NEIGHBOUR: 'it returns false'. Refute it at one input. -/
def frameSumsWrong : ChangeSpec := { name := "frameSums", fn := fun _ => fun
  | [d1, d2] => { results := [.lit (.bool false)], args := [d1, d2] }
  | _ => none }
def FrameSumsWrongFalsely : Prop := frameSumsRow.holds Tryd.pinned (OpenSpec.ofChange frameSumsWrong)

/-- 'munimentlaw04.FrameRows': WHATEVER THE INPUT: true; the input reads as it did. -/
def frameRowsSpec : ChangeSpec := { name := "frameRows", fn := fun _ => fun
  | [d] => { results := [.lit (.bool true)], args := [d] }
  | _ => none }
def frameRowsRow : OpenClaim := { program := "ytamjfcconhihhaadoor", sum := "e6016b876cfd42868792220c7b83e2b4ee93a7bd247651f23119b8a5e4fd00d1", func := "muniment/munimentlaw04.FrameRows", spec := "frameRows", named := ["muniment/crc.nibbles"], apart := false, laid := [("muniment/crc.nibbles", laid_muniment_crc_nibbles)] }
def FrameRowsSaid : Prop := frameRowsRow.holds Tryd.pinned (OpenSpec.ofChange frameRowsSpec)

/-- ITS FALSE NEIGHBOUR: 'it returns false'. Refute it at one input. -/
def frameRowsWrong : ChangeSpec := { name := "frameRows", fn := fun _ => fun
  | [d] => { results := [.lit (.bool false)], args := [d] }
  | _ => none }
def FrameRowsWrongFalsely : Prop := frameRowsRow.holds Tryd.pinned (OpenSpec.ofChange frameRowsWrong)

/- THE SECOND FORM. 'bulk': how many values and letters a reading holds, each counted each time it is reached (what is shared counts as often as it is met; a slice's spare places count too). A statement '..UptoSaid' is the law's where the arguments, and the package variables that the reading takes, are together of bulk at most 1048576: NARROWER than '..Said'. Prove '..Said' where nothing that the law and all that it calls make is longer than what came in: it says more and counts as full. Else prove '..UptoSaid'. A law counts once. -/
mutual
def uptoBulk {H : Type} : DataW H → Nat
  | .lit (.string bytes) => bytes.length + 1
  | .lit _ => 1
  | .nil => 1
  | .ptr d => uptoBulk d + 1
  | .slice elems spare => uptoBulkAll elems + uptoBulkAll spare + 1
  | .agg parts => uptoBulkAll parts + 1
  | .iface _ d => uptoBulk d + 1
  | .map entries => uptoBulkEntries entries + 1
  | .held _ => 1
def uptoBulkAll {H : Type} : List (DataW H) → Nat
  | [] => 0
  | d :: r => uptoBulk d + uptoBulkAll r
def uptoBulkEntries {H : Type} : List (Lit × DataW H) → Nat
  | [] => 0
  | x :: r => uptoBulkEntry x + uptoBulkEntries r
def uptoBulkEntry {H : Type} : Lit × DataW H → Nat
  | (.string bytes, d) => bytes.length + uptoBulk d + 1
  | (_, d) => uptoBulk d + 1
 end
def uptoSmall : (H : Type) → List (DataW H) → Bool := fun _ ds => decide (uptoBulkAll ds ≤ 1048576)
def OpenSpec.upto (s : _root_.Go.ChangeSpec) : _root_.Go.OpenSpec := { _root_.Go.OpenSpec.ofChange s with cond := some uptoSmall }

/-- 'munimentlaw01.CrcSums', WHERE WHAT IT READS IS OF BULK AT MOST 1048576: true; the input reads as it did. -/
def crcSumsUptoRow : OpenClaim := { program := "ytamjfcconhihhaadoor", sum := "e6016b876cfd42868792220c7b83e2b4ee93a7bd247651f23119b8a5e4fd00d1", func := "muniment/munimentlaw01.CrcSums", spec := "crcSums", named := ["muniment/crc.nibbles"], apart := false, laid := [("muniment/crc.nibbles", laid_muniment_crc_nibbles)], narrowed := true }
def CrcSumsUptoSaid : Prop := crcSumsUptoRow.holds Tryd.pinned (OpenSpec.upto crcSumsSpec)

/-- 'munimentlaw01.CrcJoins', WHERE WHAT IT READS IS OF BULK AT MOST 1048576: true; the input reads as it did. -/
def crcJoinsUptoRow : OpenClaim := { program := "ytamjfcconhihhaadoor", sum := "e6016b876cfd42868792220c7b83e2b4ee93a7bd247651f23119b8a5e4fd00d1", func := "muniment/munimentlaw01.CrcJoins", spec := "crcJoins", named := ["muniment/crc.nibbles"], apart := false, laid := [("muniment/crc.nibbles", laid_muniment_crc_nibbles)], narrowed := true }
def CrcJoinsUptoSaid : Prop := crcJoinsUptoRow.holds Tryd.pinned (OpenSpec.upto crcJoinsSpec)

/-- 'munimentlaw01.CrcTells', WHERE WHAT IT READS IS OF BULK AT MOST 1048576: true; the input reads as it did. -/
def crcTellsUptoRow : OpenClaim := { program := "ytamjfcconhihhaadoor", sum := "e6016b876cfd42868792220c7b83e2b4ee93a7bd247651f23119b8a5e4fd00d1", func := "muniment/munimentlaw01.CrcTells", spec := "crcTells", named := ["muniment/crc.nibbles"], apart := false, laid := [("muniment/crc.nibbles", laid_muniment_crc_nibbles)], narrowed := true }
def CrcTellsUptoSaid : Prop := crcTellsUptoRow.holds Tryd.pinned (OpenSpec.upto crcTellsSpec)

/-- 'munimentlaw01.CrcLinear', WHERE WHAT IT READS IS OF BULK AT MOST 1048576: true; the input reads as it did. -/
def crcLinearUptoRow : OpenClaim := { program := "ytamjfcconhihhaadoor", sum := "e6016b876cfd42868792220c7b83e2b4ee93a7bd247651f23119b8a5e4fd00d1", func := "muniment/munimentlaw01.CrcLinear", spec := "crcLinear", named := ["muniment/crc.nibbles"], apart := false, laid := [("muniment/crc.nibbles", laid_muniment_crc_nibbles)], narrowed := true }
def CrcLinearUptoSaid : Prop := crcLinearUptoRow.holds Tryd.pinned (OpenSpec.upto crcLinearSpec)

/-- 'munimentlaw01.CrcResidue', WHERE WHAT IT READS IS OF BULK AT MOST 1048576: true; the input reads as it did. -/
def crcResidueUptoRow : OpenClaim := { program := "ytamjfcconhihhaadoor", sum := "e6016b876cfd42868792220c7b83e2b4ee93a7bd247651f23119b8a5e4fd00d1", func := "muniment/munimentlaw01.CrcResidue", spec := "crcResidue", named := ["muniment/crc.nibbles"], apart := false, laid := [("muniment/crc.nibbles", laid_muniment_crc_nibbles)], narrowed := true }
def CrcResidueUptoSaid : Prop := crcResidueUptoRow.holds Tryd.pinned (OpenSpec.upto crcResidueSpec)

/-- 'munimentlaw04.FramePacks', WHERE WHAT IT READS IS OF BULK AT MOST 1048576: true; the input reads as it did. -/
def framePacksUptoRow : OpenClaim := { program := "ytamjfcconhihhaadoor", sum := "e6016b876cfd42868792220c7b83e2b4ee93a7bd247651f23119b8a5e4fd00d1", func := "muniment/munimentlaw04.FramePacks", spec := "framePacks", named := ["muniment/crc.nibbles"], apart := false, laid := [("muniment/crc.nibbles", laid_muniment_crc_nibbles)], narrowed := true }
def FramePacksUptoSaid : Prop := framePacksUptoRow.holds Tryd.pinned (OpenSpec.upto framePacksSpec)

/-- 'munimentlaw04.FrameUnpacks', WHERE WHAT IT READS IS OF BULK AT MOST 1048576: true; the input reads as it did. -/
def frameUnpacksUptoRow : OpenClaim := { program := "ytamjfcconhihhaadoor", sum := "e6016b876cfd42868792220c7b83e2b4ee93a7bd247651f23119b8a5e4fd00d1", func := "muniment/munimentlaw04.FrameUnpacks", spec := "frameUnpacks", named := ["muniment/crc.nibbles"], apart := false, laid := [("muniment/crc.nibbles", laid_muniment_crc_nibbles)], narrowed := true }
def FrameUnpacksUptoSaid : Prop := frameUnpacksUptoRow.holds Tryd.pinned (OpenSpec.upto frameUnpacksSpec)

/-- 'munimentlaw04.FrameNumbers', WHERE WHAT IT READS IS OF BULK AT MOST 1048576: true; the input reads as it did. -/
def frameNumbersUptoRow : OpenClaim := { program := "ytamjfcconhihhaadoor", sum := "e6016b876cfd42868792220c7b83e2b4ee93a7bd247651f23119b8a5e4fd00d1", func := "muniment/munimentlaw04.FrameNumbers", spec := "frameNumbers", named := ["muniment/crc.nibbles"], apart := false, laid := [("muniment/crc.nibbles", laid_muniment_crc_nibbles)], narrowed := true }
def FrameNumbersUptoSaid : Prop := frameNumbersUptoRow.holds Tryd.pinned (OpenSpec.upto frameNumbersSpec)

/-- 'munimentlaw04.FrameBack', WHERE WHAT IT READS IS OF BULK AT MOST 1048576: true; the input reads as it did. -/
def frameBackUptoRow : OpenClaim := { program := "ytamjfcconhihhaadoor", sum := "e6016b876cfd42868792220c7b83e2b4ee93a7bd247651f23119b8a5e4fd00d1", func := "muniment/munimentlaw04.FrameBack", spec := "frameBack", named := ["muniment/crc.nibbles"], apart := false, laid := [("muniment/crc.nibbles", laid_muniment_crc_nibbles)], narrowed := true }
def FrameBackUptoSaid : Prop := frameBackUptoRow.holds Tryd.pinned (OpenSpec.upto frameBackSpec)

/-- 'munimentlaw04.FrameCounts', WHERE WHAT IT READS IS OF BULK AT MOST 1048576: true; the input reads as it did. -/
def frameCountsUptoRow : OpenClaim := { program := "ytamjfcconhihhaadoor", sum := "e6016b876cfd42868792220c7b83e2b4ee93a7bd247651f23119b8a5e4fd00d1", func := "muniment/munimentlaw04.FrameCounts", spec := "frameCounts", named := ["muniment/crc.nibbles"], apart := false, laid := [("muniment/crc.nibbles", laid_muniment_crc_nibbles)], narrowed := true }
def FrameCountsUptoSaid : Prop := frameCountsUptoRow.holds Tryd.pinned (OpenSpec.upto frameCountsSpec)

/-- 'munimentlaw04.FrameTurned', WHERE WHAT IT READS IS OF BULK AT MOST 1048576: true; the input reads as it did. -/
def frameTurnedUptoRow : OpenClaim := { program := "ytamjfcconhihhaadoor", sum := "e6016b876cfd42868792220c7b83e2b4ee93a7bd247651f23119b8a5e4fd00d1", func := "muniment/munimentlaw04.FrameTurned", spec := "frameTurned", named := ["muniment/crc.nibbles"], apart := false, laid := [("muniment/crc.nibbles", laid_muniment_crc_nibbles)], narrowed := true }
def FrameTurnedUptoSaid : Prop := frameTurnedUptoRow.holds Tryd.pinned (OpenSpec.upto frameTurnedSpec)

/-- 'munimentlaw04.FrameSums', WHERE WHAT IT READS IS OF BULK AT MOST 1048576: true; the input reads as it did. -/
def frameSumsUptoRow : OpenClaim := { program := "ytamjfcconhihhaadoor", sum := "e6016b876cfd42868792220c7b83e2b4ee93a7bd247651f23119b8a5e4fd00d1", func := "muniment/munimentlaw04.FrameSums", spec := "frameSums", named := ["muniment/crc.nibbles"], apart := false, laid := [("muniment/crc.nibbles", laid_muniment_crc_nibbles)], narrowed := true }
def FrameSumsUptoSaid : Prop := frameSumsUptoRow.holds Tryd.pinned (OpenSpec.upto frameSumsSpec)

/-- 'munimentlaw04.FrameRows', WHERE WHAT IT READS IS OF BULK AT MOST 1048576: true; the input reads as it did. -/
def frameRowsUptoRow : OpenClaim := { program := "ytamjfcconhihhaadoor", sum := "e6016b876cfd42868792220c7b83e2b4ee93a7bd247651f23119b8a5e4fd00d1", func := "muniment/munimentlaw04.FrameRows", spec := "frameRows", named := ["muniment/crc.nibbles"], apart := false, laid := [("muniment/crc.nibbles", laid_muniment_crc_nibbles)], narrowed := true }
def FrameRowsUptoSaid : Prop := frameRowsUptoRow.holds Tryd.pinned (OpenSpec.upto frameRowsSpec)

end Rows
end Go.Proofs.YtamjfcconhihhaaDoor
