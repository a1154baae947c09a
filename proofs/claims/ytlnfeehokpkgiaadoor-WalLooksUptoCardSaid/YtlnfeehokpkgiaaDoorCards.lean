/-
  DERIVED. GIVEN WITH THE SEED: THE CARDS: each row of YtlnfeehokpkgiaaDoorRows.lean that lists a variable, with what it lists TIED to the program's text (the seventh form; the later family's looks); each row that meets fmt, with fmt's text TOLD by the authors' own Lean function (tested against real Go, not proved from fmt's source: count such statements apart). THE CARD IS WHAT COUNTS. Prove the row's statement (the work); the ties are given (YtlnfeehokpkgiaaDoorTie.lean); close each card by the builder's one call (the guide's Derived/Test/ToyasCard.lean, 'card_holds'). Laid BY PROGRAM, IN A SANDBOX (cutbox-door.mjs). By AI agents, Wed Nov 11 2026. No macro, syntax, notation, axiom, sorry.
-/
import Derived.Test.YtlnfeehokpkgiaaDoorRows
import GoSem.ClaimSeven
namespace Go.Proofs.YtlnfeehokpkgiaaDoor
namespace Rows

/-- THE TIED CARD OF 'munimentlaw08.WalOver'. -/
def walOverCard : Claim7 := { stood := { row := walOverRow, standIns := [], harness := (true, "ffb643f3387cf7e94bbd3ab04fa68220f6c751c62a413cd9cd8636bd6cb3e75b"), looks := false }, kinds := [], alts := [], laidByText := true, laidKinds := [.data], laidTests := true, laidLooks := .later }
def WalOverCardSaid : Prop := Claim7.holds Tryd.pinned (.plain (OpenSpec.ofChange walOverSpec)) walOverCard

/-- THE TIED CARD OF 'munimentlaw08.WalAnew'. -/
def walAnewCard : Claim7 := { stood := { row := walAnewRow, standIns := [], harness := (true, "ffb643f3387cf7e94bbd3ab04fa68220f6c751c62a413cd9cd8636bd6cb3e75b"), looks := false }, kinds := [], alts := [], laidByText := true, laidKinds := [.data], laidTests := true, laidLooks := .later }
def WalAnewCardSaid : Prop := Claim7.holds Tryd.pinned (.plain (OpenSpec.ofChange walAnewSpec)) walAnewCard

/-- THE TIED CARD OF 'munimentlaw08.WalKeeps'. -/
def walKeepsCard : Claim7 := { stood := { row := walKeepsRow, standIns := [], harness := (true, "ffb643f3387cf7e94bbd3ab04fa68220f6c751c62a413cd9cd8636bd6cb3e75b"), looks := false }, kinds := [], alts := [], laidByText := true, laidKinds := [.data], laidTests := true, laidLooks := .later }
def WalKeepsCardSaid : Prop := Claim7.holds Tryd.pinned (.plain (OpenSpec.ofChange walKeepsSpec)) walKeepsCard

/-- THE TIED CARD OF 'munimentlaw08.WalEvery'. -/
def walEveryCard : Claim7 := { stood := { row := walEveryRow, standIns := [], harness := (true, "ffb643f3387cf7e94bbd3ab04fa68220f6c751c62a413cd9cd8636bd6cb3e75b"), looks := false }, kinds := [], alts := [], laidByText := true, laidKinds := [.data], laidTests := true, laidLooks := .later }
def WalEveryCardSaid : Prop := Claim7.holds Tryd.pinned (.plain (OpenSpec.ofChange walEverySpec)) walEveryCard

/-- THE TIED CARD OF 'munimentlaw08.WalApart'. -/
def walApartCard : Claim7 := { stood := { row := walApartRow, standIns := [], harness := (true, "ffb643f3387cf7e94bbd3ab04fa68220f6c751c62a413cd9cd8636bd6cb3e75b"), looks := false }, kinds := [], alts := [], laidByText := true, laidKinds := [.data], laidTests := true, laidLooks := .later }
def WalApartCardSaid : Prop := Claim7.holds Tryd.pinned (.plain (OpenSpec.ofChange walApartSpec)) walApartCard

/-- THE TIED CARD OF 'munimentlaw08.WalLooks'. -/
def walLooksCard : Claim7 := { stood := { row := walLooksRow, standIns := [], harness := (true, "ffb643f3387cf7e94bbd3ab04fa68220f6c751c62a413cd9cd8636bd6cb3e75b"), looks := false }, kinds := [], alts := [], laidByText := true, laidKinds := [.data], laidTests := true, laidLooks := .later }
def WalLooksCardSaid : Prop := Claim7.holds Tryd.pinned (.plain (OpenSpec.ofChange walLooksSpec)) walLooksCard

/-- THE TIED CARD OF 'munimentlaw08.WalRots'. -/
def walRotsCard : Claim7 := { stood := { row := walRotsRow, standIns := [], harness := (true, "ffb643f3387cf7e94bbd3ab04fa68220f6c751c62a413cd9cd8636bd6cb3e75b"), looks := false }, kinds := [], alts := [], laidByText := true, laidKinds := [.data], laidTests := true, laidLooks := .later }
def WalRotsCardSaid : Prop := Claim7.holds Tryd.pinned (.plain (OpenSpec.ofChange walRotsSpec)) walRotsCard

/-- THE SECOND FORM's CARD OF 'munimentlaw08.WalOver'. -/
def walOverUptoCard : Claim7 := { stood := { row := walOverUptoRow, standIns := [], harness := (true, "ffb643f3387cf7e94bbd3ab04fa68220f6c751c62a413cd9cd8636bd6cb3e75b"), looks := false }, kinds := [], alts := [], laidByText := true, laidKinds := [.data], laidTests := true, laidLooks := .later }
def WalOverUptoCardSaid : Prop := Claim7.holds Tryd.pinned (.plain (OpenSpec.upto walOverSpec)) walOverUptoCard

/-- THE SECOND FORM's CARD OF 'munimentlaw08.WalAnew'. -/
def walAnewUptoCard : Claim7 := { stood := { row := walAnewUptoRow, standIns := [], harness := (true, "ffb643f3387cf7e94bbd3ab04fa68220f6c751c62a413cd9cd8636bd6cb3e75b"), looks := false }, kinds := [], alts := [], laidByText := true, laidKinds := [.data], laidTests := true, laidLooks := .later }
def WalAnewUptoCardSaid : Prop := Claim7.holds Tryd.pinned (.plain (OpenSpec.upto walAnewSpec)) walAnewUptoCard

/-- THE SECOND FORM's CARD OF 'munimentlaw08.WalKeeps'. -/
def walKeepsUptoCard : Claim7 := { stood := { row := walKeepsUptoRow, standIns := [], harness := (true, "ffb643f3387cf7e94bbd3ab04fa68220f6c751c62a413cd9cd8636bd6cb3e75b"), looks := false }, kinds := [], alts := [], laidByText := true, laidKinds := [.data], laidTests := true, laidLooks := .later }
def WalKeepsUptoCardSaid : Prop := Claim7.holds Tryd.pinned (.plain (OpenSpec.upto walKeepsSpec)) walKeepsUptoCard

/-- THE SECOND FORM's CARD OF 'munimentlaw08.WalEvery'. -/
def walEveryUptoCard : Claim7 := { stood := { row := walEveryUptoRow, standIns := [], harness := (true, "ffb643f3387cf7e94bbd3ab04fa68220f6c751c62a413cd9cd8636bd6cb3e75b"), looks := false }, kinds := [], alts := [], laidByText := true, laidKinds := [.data], laidTests := true, laidLooks := .later }
def WalEveryUptoCardSaid : Prop := Claim7.holds Tryd.pinned (.plain (OpenSpec.upto walEverySpec)) walEveryUptoCard

/-- THE SECOND FORM's CARD OF 'munimentlaw08.WalApart'. -/
def walApartUptoCard : Claim7 := { stood := { row := walApartUptoRow, standIns := [], harness := (true, "ffb643f3387cf7e94bbd3ab04fa68220f6c751c62a413cd9cd8636bd6cb3e75b"), looks := false }, kinds := [], alts := [], laidByText := true, laidKinds := [.data], laidTests := true, laidLooks := .later }
def WalApartUptoCardSaid : Prop := Claim7.holds Tryd.pinned (.plain (OpenSpec.upto walApartSpec)) walApartUptoCard

/-- THE SECOND FORM's CARD OF 'munimentlaw08.WalLooks'. -/
def walLooksUptoCard : Claim7 := { stood := { row := walLooksUptoRow, standIns := [], harness := (true, "ffb643f3387cf7e94bbd3ab04fa68220f6c751c62a413cd9cd8636bd6cb3e75b"), looks := false }, kinds := [], alts := [], laidByText := true, laidKinds := [.data], laidTests := true, laidLooks := .later }
def WalLooksUptoCardSaid : Prop := Claim7.holds Tryd.pinned (.plain (OpenSpec.upto walLooksSpec)) walLooksUptoCard

/-- THE SECOND FORM's CARD OF 'munimentlaw08.WalRots'. -/
def walRotsUptoCard : Claim7 := { stood := { row := walRotsUptoRow, standIns := [], harness := (true, "ffb643f3387cf7e94bbd3ab04fa68220f6c751c62a413cd9cd8636bd6cb3e75b"), looks := false }, kinds := [], alts := [], laidByText := true, laidKinds := [.data], laidTests := true, laidLooks := .later }
def WalRotsUptoCardSaid : Prop := Claim7.holds Tryd.pinned (.plain (OpenSpec.upto walRotsSpec)) walRotsUptoCard
end Rows
end Go.Proofs.YtlnfeehokpkgiaaDoor
