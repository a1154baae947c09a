/-
  DERIVED. GIVEN WITH THE SEED: THE CARDS: each row of YtloffgoenaomkaaDoorRows.lean that lists a variable, with what it lists TIED to the program's text (the seventh form; the later family's looks); each row that meets fmt, with fmt's text TOLD by the authors' own Lean function (tested against real Go, not proved from fmt's source: count such statements apart). THE CARD IS WHAT COUNTS. Prove the row's statement (the work); the ties are given (YtloffgoenaomkaaDoorTie.lean); close each card by the builder's one call (the guide's Derived/Test/ToyasCard.lean, 'card_holds'). Laid BY PROGRAM, IN A SANDBOX (cutbox-door.mjs). By AI agents, Wed Nov 11 2026. No macro, syntax, notation, axiom, sorry.
-/
import Derived.Test.YtloffgoenaomkaaDoorRows
import GoSem.ClaimSeven
namespace Go.Proofs.YtloffgoenaomkaaDoor
namespace Rows

/-- THE TIED CARD OF 'munimentlaw15.ColdvolApart'. -/
def coldvolApartCard : Claim7 := { stood := { row := coldvolApartRow, standIns := [], harness := (true, "76f868843974ef8df40c8d3575026922d3c237b1335b10e8ea020dd5aae7afd7"), looks := false }, kinds := [], alts := [], laidByText := true, laidKinds := [.data, .data], laidTests := true, laidLooks := .later }
def ColdvolApartCardSaid : Prop := Claim7.holds Tryd.pinned (.plain (OpenSpec.ofChange coldvolApartSpec)) coldvolApartCard

/-- THE TIED CARD OF 'munimentlaw15.ColdvolPlays'. -/
def coldvolPlaysCard : Claim7 := { stood := { row := coldvolPlaysRow, standIns := [], harness := (true, "76f868843974ef8df40c8d3575026922d3c237b1335b10e8ea020dd5aae7afd7"), looks := false }, kinds := [], alts := [], laidByText := true, laidKinds := [.data, .data], laidTests := true, laidLooks := .later }
def ColdvolPlaysCardSaid : Prop := Claim7.holds Tryd.pinned (.plain (OpenSpec.ofChange coldvolPlaysSpec)) coldvolPlaysCard

/-- THE TIED CARD OF 'munimentlaw15.ColdvolForged'. -/
def coldvolForgedCard : Claim7 := { stood := { row := coldvolForgedRow, standIns := [], harness := (true, "76f868843974ef8df40c8d3575026922d3c237b1335b10e8ea020dd5aae7afd7"), looks := false }, kinds := [], alts := [], laidByText := true, laidKinds := [.data, .data], laidTests := true, laidLooks := .later }
def ColdvolForgedCardSaid : Prop := Claim7.holds Tryd.pinned (.plain (OpenSpec.ofChange coldvolForgedSpec)) coldvolForgedCard

/-- THE TIED CARD OF 'munimentlaw15.ColdvolRots'. -/
def coldvolRotsCard : Claim7 := { stood := { row := coldvolRotsRow, standIns := [], harness := (true, "76f868843974ef8df40c8d3575026922d3c237b1335b10e8ea020dd5aae7afd7"), looks := false }, kinds := [], alts := [], laidByText := true, laidKinds := [.data, .data], laidTests := true, laidLooks := .later }
def ColdvolRotsCardSaid : Prop := Claim7.holds Tryd.pinned (.plain (OpenSpec.ofChange coldvolRotsSpec)) coldvolRotsCard

/-- THE TIED CARD OF 'munimentlaw15.ColdvolCrashes'. -/
def coldvolCrashesCard : Claim7 := { stood := { row := coldvolCrashesRow, standIns := [], harness := (true, "76f868843974ef8df40c8d3575026922d3c237b1335b10e8ea020dd5aae7afd7"), looks := false }, kinds := [], alts := [], laidByText := true, laidKinds := [.data, .data], laidTests := true, laidLooks := .later }
def ColdvolCrashesCardSaid : Prop := Claim7.holds Tryd.pinned (.plain (OpenSpec.ofChange coldvolCrashesSpec)) coldvolCrashesCard

/-- THE SECOND FORM's CARD OF 'munimentlaw15.ColdvolApart'. -/
def coldvolApartUptoCard : Claim7 := { stood := { row := coldvolApartUptoRow, standIns := [], harness := (true, "76f868843974ef8df40c8d3575026922d3c237b1335b10e8ea020dd5aae7afd7"), looks := false }, kinds := [], alts := [], laidByText := true, laidKinds := [.data, .data], laidTests := true, laidLooks := .later }
def ColdvolApartUptoCardSaid : Prop := Claim7.holds Tryd.pinned (.plain (OpenSpec.upto coldvolApartSpec)) coldvolApartUptoCard

/-- THE SECOND FORM's CARD OF 'munimentlaw15.ColdvolPlays'. -/
def coldvolPlaysUptoCard : Claim7 := { stood := { row := coldvolPlaysUptoRow, standIns := [], harness := (true, "76f868843974ef8df40c8d3575026922d3c237b1335b10e8ea020dd5aae7afd7"), looks := false }, kinds := [], alts := [], laidByText := true, laidKinds := [.data, .data], laidTests := true, laidLooks := .later }
def ColdvolPlaysUptoCardSaid : Prop := Claim7.holds Tryd.pinned (.plain (OpenSpec.upto coldvolPlaysSpec)) coldvolPlaysUptoCard

/-- THE SECOND FORM's CARD OF 'munimentlaw15.ColdvolForged'. -/
def coldvolForgedUptoCard : Claim7 := { stood := { row := coldvolForgedUptoRow, standIns := [], harness := (true, "76f868843974ef8df40c8d3575026922d3c237b1335b10e8ea020dd5aae7afd7"), looks := false }, kinds := [], alts := [], laidByText := true, laidKinds := [.data, .data], laidTests := true, laidLooks := .later }
def ColdvolForgedUptoCardSaid : Prop := Claim7.holds Tryd.pinned (.plain (OpenSpec.upto coldvolForgedSpec)) coldvolForgedUptoCard

/-- THE SECOND FORM's CARD OF 'munimentlaw15.ColdvolRots'. -/
def coldvolRotsUptoCard : Claim7 := { stood := { row := coldvolRotsUptoRow, standIns := [], harness := (true, "76f868843974ef8df40c8d3575026922d3c237b1335b10e8ea020dd5aae7afd7"), looks := false }, kinds := [], alts := [], laidByText := true, laidKinds := [.data, .data], laidTests := true, laidLooks := .later }
def ColdvolRotsUptoCardSaid : Prop := Claim7.holds Tryd.pinned (.plain (OpenSpec.upto coldvolRotsSpec)) coldvolRotsUptoCard

/-- THE SECOND FORM's CARD OF 'munimentlaw15.ColdvolCrashes'. -/
def coldvolCrashesUptoCard : Claim7 := { stood := { row := coldvolCrashesUptoRow, standIns := [], harness := (true, "76f868843974ef8df40c8d3575026922d3c237b1335b10e8ea020dd5aae7afd7"), looks := false }, kinds := [], alts := [], laidByText := true, laidKinds := [.data, .data], laidTests := true, laidLooks := .later }
def ColdvolCrashesUptoCardSaid : Prop := Claim7.holds Tryd.pinned (.plain (OpenSpec.upto coldvolCrashesSpec)) coldvolCrashesUptoCard
end Rows
end Go.Proofs.YtloffgoenaomkaaDoor
