/-
  DERIVED. GIVEN WITH THE SEED: THE CARDS: each row of YtgcckfaljfkkhaaDoorRows.lean that lists a variable, with what it lists TIED to the program's text (the seventh form; the later family's looks); each row that meets fmt, with fmt's text TOLD by the authors' own Lean function (tested against real Go, not proved from fmt's source: count such statements apart). THE CARD IS WHAT COUNTS. Prove the row's statement (the work); the ties are given (YtgcckfaljfkkhaaDoorTie.lean); close each card by the builder's one call (the guide's Derived/Test/ToyasCard.lean, 'card_holds'). Laid BY PROGRAM, IN A SANDBOX (cutbox-door.mjs). By AI agents, Wed Nov 11 2026. No macro, syntax, notation, axiom, sorry.
-/
import Derived.Test.YtgcckfaljfkkhaaDoorRows
import GoSem.ClaimSeven
namespace Go.Proofs.YtgcckfaljfkkhaaDoor
namespace Rows

/-- THE TIED CARD OF 'munimentlaw14.HotlogOpens'. -/
def hotlogOpensCard : Claim7 := { stood := { row := hotlogOpensRow, standIns := [], harness := (true, "e7ece12ac0e804e916652731647e307fb36893112fe892a412335745c3234664"), looks := false }, kinds := [], alts := [], laidByText := true, laidKinds := [.data, .data], laidTests := true, laidLooks := .later }
def HotlogOpensCardSaid : Prop := Claim7.holds Tryd.pinned (.plain (OpenSpec.ofChange hotlogOpensSpec)) hotlogOpensCard

/-- THE TIED CARD OF 'munimentlaw14.HotlogAgain'. -/
def hotlogAgainCard : Claim7 := { stood := { row := hotlogAgainRow, standIns := [], harness := (true, "e7ece12ac0e804e916652731647e307fb36893112fe892a412335745c3234664"), looks := false }, kinds := [], alts := [], laidByText := true, laidKinds := [.data, .data], laidTests := true, laidLooks := .later }
def HotlogAgainCardSaid : Prop := Claim7.holds Tryd.pinned (.plain (OpenSpec.ofChange hotlogAgainSpec)) hotlogAgainCard

/-- THE TIED CARD OF 'munimentlaw14.HotlogPlays'. -/
def hotlogPlaysCard : Claim7 := { stood := { row := hotlogPlaysRow, standIns := [], harness := (true, "e7ece12ac0e804e916652731647e307fb36893112fe892a412335745c3234664"), looks := false }, kinds := [], alts := [], laidByText := true, laidKinds := [.data, .data], laidTests := true, laidLooks := .later }
def HotlogPlaysCardSaid : Prop := Claim7.holds Tryd.pinned (.plain (OpenSpec.ofChange hotlogPlaysSpec)) hotlogPlaysCard

/-- THE TIED CARD OF 'munimentlaw14.HotlogEvery'. -/
def hotlogEveryCard : Claim7 := { stood := { row := hotlogEveryRow, standIns := [], harness := (true, "e7ece12ac0e804e916652731647e307fb36893112fe892a412335745c3234664"), looks := false }, kinds := [], alts := [], laidByText := true, laidKinds := [.data, .data], laidTests := true, laidLooks := .later }
def HotlogEveryCardSaid : Prop := Claim7.holds Tryd.pinned (.plain (OpenSpec.ofChange hotlogEverySpec)) hotlogEveryCard

/-- THE TIED CARD OF 'munimentlaw14.HotlogRoom'. -/
def hotlogRoomCard : Claim7 := { stood := { row := hotlogRoomRow, standIns := [], harness := (true, "e7ece12ac0e804e916652731647e307fb36893112fe892a412335745c3234664"), looks := false }, kinds := [], alts := [], laidByText := true, laidKinds := [.data, .data], laidTests := true, laidLooks := .later }
def HotlogRoomCardSaid : Prop := Claim7.holds Tryd.pinned (.plain (OpenSpec.ofChange hotlogRoomSpec)) hotlogRoomCard

/-- THE TIED CARD OF 'munimentlaw14.HotlogRots'. -/
def hotlogRotsCard : Claim7 := { stood := { row := hotlogRotsRow, standIns := [], harness := (true, "e7ece12ac0e804e916652731647e307fb36893112fe892a412335745c3234664"), looks := false }, kinds := [], alts := [], laidByText := true, laidKinds := [.data, .data], laidTests := true, laidLooks := .later }
def HotlogRotsCardSaid : Prop := Claim7.holds Tryd.pinned (.plain (OpenSpec.ofChange hotlogRotsSpec)) hotlogRotsCard

/-- THE SECOND FORM's CARD OF 'munimentlaw14.HotlogOpens'. -/
def hotlogOpensUptoCard : Claim7 := { stood := { row := hotlogOpensUptoRow, standIns := [], harness := (true, "e7ece12ac0e804e916652731647e307fb36893112fe892a412335745c3234664"), looks := false }, kinds := [], alts := [], laidByText := true, laidKinds := [.data, .data], laidTests := true, laidLooks := .later }
def HotlogOpensUptoCardSaid : Prop := Claim7.holds Tryd.pinned (.plain (OpenSpec.upto hotlogOpensSpec)) hotlogOpensUptoCard

/-- THE SECOND FORM's CARD OF 'munimentlaw14.HotlogAgain'. -/
def hotlogAgainUptoCard : Claim7 := { stood := { row := hotlogAgainUptoRow, standIns := [], harness := (true, "e7ece12ac0e804e916652731647e307fb36893112fe892a412335745c3234664"), looks := false }, kinds := [], alts := [], laidByText := true, laidKinds := [.data, .data], laidTests := true, laidLooks := .later }
def HotlogAgainUptoCardSaid : Prop := Claim7.holds Tryd.pinned (.plain (OpenSpec.upto hotlogAgainSpec)) hotlogAgainUptoCard

/-- THE SECOND FORM's CARD OF 'munimentlaw14.HotlogPlays'. -/
def hotlogPlaysUptoCard : Claim7 := { stood := { row := hotlogPlaysUptoRow, standIns := [], harness := (true, "e7ece12ac0e804e916652731647e307fb36893112fe892a412335745c3234664"), looks := false }, kinds := [], alts := [], laidByText := true, laidKinds := [.data, .data], laidTests := true, laidLooks := .later }
def HotlogPlaysUptoCardSaid : Prop := Claim7.holds Tryd.pinned (.plain (OpenSpec.upto hotlogPlaysSpec)) hotlogPlaysUptoCard

/-- THE SECOND FORM's CARD OF 'munimentlaw14.HotlogEvery'. -/
def hotlogEveryUptoCard : Claim7 := { stood := { row := hotlogEveryUptoRow, standIns := [], harness := (true, "e7ece12ac0e804e916652731647e307fb36893112fe892a412335745c3234664"), looks := false }, kinds := [], alts := [], laidByText := true, laidKinds := [.data, .data], laidTests := true, laidLooks := .later }
def HotlogEveryUptoCardSaid : Prop := Claim7.holds Tryd.pinned (.plain (OpenSpec.upto hotlogEverySpec)) hotlogEveryUptoCard

/-- THE SECOND FORM's CARD OF 'munimentlaw14.HotlogRoom'. -/
def hotlogRoomUptoCard : Claim7 := { stood := { row := hotlogRoomUptoRow, standIns := [], harness := (true, "e7ece12ac0e804e916652731647e307fb36893112fe892a412335745c3234664"), looks := false }, kinds := [], alts := [], laidByText := true, laidKinds := [.data, .data], laidTests := true, laidLooks := .later }
def HotlogRoomUptoCardSaid : Prop := Claim7.holds Tryd.pinned (.plain (OpenSpec.upto hotlogRoomSpec)) hotlogRoomUptoCard

/-- THE SECOND FORM's CARD OF 'munimentlaw14.HotlogRots'. -/
def hotlogRotsUptoCard : Claim7 := { stood := { row := hotlogRotsUptoRow, standIns := [], harness := (true, "e7ece12ac0e804e916652731647e307fb36893112fe892a412335745c3234664"), looks := false }, kinds := [], alts := [], laidByText := true, laidKinds := [.data, .data], laidTests := true, laidLooks := .later }
def HotlogRotsUptoCardSaid : Prop := Claim7.holds Tryd.pinned (.plain (OpenSpec.upto hotlogRotsSpec)) hotlogRotsUptoCard
end Rows
end Go.Proofs.YtgcckfaljfkkhaaDoor
