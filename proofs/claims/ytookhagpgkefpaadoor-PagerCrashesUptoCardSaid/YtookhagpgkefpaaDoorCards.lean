/-
  DERIVED. GIVEN WITH THE SEED: THE CARDS: each row of YtookhagpgkefpaaDoorRows.lean that lists a variable, with what it lists TIED to the program's text (the seventh form; the later family's looks); each row that meets fmt, with fmt's text TOLD by the authors' own Lean function (tested against real Go, not proved from fmt's source: count such statements apart). THE CARD IS WHAT COUNTS. Prove the row's statement (the work); the ties are given (YtookhagpgkefpaaDoorTie.lean); close each card by the builder's one call (the guide's Derived/Test/ToyasCard.lean, 'card_holds'). Laid BY PROGRAM, IN A SANDBOX (cutbox-door.mjs). By AI agents, Wed Nov 11 2026. No macro, syntax, notation, axiom, sorry.
-/
import Derived.Test.YtookhagpgkefpaaDoorRows
import GoSem.ClaimSeven
namespace Go.Proofs.YtookhagpgkefpaaDoor
namespace Rows

/-- THE TIED CARD OF 'munimentlaw09.PagerPlays'. -/
def pagerPlaysCard : Claim7 := { stood := { row := pagerPlaysRow, standIns := [], harness := (true, "74cfad71164b66f0128f116643ef0cd002dfbf46428e367150dc41a512db20d4"), looks := false }, kinds := [], alts := [], laidByText := true, laidKinds := [.data], laidTests := true, laidLooks := .later }
def PagerPlaysCardSaid : Prop := Claim7.holds Tryd.pinned (.plain (OpenSpec.ofChange pagerPlaysSpec)) pagerPlaysCard

/-- THE TIED CARD OF 'munimentlaw09.PagerRots'. -/
def pagerRotsCard : Claim7 := { stood := { row := pagerRotsRow, standIns := [], harness := (true, "74cfad71164b66f0128f116643ef0cd002dfbf46428e367150dc41a512db20d4"), looks := false }, kinds := [], alts := [], laidByText := true, laidKinds := [.data], laidTests := true, laidLooks := .later }
def PagerRotsCardSaid : Prop := Claim7.holds Tryd.pinned (.plain (OpenSpec.ofChange pagerRotsSpec)) pagerRotsCard

/-- THE TIED CARD OF 'munimentlaw09.PagerFormats'. -/
def pagerFormatsCard : Claim7 := { stood := { row := pagerFormatsRow, standIns := [], harness := (true, "74cfad71164b66f0128f116643ef0cd002dfbf46428e367150dc41a512db20d4"), looks := false }, kinds := [], alts := [], laidByText := true, laidKinds := [.data], laidTests := true, laidLooks := .later }
def PagerFormatsCardSaid : Prop := Claim7.holds Tryd.pinned (.plain (OpenSpec.ofChange pagerFormatsSpec)) pagerFormatsCard

/-- THE TIED CARD OF 'munimentlaw09.PagerKeeps'. -/
def pagerKeepsCard : Claim7 := { stood := { row := pagerKeepsRow, standIns := [], harness := (true, "74cfad71164b66f0128f116643ef0cd002dfbf46428e367150dc41a512db20d4"), looks := false }, kinds := [], alts := [], laidByText := true, laidKinds := [.data], laidTests := true, laidLooks := .later }
def PagerKeepsCardSaid : Prop := Claim7.holds Tryd.pinned (.plain (OpenSpec.ofChange pagerKeepsSpec)) pagerKeepsCard

/-- THE TIED CARD OF 'munimentlaw09.PagerCrashes'. -/
def pagerCrashesCard : Claim7 := { stood := { row := pagerCrashesRow, standIns := [], harness := (true, "74cfad71164b66f0128f116643ef0cd002dfbf46428e367150dc41a512db20d4"), looks := false }, kinds := [], alts := [], laidByText := true, laidKinds := [.data], laidTests := true, laidLooks := .later }
def PagerCrashesCardSaid : Prop := Claim7.holds Tryd.pinned (.plain (OpenSpec.ofChange pagerCrashesSpec)) pagerCrashesCard

/-- THE SECOND FORM's CARD OF 'munimentlaw09.PagerPlays'. -/
def pagerPlaysUptoCard : Claim7 := { stood := { row := pagerPlaysUptoRow, standIns := [], harness := (true, "74cfad71164b66f0128f116643ef0cd002dfbf46428e367150dc41a512db20d4"), looks := false }, kinds := [], alts := [], laidByText := true, laidKinds := [.data], laidTests := true, laidLooks := .later }
def PagerPlaysUptoCardSaid : Prop := Claim7.holds Tryd.pinned (.plain (OpenSpec.upto pagerPlaysSpec)) pagerPlaysUptoCard

/-- THE SECOND FORM's CARD OF 'munimentlaw09.PagerRots'. -/
def pagerRotsUptoCard : Claim7 := { stood := { row := pagerRotsUptoRow, standIns := [], harness := (true, "74cfad71164b66f0128f116643ef0cd002dfbf46428e367150dc41a512db20d4"), looks := false }, kinds := [], alts := [], laidByText := true, laidKinds := [.data], laidTests := true, laidLooks := .later }
def PagerRotsUptoCardSaid : Prop := Claim7.holds Tryd.pinned (.plain (OpenSpec.upto pagerRotsSpec)) pagerRotsUptoCard

/-- THE SECOND FORM's CARD OF 'munimentlaw09.PagerFormats'. -/
def pagerFormatsUptoCard : Claim7 := { stood := { row := pagerFormatsUptoRow, standIns := [], harness := (true, "74cfad71164b66f0128f116643ef0cd002dfbf46428e367150dc41a512db20d4"), looks := false }, kinds := [], alts := [], laidByText := true, laidKinds := [.data], laidTests := true, laidLooks := .later }
def PagerFormatsUptoCardSaid : Prop := Claim7.holds Tryd.pinned (.plain (OpenSpec.upto pagerFormatsSpec)) pagerFormatsUptoCard

/-- THE SECOND FORM's CARD OF 'munimentlaw09.PagerKeeps'. -/
def pagerKeepsUptoCard : Claim7 := { stood := { row := pagerKeepsUptoRow, standIns := [], harness := (true, "74cfad71164b66f0128f116643ef0cd002dfbf46428e367150dc41a512db20d4"), looks := false }, kinds := [], alts := [], laidByText := true, laidKinds := [.data], laidTests := true, laidLooks := .later }
def PagerKeepsUptoCardSaid : Prop := Claim7.holds Tryd.pinned (.plain (OpenSpec.upto pagerKeepsSpec)) pagerKeepsUptoCard

/-- THE SECOND FORM's CARD OF 'munimentlaw09.PagerCrashes'. -/
def pagerCrashesUptoCard : Claim7 := { stood := { row := pagerCrashesUptoRow, standIns := [], harness := (true, "74cfad71164b66f0128f116643ef0cd002dfbf46428e367150dc41a512db20d4"), looks := false }, kinds := [], alts := [], laidByText := true, laidKinds := [.data], laidTests := true, laidLooks := .later }
def PagerCrashesUptoCardSaid : Prop := Claim7.holds Tryd.pinned (.plain (OpenSpec.upto pagerCrashesSpec)) pagerCrashesUptoCard
end Rows
end Go.Proofs.YtookhagpgkefpaaDoor
