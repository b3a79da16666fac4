/-
  DERIVED. GIVEN WITH THE SEED: THE CARDS: each row of YtnflnbdlgdjfmabGreatDoorRows.lean that lists a variable, with what it lists TIED to the program's text (the seventh form; the later family's looks); each row that meets fmt, with fmt's text TOLD by the authors' own Lean function (tested against real Go, not proved from fmt's source: count such statements apart). THE CARD IS WHAT COUNTS. Prove the row's statement (the work); the ties are given (YtnflnbdlgdjfmabGreatDoorTie.lean); close each card by the builder's one call (the guide's Derived/Test/ToyasCard.lean, 'card_holds'). Laid BY PROGRAM, IN A SANDBOX (cutbox-door.mjs). By AI agents, Wed Nov 11 2026. No macro, syntax, notation, axiom, sorry.
-/
import Derived.Test.YtnflnbdlgdjfmabGreatDoorRows
import GoSem.ClaimSeven
namespace Go.Proofs.YtnflnbdlgdjfmabGreatDoor
namespace Rows

/-- THE TIED CARD OF 'chaperonelaw.RunTells'. -/
def runTellsCard : Claim7 := { stood := { row := runTellsRow, standIns := [], harness := (true, "367feb2ee04bfb8ba7d7e06533eceb992d88f7a389f4b1c694e00927a1b42850"), looks := true }, kinds := [], alts := [], laidByText := true, laidKinds := [.data, .data, .data, .data, .sentinel, .sentinel, .data, .data, .data, .pinned], laidTests := true, laidLooks := .later }
def RunTellsCardSaid : Prop := Claim7.holds Tryz.pinned (.plain (OpenSpec.ofChange runTellsSpec)) runTellsCard

/-- THE TIED CARD OF 'chaperonelaw.TermParses'. -/
def termParsesCard : Claim7 := { stood := { row := termParsesRow, standIns := [], harness := (true, "367feb2ee04bfb8ba7d7e06533eceb992d88f7a389f4b1c694e00927a1b42850"), looks := true }, kinds := [], alts := [], laidByText := true, laidKinds := [.data, .data, .data, .data, .sentinel, .sentinel, .listed, .data, .data, .data, .data, .pinned], laidTests := true, laidLooks := .later }
def TermParsesCardSaid : Prop := Claim7.holds Tryz.pinned (.plain (OpenSpec.ofChange termParsesSpec)) termParsesCard

/-- THE TIED CARD OF 'chaperonelaw.RunTexts'. -/
def runTextsCard : Claim7 := { stood := { row := runTextsRow, standIns := [], harness := (true, "367feb2ee04bfb8ba7d7e06533eceb992d88f7a389f4b1c694e00927a1b42850"), looks := true }, kinds := [], alts := [], laidByText := true, laidKinds := [.data, .data, .data, .data, .sentinel, .sentinel, .listed, .data, .data, .data, .data, .pinned], laidTests := true, laidLooks := .later }
def RunTextsCardSaid : Prop := Claim7.holds Tryz.pinned (.plain (OpenSpec.ofChange runTextsSpec)) runTextsCard

/-- THE SECOND FORM's CARD OF 'chaperonelaw.RunTells'. -/
def runTellsUptoCard : Claim7 := { stood := { row := runTellsUptoRow, standIns := [], harness := (true, "367feb2ee04bfb8ba7d7e06533eceb992d88f7a389f4b1c694e00927a1b42850"), looks := true }, kinds := [], alts := [], laidByText := true, laidKinds := [.data, .data, .data, .data, .sentinel, .sentinel, .data, .data, .data, .pinned], laidTests := true, laidLooks := .later }
def RunTellsUptoCardSaid : Prop := Claim7.holds Tryz.pinned (.plain (OpenSpec.upto runTellsSpec)) runTellsUptoCard

/-- THE SECOND FORM's CARD OF 'chaperonelaw.TermParses'. -/
def termParsesUptoCard : Claim7 := { stood := { row := termParsesUptoRow, standIns := [], harness := (true, "367feb2ee04bfb8ba7d7e06533eceb992d88f7a389f4b1c694e00927a1b42850"), looks := true }, kinds := [], alts := [], laidByText := true, laidKinds := [.data, .data, .data, .data, .sentinel, .sentinel, .listed, .data, .data, .data, .data, .pinned], laidTests := true, laidLooks := .later }
def TermParsesUptoCardSaid : Prop := Claim7.holds Tryz.pinned (.plain (OpenSpec.upto termParsesSpec)) termParsesUptoCard

/-- THE SECOND FORM's CARD OF 'chaperonelaw.RunTexts'. -/
def runTextsUptoCard : Claim7 := { stood := { row := runTextsUptoRow, standIns := [], harness := (true, "367feb2ee04bfb8ba7d7e06533eceb992d88f7a389f4b1c694e00927a1b42850"), looks := true }, kinds := [], alts := [], laidByText := true, laidKinds := [.data, .data, .data, .data, .sentinel, .sentinel, .listed, .data, .data, .data, .data, .pinned], laidTests := true, laidLooks := .later }
def RunTextsUptoCardSaid : Prop := Claim7.holds Tryz.pinned (.plain (OpenSpec.upto runTextsSpec)) runTextsUptoCard
end Rows
end Go.Proofs.YtnflnbdlgdjfmabGreatDoor
