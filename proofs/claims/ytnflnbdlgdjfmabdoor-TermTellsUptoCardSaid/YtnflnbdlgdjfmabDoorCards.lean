/-
  DERIVED. GIVEN WITH THE SEED: THE CARDS: each row of YtnflnbdlgdjfmabDoorRows.lean that lists a variable, with what it lists TIED to the program's text (the seventh form; the later family's looks); each row that meets fmt, with fmt's text TOLD by the authors' own Lean function (tested against real Go, not proved from fmt's source: count such statements apart). THE CARD IS WHAT COUNTS. Prove the row's statement (the work); the ties are given (YtnflnbdlgdjfmabDoorTie.lean); close each card by the builder's one call (the guide's Derived/Test/ToyasCard.lean, 'card_holds'). Laid BY PROGRAM, IN A SANDBOX (cutbox-door.mjs). By AI agents, Wed Nov 11 2026. No macro, syntax, notation, axiom, sorry.
-/
import Derived.Test.YtnflnbdlgdjfmabDoorRows
import GoSem.ClaimSeven
namespace Go.Proofs.YtnflnbdlgdjfmabDoor
namespace Rows

/-- THE TIED CARD OF 'chaperonekeep.TermBack'. -/
def termBackCard : Claim7 := { stood := { row := termBackRow, standIns := [], harness := (true, "975bd748f0f711dee724cd6cf43ad9821af678866b7fbbc7915a5e5dcbfc1e49"), looks := true }, kinds := [], alts := [], laidByText := true, laidKinds := [.data, .data, .data, .data, .sentinel, .sentinel, .data, .data, .data, .pinned], laidTests := true, laidLooks := .later }
def TermBackCardSaid : Prop := Claim7.holds Tryd.pinned (.plain (OpenSpec.ofChange termBackSpec)) termBackCard

/-- THE TIED CARD OF 'chaperonelaw.TermTells'. -/
def termTellsCard : Claim7 := { stood := { row := termTellsRow, standIns := [], harness := (true, "975bd748f0f711dee724cd6cf43ad9821af678866b7fbbc7915a5e5dcbfc1e49"), looks := true }, kinds := [], alts := [], laidByText := true, laidKinds := [.data, .data, .data, .data, .sentinel, .sentinel, .listed, .data, .data, .data, .data, .pinned], laidTests := true, laidLooks := .later }
def TermTellsCardSaid : Prop := Claim7.holds Tryd.pinned (.plain (OpenSpec.ofChange termTellsSpec)) termTellsCard

/-- THE TIED CARD OF 'chaperonetop.TopTexts'. -/
def topTextsCard : Claim7 := { stood := { row := topTextsRow, standIns := [], harness := (true, "975bd748f0f711dee724cd6cf43ad9821af678866b7fbbc7915a5e5dcbfc1e49"), looks := true }, kinds := [], alts := [], laidByText := true, laidKinds := [.data, .data, .data, .data, .sentinel, .sentinel, .data, .data, .data, .pinned], laidTests := true, laidLooks := .later }
def TopTextsCardSaid : Prop := Claim7.holds Tryd.pinned (.plain (OpenSpec.ofChange topTextsSpec)) topTextsCard

/-- THE TIED CARD OF 'chaperonetop.TopErased'. -/
def topErasedCard : Claim7 := { stood := { row := topErasedRow, standIns := [], harness := (true, "975bd748f0f711dee724cd6cf43ad9821af678866b7fbbc7915a5e5dcbfc1e49"), looks := true }, kinds := [], alts := [], laidByText := true, laidKinds := [.data, .data, .data, .data, .sentinel, .sentinel, .data, .data, .data, .pinned], laidTests := true, laidLooks := .later }
def TopErasedCardSaid : Prop := Claim7.holds Tryd.pinned (.plain (OpenSpec.ofChange topErasedSpec)) topErasedCard

/-- THE TIED CARD OF 'chaperonetop.TopBlame'. -/
def topBlameCard : Claim7 := { stood := { row := topBlameRow, standIns := [], harness := (true, "975bd748f0f711dee724cd6cf43ad9821af678866b7fbbc7915a5e5dcbfc1e49"), looks := true }, kinds := [], alts := [], laidByText := true, laidKinds := [.data, .data, .data, .data, .sentinel, .sentinel, .data, .data, .data, .pinned], laidTests := true, laidLooks := .later }
def TopBlameCardSaid : Prop := Claim7.holds Tryd.pinned (.plain (OpenSpec.ofChange topBlameSpec)) topBlameCard

/-- THE TIED CARD OF 'chaperonetop.TopSure'. -/
def topSureCard : Claim7 := { stood := { row := topSureRow, standIns := [], harness := (true, "975bd748f0f711dee724cd6cf43ad9821af678866b7fbbc7915a5e5dcbfc1e49"), looks := true }, kinds := [], alts := [], laidByText := true, laidKinds := [.data, .data, .data, .data, .sentinel, .sentinel, .data, .data, .data, .pinned], laidTests := true, laidLooks := .later }
def TopSureCardSaid : Prop := Claim7.holds Tryd.pinned (.plain (OpenSpec.ofChange topSureSpec)) topSureCard

/-- THE SECOND FORM's CARD OF 'chaperonekeep.TermBack'. -/
def termBackUptoCard : Claim7 := { stood := { row := termBackUptoRow, standIns := [], harness := (true, "975bd748f0f711dee724cd6cf43ad9821af678866b7fbbc7915a5e5dcbfc1e49"), looks := true }, kinds := [], alts := [], laidByText := true, laidKinds := [.data, .data, .data, .data, .sentinel, .sentinel, .data, .data, .data, .pinned], laidTests := true, laidLooks := .later }
def TermBackUptoCardSaid : Prop := Claim7.holds Tryd.pinned (.plain (OpenSpec.upto termBackSpec)) termBackUptoCard

/-- THE SECOND FORM's CARD OF 'chaperonelaw.TermTells'. -/
def termTellsUptoCard : Claim7 := { stood := { row := termTellsUptoRow, standIns := [], harness := (true, "975bd748f0f711dee724cd6cf43ad9821af678866b7fbbc7915a5e5dcbfc1e49"), looks := true }, kinds := [], alts := [], laidByText := true, laidKinds := [.data, .data, .data, .data, .sentinel, .sentinel, .listed, .data, .data, .data, .data, .pinned], laidTests := true, laidLooks := .later }
def TermTellsUptoCardSaid : Prop := Claim7.holds Tryd.pinned (.plain (OpenSpec.upto termTellsSpec)) termTellsUptoCard

/-- THE SECOND FORM's CARD OF 'chaperonetop.TopTexts'. -/
def topTextsUptoCard : Claim7 := { stood := { row := topTextsUptoRow, standIns := [], harness := (true, "975bd748f0f711dee724cd6cf43ad9821af678866b7fbbc7915a5e5dcbfc1e49"), looks := true }, kinds := [], alts := [], laidByText := true, laidKinds := [.data, .data, .data, .data, .sentinel, .sentinel, .data, .data, .data, .pinned], laidTests := true, laidLooks := .later }
def TopTextsUptoCardSaid : Prop := Claim7.holds Tryd.pinned (.plain (OpenSpec.upto topTextsSpec)) topTextsUptoCard

/-- THE SECOND FORM's CARD OF 'chaperonetop.TopErased'. -/
def topErasedUptoCard : Claim7 := { stood := { row := topErasedUptoRow, standIns := [], harness := (true, "975bd748f0f711dee724cd6cf43ad9821af678866b7fbbc7915a5e5dcbfc1e49"), looks := true }, kinds := [], alts := [], laidByText := true, laidKinds := [.data, .data, .data, .data, .sentinel, .sentinel, .data, .data, .data, .pinned], laidTests := true, laidLooks := .later }
def TopErasedUptoCardSaid : Prop := Claim7.holds Tryd.pinned (.plain (OpenSpec.upto topErasedSpec)) topErasedUptoCard

/-- THE SECOND FORM's CARD OF 'chaperonetop.TopBlame'. -/
def topBlameUptoCard : Claim7 := { stood := { row := topBlameUptoRow, standIns := [], harness := (true, "975bd748f0f711dee724cd6cf43ad9821af678866b7fbbc7915a5e5dcbfc1e49"), looks := true }, kinds := [], alts := [], laidByText := true, laidKinds := [.data, .data, .data, .data, .sentinel, .sentinel, .data, .data, .data, .pinned], laidTests := true, laidLooks := .later }
def TopBlameUptoCardSaid : Prop := Claim7.holds Tryd.pinned (.plain (OpenSpec.upto topBlameSpec)) topBlameUptoCard

/-- THE SECOND FORM's CARD OF 'chaperonetop.TopSure'. -/
def topSureUptoCard : Claim7 := { stood := { row := topSureUptoRow, standIns := [], harness := (true, "975bd748f0f711dee724cd6cf43ad9821af678866b7fbbc7915a5e5dcbfc1e49"), looks := true }, kinds := [], alts := [], laidByText := true, laidKinds := [.data, .data, .data, .data, .sentinel, .sentinel, .data, .data, .data, .pinned], laidTests := true, laidLooks := .later }
def TopSureUptoCardSaid : Prop := Claim7.holds Tryd.pinned (.plain (OpenSpec.upto topSureSpec)) topSureUptoCard
end Rows
end Go.Proofs.YtnflnbdlgdjfmabDoor
