/-
  DERIVED. GIVEN WITH THE SEED: THE CARDS: each row of YtnflnbdlgdjfmaaDoorRows.lean that lists a variable, with what it lists TIED to the program's text (the seventh form; the later family's looks); each row that meets fmt, with fmt's text TOLD by the authors' own Lean function (tested against real Go, not proved from fmt's source: count such statements apart). THE CARD IS WHAT COUNTS. Prove the row's statement (the work); the ties are given (YtnflnbdlgdjfmaaDoorTie.lean); close each card by the builder's one call (the guide's Derived/Test/ToyasCard.lean, 'card_holds'). Laid BY PROGRAM, IN A SANDBOX (cutbox-door.mjs). By AI agents, Wed Nov 11 2026. No macro, syntax, notation, axiom, sorry.
-/
import Derived.Test.YtnflnbdlgdjfmaaDoorRows
import GoSem.ClaimSeven
namespace Go.Proofs.YtnflnbdlgdjfmaaDoor
namespace Rows

/-- THE TIED CARD OF 'chaperonetop.TopNever'. -/
def topNeverCard : Claim7 := { stood := { row := topNeverRow, standIns := [], harness := (true, "24e5df54dd656a14d6f04c0de276c389bfa7d0eb7c07bd2ae50da6bb8b7aa639"), looks := true }, kinds := [], alts := [], laidByText := true, laidKinds := [.data, .data, .data, .data, .sentinel, .sentinel, .data, .data, .data, .pinned], laidTests := true, laidLooks := .later }
def TopNeverCardSaid : Prop := Claim7.holds Tryd.pinned (.plain (OpenSpec.ofChange topNeverSpec)) topNeverCard

/-- THE TIED CARD OF 'chaperonelaw.CheckTells'. -/
def checkTellsCard : Claim7 := { stood := { row := checkTellsRow, standIns := [], harness := (true, "24e5df54dd656a14d6f04c0de276c389bfa7d0eb7c07bd2ae50da6bb8b7aa639"), looks := true }, kinds := [], alts := [], laidByText := true, laidKinds := [.data], laidTests := true, laidLooks := .later }
def CheckTellsCardSaid : Prop := Claim7.holds Tryd.pinned (.plain (OpenSpec.ofChange checkTellsSpec)) checkTellsCard

/-- THE TIED CARD OF 'chaperonetop.TopLoose'. -/
def topLooseCard : Claim7 := { stood := { row := topLooseRow, standIns := [], harness := (true, "24e5df54dd656a14d6f04c0de276c389bfa7d0eb7c07bd2ae50da6bb8b7aa639"), looks := true }, kinds := [], alts := [], laidByText := true, laidKinds := [.data, .data, .data, .data, .sentinel, .sentinel, .data, .data, .data, .pinned], laidTests := true, laidLooks := .later }
def TopLooseCardSaid : Prop := Claim7.holds Tryd.pinned (.plain (OpenSpec.ofChange topLooseSpec)) topLooseCard

/-- THE TIED CARD OF 'chaperonekeep.CheckLoose'. -/
def checkLooseCard : Claim7 := { stood := { row := checkLooseRow, standIns := [], harness := (true, "24e5df54dd656a14d6f04c0de276c389bfa7d0eb7c07bd2ae50da6bb8b7aa639"), looks := true }, kinds := [], alts := [], laidByText := true, laidKinds := [.data], laidTests := true, laidLooks := .later }
def CheckLooseCardSaid : Prop := Claim7.holds Tryd.pinned (.plain (OpenSpec.ofChange checkLooseSpec)) checkLooseCard

/-- THE TIED CARD OF 'chaperonekeep.CheckSites'. -/
def checkSitesCard : Claim7 := { stood := { row := checkSitesRow, standIns := [], harness := (true, "24e5df54dd656a14d6f04c0de276c389bfa7d0eb7c07bd2ae50da6bb8b7aa639"), looks := true }, kinds := [], alts := [], laidByText := true, laidKinds := [.data], laidTests := true, laidLooks := .later }
def CheckSitesCardSaid : Prop := Claim7.holds Tryd.pinned (.plain (OpenSpec.ofChange checkSitesSpec)) checkSitesCard

/-- THE TIED CARD OF 'chaperonetop.TopMore'. -/
def topMoreCard : Claim7 := { stood := { row := topMoreRow, standIns := [], harness := (true, "24e5df54dd656a14d6f04c0de276c389bfa7d0eb7c07bd2ae50da6bb8b7aa639"), looks := true }, kinds := [], alts := [], laidByText := true, laidKinds := [.data, .data, .data, .data, .sentinel, .sentinel, .data, .data, .data, .pinned], laidTests := true, laidLooks := .later }
def TopMoreCardSaid : Prop := Claim7.holds Tryd.pinned (.plain (OpenSpec.ofChange topMoreSpec)) topMoreCard

/-- THE TIED CARD OF 'chaperonekeep.CheckSure'. -/
def checkSureCard : Claim7 := { stood := { row := checkSureRow, standIns := [], harness := (true, "24e5df54dd656a14d6f04c0de276c389bfa7d0eb7c07bd2ae50da6bb8b7aa639"), looks := true }, kinds := [], alts := [], laidByText := true, laidKinds := [.data], laidTests := true, laidLooks := .later }
def CheckSureCardSaid : Prop := Claim7.holds Tryd.pinned (.plain (OpenSpec.ofChange checkSureSpec)) checkSureCard

/-- THE SECOND FORM's CARD OF 'chaperonetop.TopNever'. -/
def topNeverUptoCard : Claim7 := { stood := { row := topNeverUptoRow, standIns := [], harness := (true, "24e5df54dd656a14d6f04c0de276c389bfa7d0eb7c07bd2ae50da6bb8b7aa639"), looks := true }, kinds := [], alts := [], laidByText := true, laidKinds := [.data, .data, .data, .data, .sentinel, .sentinel, .data, .data, .data, .pinned], laidTests := true, laidLooks := .later }
def TopNeverUptoCardSaid : Prop := Claim7.holds Tryd.pinned (.plain (OpenSpec.upto topNeverSpec)) topNeverUptoCard

/-- THE SECOND FORM's CARD OF 'chaperonelaw.CheckTells'. -/
def checkTellsUptoCard : Claim7 := { stood := { row := checkTellsUptoRow, standIns := [], harness := (true, "24e5df54dd656a14d6f04c0de276c389bfa7d0eb7c07bd2ae50da6bb8b7aa639"), looks := true }, kinds := [], alts := [], laidByText := true, laidKinds := [.data], laidTests := true, laidLooks := .later }
def CheckTellsUptoCardSaid : Prop := Claim7.holds Tryd.pinned (.plain (OpenSpec.upto checkTellsSpec)) checkTellsUptoCard

/-- THE SECOND FORM's CARD OF 'chaperonetop.TopLoose'. -/
def topLooseUptoCard : Claim7 := { stood := { row := topLooseUptoRow, standIns := [], harness := (true, "24e5df54dd656a14d6f04c0de276c389bfa7d0eb7c07bd2ae50da6bb8b7aa639"), looks := true }, kinds := [], alts := [], laidByText := true, laidKinds := [.data, .data, .data, .data, .sentinel, .sentinel, .data, .data, .data, .pinned], laidTests := true, laidLooks := .later }
def TopLooseUptoCardSaid : Prop := Claim7.holds Tryd.pinned (.plain (OpenSpec.upto topLooseSpec)) topLooseUptoCard

/-- THE SECOND FORM's CARD OF 'chaperonekeep.CheckLoose'. -/
def checkLooseUptoCard : Claim7 := { stood := { row := checkLooseUptoRow, standIns := [], harness := (true, "24e5df54dd656a14d6f04c0de276c389bfa7d0eb7c07bd2ae50da6bb8b7aa639"), looks := true }, kinds := [], alts := [], laidByText := true, laidKinds := [.data], laidTests := true, laidLooks := .later }
def CheckLooseUptoCardSaid : Prop := Claim7.holds Tryd.pinned (.plain (OpenSpec.upto checkLooseSpec)) checkLooseUptoCard

/-- THE SECOND FORM's CARD OF 'chaperonekeep.CheckSites'. -/
def checkSitesUptoCard : Claim7 := { stood := { row := checkSitesUptoRow, standIns := [], harness := (true, "24e5df54dd656a14d6f04c0de276c389bfa7d0eb7c07bd2ae50da6bb8b7aa639"), looks := true }, kinds := [], alts := [], laidByText := true, laidKinds := [.data], laidTests := true, laidLooks := .later }
def CheckSitesUptoCardSaid : Prop := Claim7.holds Tryd.pinned (.plain (OpenSpec.upto checkSitesSpec)) checkSitesUptoCard

/-- THE SECOND FORM's CARD OF 'chaperonetop.TopMore'. -/
def topMoreUptoCard : Claim7 := { stood := { row := topMoreUptoRow, standIns := [], harness := (true, "24e5df54dd656a14d6f04c0de276c389bfa7d0eb7c07bd2ae50da6bb8b7aa639"), looks := true }, kinds := [], alts := [], laidByText := true, laidKinds := [.data, .data, .data, .data, .sentinel, .sentinel, .data, .data, .data, .pinned], laidTests := true, laidLooks := .later }
def TopMoreUptoCardSaid : Prop := Claim7.holds Tryd.pinned (.plain (OpenSpec.upto topMoreSpec)) topMoreUptoCard

/-- THE SECOND FORM's CARD OF 'chaperonekeep.CheckSure'. -/
def checkSureUptoCard : Claim7 := { stood := { row := checkSureUptoRow, standIns := [], harness := (true, "24e5df54dd656a14d6f04c0de276c389bfa7d0eb7c07bd2ae50da6bb8b7aa639"), looks := true }, kinds := [], alts := [], laidByText := true, laidKinds := [.data], laidTests := true, laidLooks := .later }
def CheckSureUptoCardSaid : Prop := Claim7.holds Tryd.pinned (.plain (OpenSpec.upto checkSureSpec)) checkSureUptoCard
end Rows
end Go.Proofs.YtnflnbdlgdjfmaaDoor
