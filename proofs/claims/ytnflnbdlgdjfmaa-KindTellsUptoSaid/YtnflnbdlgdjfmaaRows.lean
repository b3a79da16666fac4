/-
  NARROWER THAN 'FOR EVERY INPUT', by the rows' own cells (each row's printed sentence says how): KindJoins: loops · KindGrounds: loops · KindFits: loops · KindTells: loops.
  DERIVED. THE GIVEN ROWS OF THIS SEAT. 5 by the template 'for every input the law returns true; each argument reads behind the call as it read before'; 0 by the template 'total and deterministic' (their statements: YtnflnbdlgdjfmaaTotals.lean).
  GIVEN WITH THE SEED: the statements are not yours to turn. If you find one false, say at which input.
  Laid BY PROGRAM, IN A SANDBOX (cutbox-rows.mjs): the forced cells as the released guide's own fill.sh prints them over the translation b7425a29919f21d7… (all of the seat's roots in one cut). By AI agents, Wed Nov 11 2026. No macro, syntax, notation, axiom, sorry.
-/
import Derived.Test.YtnflnbdlgdjfmaaChecked
import GoSem.Claim
import GoSem.ClaimJoined
import GoSem.ClaimMapViews
import Derived.JoinedTies
import Derived.KernelRfl
namespace Go.Proofs.Ytnflnbdlgdjfmaa
/- THE CELL 'sum', in the pinned program and in every row, IS THE sha256 OF THE DUMP (.gsa) THAT YtnflnbdlgdjfmaaProg.lean LOADS. Nothing in Lean hashes anything: it is a label: what it is worth is what the hold of that sum in a sandbox is worth. -/
noncomputable def Try.pinned : Pinned := { name := "ytnflnbdlgdjfmaa", sum := "b7425a29919f21d71d8776f3827d4c9616eddc8c0d5bca571827d4cce77fb8fe", checked := Try.checked }
namespace Rows
def none {H : Type} : Left H := { results := [], args := [] }

/-- 'chaperonelaw.Names': WHATEVER THE INPUT: true; the input reads as it did. -/
def namesSpec : ChangeSpec := { name := "names", fn := fun _ => fun
  | [] => { results := [.lit (.bool true)], args := [] }
  | _ => none }
def namesRow : OpenClaim := { program := "ytnflnbdlgdjfmaa", sum := "b7425a29919f21d71d8776f3827d4c9616eddc8c0d5bca571827d4cce77fb8fe", func := "chaperone/chaperonelaw.Names", spec := "names", apart := false }
def NamesSaid : Prop := namesRow.holds Try.pinned (OpenSpec.ofChange namesSpec)

/-- ITS FALSE NEIGHBOUR: 'it returns false'. Refute it at one input. -/
def namesWrong : ChangeSpec := { name := "names", fn := fun _ => fun
  | [] => { results := [.lit (.bool false)], args := [] }
  | _ => none }
def NamesWrongFalsely : Prop := namesRow.holds Try.pinned (OpenSpec.ofChange namesWrong)

/-- 'chaperonekeep.KindJoins': WHATEVER THE INPUT: true; the input reads as it did. -/
def kindJoinsSpec : ChangeSpec := { name := "kindJoins", fn := fun _ => fun
  | [d1, d2, d3] => { results := [.lit (.bool true)], args := [d1, d2, d3] }
  | _ => none }
def kindJoinsRow : OpenClaim := { program := "ytnflnbdlgdjfmaa", sum := "b7425a29919f21d71d8776f3827d4c9616eddc8c0d5bca571827d4cce77fb8fe", func := "chaperone/chaperonekeep.KindJoins", spec := "kindJoins", recurses := true, loops := true, apart := false }
def KindJoinsSaid : Prop := kindJoinsRow.holds Try.pinned (OpenSpec.ofChange kindJoinsSpec)

/-- ITS FALSE NEIGHBOUR: 'it returns false'. Refute it at one input. -/
def kindJoinsWrong : ChangeSpec := { name := "kindJoins", fn := fun _ => fun
  | [d1, d2, d3] => { results := [.lit (.bool false)], args := [d1, d2, d3] }
  | _ => none }
def KindJoinsWrongFalsely : Prop := kindJoinsRow.holds Try.pinned (OpenSpec.ofChange kindJoinsWrong)

/-- 'chaperonekeep.KindGrounds': WHATEVER THE INPUT: true; the input reads as it did. -/
def kindGroundsSpec : ChangeSpec := { name := "kindGrounds", fn := fun _ => fun
  | [d] => { results := [.lit (.bool true)], args := [d] }
  | _ => none }
def kindGroundsRow : OpenClaim := { program := "ytnflnbdlgdjfmaa", sum := "b7425a29919f21d71d8776f3827d4c9616eddc8c0d5bca571827d4cce77fb8fe", func := "chaperone/chaperonekeep.KindGrounds", spec := "kindGrounds", recurses := true, loops := true, apart := false }
def KindGroundsSaid : Prop := kindGroundsRow.holds Try.pinned (OpenSpec.ofChange kindGroundsSpec)

/-- ITS FALSE NEIGHBOUR: 'it returns false'. Refute it at one input. -/
def kindGroundsWrong : ChangeSpec := { name := "kindGrounds", fn := fun _ => fun
  | [d] => { results := [.lit (.bool false)], args := [d] }
  | _ => none }
def KindGroundsWrongFalsely : Prop := kindGroundsRow.holds Try.pinned (OpenSpec.ofChange kindGroundsWrong)

/-- 'chaperonekeep.KindFits': WHATEVER THE INPUT: true; the input reads as it did. -/
def kindFitsSpec : ChangeSpec := { name := "kindFits", fn := fun _ => fun
  | [d1, d2, d3] => { results := [.lit (.bool true)], args := [d1, d2, d3] }
  | _ => none }
def kindFitsRow : OpenClaim := { program := "ytnflnbdlgdjfmaa", sum := "b7425a29919f21d71d8776f3827d4c9616eddc8c0d5bca571827d4cce77fb8fe", func := "chaperone/chaperonekeep.KindFits", spec := "kindFits", recurses := true, loops := true, apart := false }
def KindFitsSaid : Prop := kindFitsRow.holds Try.pinned (OpenSpec.ofChange kindFitsSpec)

/-- ITS FALSE NEIGHBOUR: 'it returns false'. Refute it at one input. -/
def kindFitsWrong : ChangeSpec := { name := "kindFits", fn := fun _ => fun
  | [d1, d2, d3] => { results := [.lit (.bool false)], args := [d1, d2, d3] }
  | _ => none }
def KindFitsWrongFalsely : Prop := kindFitsRow.holds Try.pinned (OpenSpec.ofChange kindFitsWrong)

/-- 'chaperonelaw.KindTells': WHATEVER THE INPUT: true; the input reads as it did. -/
def kindTellsSpec : ChangeSpec := { name := "kindTells", fn := fun _ => fun
  | [d1, d2] => { results := [.lit (.bool true)], args := [d1, d2] }
  | _ => none }
def kindTellsRow : OpenClaim := { program := "ytnflnbdlgdjfmaa", sum := "b7425a29919f21d71d8776f3827d4c9616eddc8c0d5bca571827d4cce77fb8fe", func := "chaperone/chaperonelaw.KindTells", spec := "kindTells", recurses := true, loops := true, apart := false }
def KindTellsSaid : Prop := kindTellsRow.holds Try.pinned (OpenSpec.ofChange kindTellsSpec)

/-- ITS FALSE NEIGHBOUR: 'it returns false'. Refute it at one input. -/
def kindTellsWrong : ChangeSpec := { name := "kindTells", fn := fun _ => fun
  | [d1, d2] => { results := [.lit (.bool false)], args := [d1, d2] }
  | _ => none }
def KindTellsWrongFalsely : Prop := kindTellsRow.holds Try.pinned (OpenSpec.ofChange kindTellsWrong)

/- THE SECOND FORM. 'bulk': how many values and letters a reading holds, each counted each time it is reached (what is shared counts as often as it is met; a slice's spare places count too). A statement '..UptoSaid' is the law's where the arguments, and the package variables that the reading takes, are together of bulk at most 1048576: NARROWER than '..Said'. Prove '..Said' where nothing that the law and all that it calls make is longer than what came in: it says more and counts as full. Else prove '..UptoSaid'. A law counts once. -/
mutual
def uptoBulk {H : Type} : DataW H → Nat
  | .lit (.string bytes) => bytes.length + 1
  | .lit _ => 1
  | .nil => 1
  | .ptr d => uptoBulk d + 1
  | .slice elems spare => uptoBulkAll elems + uptoBulkAll spare + 1
  | .agg parts => uptoBulkAll parts + 1
  | .iface _ d => uptoBulk d + 1
  | .map entries => uptoBulkEntries entries + 1
  | .held _ => 1
def uptoBulkAll {H : Type} : List (DataW H) → Nat
  | [] => 0
  | d :: r => uptoBulk d + uptoBulkAll r
def uptoBulkEntries {H : Type} : List (Lit × DataW H) → Nat
  | [] => 0
  | x :: r => uptoBulkEntry x + uptoBulkEntries r
def uptoBulkEntry {H : Type} : Lit × DataW H → Nat
  | (.string bytes, d) => bytes.length + uptoBulk d + 1
  | (_, d) => uptoBulk d + 1
 end
def uptoSmall : (H : Type) → List (DataW H) → Bool := fun _ ds => decide (uptoBulkAll ds ≤ 1048576)
def OpenSpec.upto (s : _root_.Go.ChangeSpec) : _root_.Go.OpenSpec := { _root_.Go.OpenSpec.ofChange s with cond := some uptoSmall }

/-- 'chaperonelaw.Names', WHERE WHAT IT READS IS OF BULK AT MOST 1048576: true; the input reads as it did. -/
def namesUptoRow : OpenClaim := { program := "ytnflnbdlgdjfmaa", sum := "b7425a29919f21d71d8776f3827d4c9616eddc8c0d5bca571827d4cce77fb8fe", func := "chaperone/chaperonelaw.Names", spec := "names", apart := false, narrowed := true }
def NamesUptoSaid : Prop := namesUptoRow.holds Try.pinned (OpenSpec.upto namesSpec)

/-- 'chaperonekeep.KindJoins', WHERE WHAT IT READS IS OF BULK AT MOST 1048576: true; the input reads as it did. -/
def kindJoinsUptoRow : OpenClaim := { program := "ytnflnbdlgdjfmaa", sum := "b7425a29919f21d71d8776f3827d4c9616eddc8c0d5bca571827d4cce77fb8fe", func := "chaperone/chaperonekeep.KindJoins", spec := "kindJoins", recurses := true, loops := true, apart := false, narrowed := true }
def KindJoinsUptoSaid : Prop := kindJoinsUptoRow.holds Try.pinned (OpenSpec.upto kindJoinsSpec)

/-- 'chaperonekeep.KindGrounds', WHERE WHAT IT READS IS OF BULK AT MOST 1048576: true; the input reads as it did. -/
def kindGroundsUptoRow : OpenClaim := { program := "ytnflnbdlgdjfmaa", sum := "b7425a29919f21d71d8776f3827d4c9616eddc8c0d5bca571827d4cce77fb8fe", func := "chaperone/chaperonekeep.KindGrounds", spec := "kindGrounds", recurses := true, loops := true, apart := false, narrowed := true }
def KindGroundsUptoSaid : Prop := kindGroundsUptoRow.holds Try.pinned (OpenSpec.upto kindGroundsSpec)

/-- 'chaperonekeep.KindFits', WHERE WHAT IT READS IS OF BULK AT MOST 1048576: true; the input reads as it did. -/
def kindFitsUptoRow : OpenClaim := { program := "ytnflnbdlgdjfmaa", sum := "b7425a29919f21d71d8776f3827d4c9616eddc8c0d5bca571827d4cce77fb8fe", func := "chaperone/chaperonekeep.KindFits", spec := "kindFits", recurses := true, loops := true, apart := false, narrowed := true }
def KindFitsUptoSaid : Prop := kindFitsUptoRow.holds Try.pinned (OpenSpec.upto kindFitsSpec)

/-- 'chaperonelaw.KindTells', WHERE WHAT IT READS IS OF BULK AT MOST 1048576: true; the input reads as it did. -/
def kindTellsUptoRow : OpenClaim := { program := "ytnflnbdlgdjfmaa", sum := "b7425a29919f21d71d8776f3827d4c9616eddc8c0d5bca571827d4cce77fb8fe", func := "chaperone/chaperonelaw.KindTells", spec := "kindTells", recurses := true, loops := true, apart := false, narrowed := true }
def KindTellsUptoSaid : Prop := kindTellsUptoRow.holds Try.pinned (OpenSpec.upto kindTellsSpec)

end Rows
end Go.Proofs.Ytnflnbdlgdjfmaa
