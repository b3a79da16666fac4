/-
  The walks of the reference's functions on terms. Conditions: those typed in each theorem.
  The walks of the reference's functions on terms (2): whether it is one. Conditions: those typed in each theorem.
  The walks of ParseTerm and TermParses. Conditions: those typed in each theorem.
  Arguments that are types, as they lie in memory; what a law's row asks behind the call. Conditions: those typed in each theorem.
  Arguments that are terms, as they lie in memory. Conditions: those typed in each theorem.
  A law's contract, as its row asks for it: arguments that are read, a table that is listed. Conditions: those typed in each theorem.
  The row's listed variables. Conditions: those typed in each theorem.
-/
import Derived.Test.YtnflnbdlgdjfmabGreatDoorP5
import Derived.Test.YtnflnbdlgdjfmabGreatDoorRows
import Derived.ProofKit
import Derived.OpenShut
import Derived.Lib.SmallJoins
import Derived.Deep.Slices
import Derived.Deep.DeepHandedRow
import Derived.Lib.LaidTab
import Derived.Lay
import Derived.Stop.LaidErr
import Derived.Shelf.Vars
import Derived.Deep.DeepWitnessRowRef
import Derived.LaidLaws
namespace Go.Proofs.YtnflnbdlgdjfmabGreatDoor
open Go.RowKit
set_option linter.unusedVariables false
set_option linter.unusedSimpArgs false
set_option maxRecDepth 100000
attribute [local irreducible] RunL AW LocOp ACalls Gh
set_option maxHeartbeats 4000000 in
theorem rsameTm_a : ∀ a b : Tm, ACalls Tryz.prog 11 [a.u, b.u] [] (.one (.bool (a.same b))) [] := by
  intro a
  induction a using Tm.ind' with
  | h a ih =>
  intro b
  have hL := tmRows_length a.l
  have hM := tmRows_length b.l
  have s1 := rsame_a a.t b.t
  have s2 := rsame_a a.f b.f
  refine acalls_of_body Tryz.func11 rfl (by kernel_rfl) (Nat.le_of_ble_eq_true rfl) trivial (by simp [namesL]) ?_
  refine AW.seq ?_
  refine AW.region (by kernel_rfl) ?_
  refine RunL.mem (by exact rfl) (loc_boxD rfl rfl rfl) ?_; refine RunL.mem (by exact rfl) (loc_boxD rfl rfl rfl) ?_; refine RunL.val (by exact rfl) (loc_assignC rfl) ?_; refine RunL.nil ?_
  refine AW.seq ?_
  refine AW.midC (fun t h => t = tOfL [(2, .one (.ptr 2 0)), (3, .one (.ptr 3 0)), (5, .one (.bool (a.k == b.k && a.n == b.n && a.t.same b.t && a.f.same b.f && (((tmRows a.l).length : Nat) : Int) == ((tmRows b.l).length : Nat))))] ∧ h = ofL [(2, .obj a.c), (3, .obj b.c)]) ?_ ?_
  · cases h1 : (a.k == b.k) with
    | false =>
      refine AW.region (by kernel_rfl) ?_; refine RunL.val (by exact rfl) (loc_fieldAddr rfl) ?_; refine RunL.val (by exact rfl) (loc_load rfl rfl rfl) ?_; refine RunL.val (by exact rfl) (loc_fieldAddr rfl) ?_; refine RunL.val (by exact rfl) (loc_load rfl rfl rfl) ?_; refine RunL.val (by exact rfl) (loc_binInt rfl rfl rfl) ?_; refine RunL.val (by exact rfl) (loc_moveC rfl) ?_; refine RunL.skip (.inl ⟨_, _, rfl, rfl, guard_eq false (by assumption) rfl⟩) ?_; refine RunL.skip (.inl ⟨_, _, rfl, rfl, guard_eq false (by assumption) rfl⟩) ?_; refine RunL.skip (.inl ⟨_, _, rfl, rfl, guard_eq false (by assumption) rfl⟩) ?_; refine RunL.skip (.inl ⟨_, _, rfl, rfl, guard_eq false (by assumption) rfl⟩) ?_; refine RunL.skip (.inl ⟨_, _, rfl, rfl, guard_eq false (by assumption) rfl⟩) ?_; refine RunL.val (by exact rfl) (loc_pickI false (by assumption) rfl rfl) ?_; refine RunL.val (by exact rfl) (loc_moveC rfl) ?_; refine RunL.skip (.inl ⟨_, _, rfl, rfl, rfl⟩) ?_; refine RunL.skip (.inl ⟨_, _, rfl, rfl, rfl⟩) ?_; refine RunL.skip (.inl ⟨_, _, rfl, rfl, rfl⟩) ?_; refine RunL.skip (.inl ⟨_, _, rfl, rfl, rfl⟩) ?_; refine RunL.skip (.inl ⟨_, _, rfl, rfl, rfl⟩) ?_; refine RunL.val (by exact rfl) (loc_pickF rfl rfl) ?_; refine RunL.val (by exact rfl) (loc_moveC rfl) ?_; refine RunL.skip (.inl ⟨_, _, rfl, rfl, rfl⟩) ?_; refine RunL.skip (.inl ⟨_, _, rfl, rfl, rfl⟩) ?_; refine RunL.skip (.inl ⟨_, _, rfl, rfl, rfl⟩) ?_; refine RunL.skip (.inl ⟨_, _, rfl, rfl, rfl⟩) ?_; refine RunL.skip (.inl ⟨_, _, rfl, rfl, rfl⟩) ?_; refine RunL.val (by exact rfl) (loc_pickF rfl rfl) ?_; refine RunL.val (by exact rfl) (loc_moveC rfl) ?_; refine RunL.skip (.inl ⟨_, _, rfl, rfl, rfl⟩) ?_; refine RunL.skip (.inl ⟨_, _, rfl, rfl, rfl⟩) ?_; refine RunL.skip (.inl ⟨_, _, rfl, rfl, rfl⟩) ?_; refine RunL.skip (.inl ⟨_, _, rfl, rfl, rfl⟩) ?_; refine RunL.skip (.inl ⟨_, _, rfl, rfl, rfl⟩) ?_; refine RunL.skip (.inl ⟨_, _, rfl, rfl, rfl⟩) ?_; refine RunL.skip (.inl ⟨_, _, rfl, rfl, rfl⟩) ?_; refine RunL.val (by exact rfl) (loc_pickF rfl rfl) ?_; refine RunL.val (by exact rfl) (loc_assignC rfl) ?_; refine RunL.nil ?_
      exact ⟨_, _, (gh_lit [(2, .one (.ptr 2 0)), (3, .one (.ptr 3 0)), (5, .one (.bool (false)))] [(2, .obj a.c), (3, .obj b.c)] [] [] ⟨(WkU.of_eq rfl trivial), (WkU.of_eq rfl trivial), (WkU.of_eq rfl trivial), trivial⟩ ⟨(by exact Or.inl ⟨_, rfl, WkBlk.refl _⟩), (by exact Or.inl ⟨_, rfl, WkBlk.refl _⟩), trivial⟩ trivial trivial rfl rfl ⟨⟨_, rfl⟩, ⟨_, rfl⟩, trivial, trivial⟩ ⟨(by refine And.intro ?_ ?_; exact trivial; refine And.intro ?_ ?_; exact trivial; refine And.intro ?_ ?_; exact trivial; refine And.intro ?_ ?_; exact trivial; refine And.intro ?_ ?_; exact trivial; refine And.intro ?_ ?_; exact trivial; refine And.intro ?_ ?_; exact trivial; exact trivial), (by refine And.intro ?_ ?_; exact trivial; refine And.intro ?_ ?_; exact trivial; refine And.intro ?_ ?_; exact trivial; refine And.intro ?_ ?_; exact trivial; refine And.intro ?_ ?_; exact trivial; refine And.intro ?_ ?_; exact trivial; refine And.intro ?_ ?_; exact trivial; exact trivial), trivial⟩), by simp, rfl⟩
    | true =>
    cases h2 : (a.n == b.n) with
    | false =>
      refine AW.region (by kernel_rfl) ?_; refine RunL.val (by exact rfl) (loc_fieldAddr rfl) ?_; refine RunL.val (by exact rfl) (loc_load rfl rfl rfl) ?_; refine RunL.val (by exact rfl) (loc_fieldAddr rfl) ?_; refine RunL.val (by exact rfl) (loc_load rfl rfl rfl) ?_; refine RunL.val (by exact rfl) (loc_binInt rfl rfl rfl) ?_; refine RunL.val (by exact rfl) (loc_moveC rfl) ?_; refine RunL.val (by exact .inl ⟨_, _, rfl, rfl, guard_eq true (by assumption) rfl⟩) (loc_fieldAddr rfl) ?_; refine RunL.val (by exact .inl ⟨_, _, rfl, rfl, guard_eq true (by assumption) rfl⟩) (loc_load rfl rfl rfl) ?_; refine RunL.val (by exact .inl ⟨_, _, rfl, rfl, guard_eq true (by assumption) rfl⟩) (loc_fieldAddr rfl) ?_; refine RunL.val (by exact .inl ⟨_, _, rfl, rfl, guard_eq true (by assumption) rfl⟩) (loc_load rfl rfl rfl) ?_; refine RunL.val (by exact .inl ⟨_, _, rfl, rfl, guard_eq true (by assumption) rfl⟩) (loc_binInt rfl rfl rfl) ?_; refine RunL.val (by exact rfl) (loc_pickI true (by assumption) rfl rfl) ?_; refine RunL.val (by exact rfl) (loc_moveC rfl) ?_; refine RunL.skip (.inl ⟨_, _, rfl, rfl, guard_eq false (by assumption) rfl⟩) ?_; refine RunL.skip (.inl ⟨_, _, rfl, rfl, guard_eq false (by assumption) rfl⟩) ?_; refine RunL.skip (.inl ⟨_, _, rfl, rfl, guard_eq false (by assumption) rfl⟩) ?_; refine RunL.skip (.inl ⟨_, _, rfl, rfl, guard_eq false (by assumption) rfl⟩) ?_; refine RunL.skip (.inl ⟨_, _, rfl, rfl, guard_eq false (by assumption) rfl⟩) ?_; refine RunL.val (by exact rfl) (loc_pickI false (by assumption) rfl rfl) ?_; refine RunL.val (by exact rfl) (loc_moveC rfl) ?_; refine RunL.skip (.inl ⟨_, _, rfl, rfl, rfl⟩) ?_; refine RunL.skip (.inl ⟨_, _, rfl, rfl, rfl⟩) ?_; refine RunL.skip (.inl ⟨_, _, rfl, rfl, rfl⟩) ?_; refine RunL.skip (.inl ⟨_, _, rfl, rfl, rfl⟩) ?_; refine RunL.skip (.inl ⟨_, _, rfl, rfl, rfl⟩) ?_; refine RunL.val (by exact rfl) (loc_pickF rfl rfl) ?_; refine RunL.val (by exact rfl) (loc_moveC rfl) ?_; refine RunL.skip (.inl ⟨_, _, rfl, rfl, rfl⟩) ?_; refine RunL.skip (.inl ⟨_, _, rfl, rfl, rfl⟩) ?_; refine RunL.skip (.inl ⟨_, _, rfl, rfl, rfl⟩) ?_; refine RunL.skip (.inl ⟨_, _, rfl, rfl, rfl⟩) ?_; refine RunL.skip (.inl ⟨_, _, rfl, rfl, rfl⟩) ?_; refine RunL.skip (.inl ⟨_, _, rfl, rfl, rfl⟩) ?_; refine RunL.skip (.inl ⟨_, _, rfl, rfl, rfl⟩) ?_; refine RunL.val (by exact rfl) (loc_pickF rfl rfl) ?_; refine RunL.val (by exact rfl) (loc_assignC rfl) ?_; refine RunL.nil ?_
      exact ⟨_, _, (gh_lit [(2, .one (.ptr 2 0)), (3, .one (.ptr 3 0)), (5, .one (.bool (false)))] [(2, .obj a.c), (3, .obj b.c)] [] [] ⟨(WkU.of_eq rfl trivial), (WkU.of_eq rfl trivial), (WkU.of_eq rfl trivial), trivial⟩ ⟨(by exact Or.inl ⟨_, rfl, WkBlk.refl _⟩), (by exact Or.inl ⟨_, rfl, WkBlk.refl _⟩), trivial⟩ trivial trivial rfl rfl ⟨⟨_, rfl⟩, ⟨_, rfl⟩, trivial, trivial⟩ ⟨(by refine And.intro ?_ ?_; exact trivial; refine And.intro ?_ ?_; exact trivial; refine And.intro ?_ ?_; exact trivial; refine And.intro ?_ ?_; exact trivial; refine And.intro ?_ ?_; exact trivial; refine And.intro ?_ ?_; exact trivial; refine And.intro ?_ ?_; exact trivial; exact trivial), (by refine And.intro ?_ ?_; exact trivial; refine And.intro ?_ ?_; exact trivial; refine And.intro ?_ ?_; exact trivial; refine And.intro ?_ ?_; exact trivial; refine And.intro ?_ ?_; exact trivial; refine And.intro ?_ ?_; exact trivial; refine And.intro ?_ ?_; exact trivial; exact trivial), trivial⟩), by simp, rfl⟩
    | true =>
    refine AW.region (by kernel_rfl) ?_; refine RunL.val (by exact rfl) (loc_fieldAddr rfl) ?_; refine RunL.val (by exact rfl) (loc_load rfl rfl rfl) ?_; refine RunL.val (by exact rfl) (loc_fieldAddr rfl) ?_; refine RunL.val (by exact rfl) (loc_load rfl rfl rfl) ?_; refine RunL.val (by exact rfl) (loc_binInt rfl rfl rfl) ?_; refine RunL.val (by exact rfl) (loc_moveC rfl) ?_; refine RunL.val (by exact .inl ⟨_, _, rfl, rfl, guard_eq true (by assumption) rfl⟩) (loc_fieldAddr rfl) ?_; refine RunL.val (by exact .inl ⟨_, _, rfl, rfl, guard_eq true (by assumption) rfl⟩) (loc_load rfl rfl rfl) ?_; refine RunL.val (by exact .inl ⟨_, _, rfl, rfl, guard_eq true (by assumption) rfl⟩) (loc_fieldAddr rfl) ?_; refine RunL.val (by exact .inl ⟨_, _, rfl, rfl, guard_eq true (by assumption) rfl⟩) (loc_load rfl rfl rfl) ?_; refine RunL.val (by exact .inl ⟨_, _, rfl, rfl, guard_eq true (by assumption) rfl⟩) (loc_binInt rfl rfl rfl) ?_; refine RunL.val (by exact rfl) (loc_pickI true (by assumption) rfl rfl) ?_; refine RunL.val (by exact rfl) (loc_moveC rfl) ?_; refine RunL.val (by exact .inl ⟨_, _, rfl, rfl, guard_eq true (by assumption) rfl⟩) (loc_fieldAddr rfl) ?_; refine RunL.val (by exact .inl ⟨_, _, rfl, rfl, guard_eq true (by assumption) rfl⟩) (loc_loadA rfl rfl (by exact Cut.cons (by exact rfl) (Cut.cons (by exact rfl) Cut.nil))) ?_; refine RunL.val (by exact .inl ⟨_, _, rfl, rfl, guard_eq true (by assumption) rfl⟩) (loc_fieldAddr rfl) ?_; refine RunL.val (by exact .inl ⟨_, _, rfl, rfl, guard_eq true (by assumption) rfl⟩) (loc_loadA rfl rfl (by exact Cut.cons (by exact rfl) (Cut.cons (by exact rfl) Cut.nil))) ?_
    refine RunL.val (by exact .inl ⟨_, _, rfl, rfl, guard_eq true (by assumption) rfl⟩) (loc_fun s1 rfl (by refine ⟨_, _, rfl, (by exact LeU.of_eq rfl trivial), (by (refine And.intro ?_ ?_; exact trivial; refine And.intro ?_ ?_; exact trivial; exact trivial; done)), ?_⟩; refine ⟨_, _, rfl, (by exact LeU.of_eq rfl trivial), (by (refine And.intro ?_ ?_; exact trivial; refine And.intro ?_ ?_; exact trivial; exact trivial; done)), ?_⟩; exact rfl)) ?_
    cases h3 : a.t.same b.t with
    | false =>
      refine RunL.val (by exact rfl) (loc_pickI true (by assumption) rfl rfl) ?_; refine RunL.val (by exact rfl) (loc_moveC rfl) ?_; refine RunL.skip (.inl ⟨_, _, rfl, rfl, rfl⟩) ?_; refine RunL.skip (.inl ⟨_, _, rfl, rfl, rfl⟩) ?_; refine RunL.skip (.inl ⟨_, _, rfl, rfl, rfl⟩) ?_; refine RunL.skip (.inl ⟨_, _, rfl, rfl, rfl⟩) ?_; refine RunL.skip (.inl ⟨_, _, rfl, rfl, rfl⟩) ?_; refine RunL.val (by exact rfl) (loc_pickF rfl rfl) ?_; refine RunL.val (by exact rfl) (loc_moveC rfl) ?_; refine RunL.skip (.inl ⟨_, _, rfl, rfl, rfl⟩) ?_; refine RunL.skip (.inl ⟨_, _, rfl, rfl, rfl⟩) ?_; refine RunL.skip (.inl ⟨_, _, rfl, rfl, rfl⟩) ?_; refine RunL.skip (.inl ⟨_, _, rfl, rfl, rfl⟩) ?_; refine RunL.skip (.inl ⟨_, _, rfl, rfl, rfl⟩) ?_; refine RunL.skip (.inl ⟨_, _, rfl, rfl, rfl⟩) ?_; refine RunL.skip (.inl ⟨_, _, rfl, rfl, rfl⟩) ?_; refine RunL.val (by exact rfl) (loc_pickF rfl rfl) ?_; refine RunL.val (by exact rfl) (loc_assignC rfl) ?_; refine RunL.nil ?_
      exact ⟨_, _, (gh_lit [(2, .one (.ptr 2 0)), (3, .one (.ptr 3 0)), (5, .one (.bool (false)))] [(2, .obj a.c), (3, .obj b.c)] [] [] ⟨(WkU.of_eq rfl trivial), (WkU.of_eq rfl trivial), (WkU.of_eq rfl trivial), trivial⟩ ⟨(by exact Or.inl ⟨_, rfl, WkBlk.refl _⟩), (by exact Or.inl ⟨_, rfl, WkBlk.refl _⟩), trivial⟩ trivial trivial rfl rfl ⟨⟨_, rfl⟩, ⟨_, rfl⟩, trivial, trivial⟩ ⟨(by refine And.intro ?_ ?_; exact trivial; refine And.intro ?_ ?_; exact trivial; refine And.intro ?_ ?_; exact trivial; refine And.intro ?_ ?_; exact trivial; refine And.intro ?_ ?_; exact trivial; refine And.intro ?_ ?_; exact trivial; refine And.intro ?_ ?_; exact trivial; exact trivial), (by refine And.intro ?_ ?_; exact trivial; refine And.intro ?_ ?_; exact trivial; refine And.intro ?_ ?_; exact trivial; refine And.intro ?_ ?_; exact trivial; refine And.intro ?_ ?_; exact trivial; refine And.intro ?_ ?_; exact trivial; refine And.intro ?_ ?_; exact trivial; exact trivial), trivial⟩), by simp, rfl⟩
    | true =>
    refine RunL.val (by exact rfl) (loc_pickI true (by assumption) rfl rfl) ?_; refine RunL.val (by exact rfl) (loc_moveC rfl) ?_; refine RunL.val (by exact .inl ⟨_, _, rfl, rfl, rfl⟩) (loc_fieldAddr rfl) ?_; refine RunL.val (by exact .inl ⟨_, _, rfl, rfl, rfl⟩) (loc_loadA rfl rfl (by exact Cut.cons (by exact rfl) (Cut.cons (by exact rfl) Cut.nil))) ?_; refine RunL.val (by exact .inl ⟨_, _, rfl, rfl, rfl⟩) (loc_fieldAddr rfl) ?_; refine RunL.val (by exact .inl ⟨_, _, rfl, rfl, rfl⟩) (loc_loadA rfl rfl (by exact Cut.cons (by exact rfl) (Cut.cons (by exact rfl) Cut.nil))) ?_
    refine RunL.val (by exact .inl ⟨_, _, rfl, rfl, rfl⟩) (loc_fun s2 rfl (by refine ⟨_, _, rfl, (by exact LeU.of_eq rfl trivial), (by (refine And.intro ?_ ?_; exact trivial; refine And.intro ?_ ?_; exact trivial; exact trivial; done)), ?_⟩; refine ⟨_, _, rfl, (by exact LeU.of_eq rfl trivial), (by (refine And.intro ?_ ?_; exact trivial; refine And.intro ?_ ?_; exact trivial; exact trivial; done)), ?_⟩; exact rfl)) ?_
    cases h4 : a.f.same b.f with
    | false =>
      refine RunL.val (by exact rfl) (loc_pickT rfl rfl) ?_; refine RunL.val (by exact rfl) (loc_moveC rfl) ?_; refine RunL.skip (.inl ⟨_, _, rfl, rfl, rfl⟩) ?_; refine RunL.skip (.inl ⟨_, _, rfl, rfl, rfl⟩) ?_; refine RunL.skip (.inl ⟨_, _, rfl, rfl, rfl⟩) ?_; refine RunL.skip (.inl ⟨_, _, rfl, rfl, rfl⟩) ?_; refine RunL.skip (.inl ⟨_, _, rfl, rfl, rfl⟩) ?_; refine RunL.skip (.inl ⟨_, _, rfl, rfl, rfl⟩) ?_; refine RunL.skip (.inl ⟨_, _, rfl, rfl, rfl⟩) ?_; refine RunL.val (by exact rfl) (loc_pickF rfl rfl) ?_; refine RunL.val (by exact rfl) (loc_assignC rfl) ?_; refine RunL.nil ?_
      exact ⟨_, _, (gh_lit [(2, .one (.ptr 2 0)), (3, .one (.ptr 3 0)), (5, .one (.bool (false)))] [(2, .obj a.c), (3, .obj b.c)] [] [] ⟨(WkU.of_eq rfl trivial), (WkU.of_eq rfl trivial), (WkU.of_eq rfl trivial), trivial⟩ ⟨(by exact Or.inl ⟨_, rfl, WkBlk.refl _⟩), (by exact Or.inl ⟨_, rfl, WkBlk.refl _⟩), trivial⟩ trivial trivial rfl rfl ⟨⟨_, rfl⟩, ⟨_, rfl⟩, trivial, trivial⟩ ⟨(by refine And.intro ?_ ?_; exact trivial; refine And.intro ?_ ?_; exact trivial; refine And.intro ?_ ?_; exact trivial; refine And.intro ?_ ?_; exact trivial; refine And.intro ?_ ?_; exact trivial; refine And.intro ?_ ?_; exact trivial; refine And.intro ?_ ?_; exact trivial; exact trivial), (by refine And.intro ?_ ?_; exact trivial; refine And.intro ?_ ?_; exact trivial; refine And.intro ?_ ?_; exact trivial; refine And.intro ?_ ?_; exact trivial; refine And.intro ?_ ?_; exact trivial; refine And.intro ?_ ?_; exact trivial; refine And.intro ?_ ?_; exact trivial; exact trivial), trivial⟩), by simp, rfl⟩
    | true =>
    refine RunL.val (by exact rfl) (loc_pickT rfl rfl) ?_; refine RunL.val (by exact rfl) (loc_moveC rfl) ?_; refine RunL.val (by exact .inl ⟨_, _, rfl, rfl, rfl⟩) (loc_fieldAddr rfl) ?_; refine RunL.val (by exact .inl ⟨_, _, rfl, rfl, rfl⟩) (loc_load rfl rfl rfl) ?_; refine RunL.val (by exact .inl ⟨_, _, rfl, rfl, rfl⟩) (loc_lenSl rfl) ?_; refine RunL.val (by exact .inl ⟨_, _, rfl, rfl, rfl⟩) (loc_fieldAddr rfl) ?_; refine RunL.val (by exact .inl ⟨_, _, rfl, rfl, rfl⟩) (loc_load rfl rfl rfl) ?_; refine RunL.val (by exact .inl ⟨_, _, rfl, rfl, rfl⟩) (loc_lenSl rfl) ?_; refine RunL.val (by exact .inl ⟨_, _, rfl, rfl, rfl⟩) (loc_binInt rfl rfl rfl) ?_; refine RunL.val (by exact rfl) (loc_pickT rfl rfl) ?_; refine RunL.val (by exact rfl) (loc_assignC rfl) ?_; refine RunL.nil ?_
    exact ⟨_, _, (gh_lit [(2, .one (.ptr 2 0)), (3, .one (.ptr 3 0)), (5, .one (.bool ((((tmRows a.l).length : Nat) : Int) == ((tmRows b.l).length : Nat))))] [(2, .obj a.c), (3, .obj b.c)] [] [] ⟨(WkU.of_eq rfl trivial), (WkU.of_eq rfl trivial), (WkU.of_eq rfl trivial), trivial⟩ ⟨(by exact Or.inl ⟨_, rfl, WkBlk.refl _⟩), (by exact Or.inl ⟨_, rfl, WkBlk.refl _⟩), trivial⟩ trivial trivial rfl rfl ⟨⟨_, rfl⟩, ⟨_, rfl⟩, trivial, trivial⟩ ⟨(by refine And.intro ?_ ?_; exact trivial; refine And.intro ?_ ?_; exact trivial; refine And.intro ?_ ?_; exact trivial; refine And.intro ?_ ?_; exact trivial; refine And.intro ?_ ?_; exact trivial; refine And.intro ?_ ?_; exact trivial; refine And.intro ?_ ?_; exact trivial; exact trivial), (by refine And.intro ?_ ?_; exact trivial; refine And.intro ?_ ?_; exact trivial; refine And.intro ?_ ?_; exact trivial; refine And.intro ?_ ?_; exact trivial; refine And.intro ?_ ?_; exact trivial; refine And.intro ?_ ?_; exact trivial; refine And.intro ?_ ?_; exact trivial; exact trivial), trivial⟩), by simp, rfl⟩
  · rintro t h ⟨rfl, rfl⟩
    have h0 : a.same b = ((a.k == b.k && a.n == b.n && a.t.same b.t && a.f.same b.f && (((tmRows a.l).length : Nat) : Int) == ((tmRows b.l).length : Nat)) && sameTL (a.l.drop 0) (b.l.drop 0)) := by
      rw [sameT_eta, hL, hM, List.drop_zero, List.drop_zero]
      by_cases hl : a.l.length = b.l.length
      · simp [hl]
      · simp [hl, sameTL_len hl]
    have hl : (a.k == b.k && a.n == b.n && a.t.same b.t && a.f.same b.f && (((tmRows a.l).length : Nat) : Int) == ((tmRows b.l).length : Nat)) = true → a.l.length = b.l.length := by
      intro h; rw [hL, hM, Bool.and_eq_true] at h; have := h.2; simp at this; omega
    generalize (a.k == b.k && a.n == b.n && a.t.same b.t && a.f.same b.f && (((tmRows a.l).length : Nat) : Int) == ((tmRows b.l).length : Nat)) = ok0 at *
    refine AW.seq ?_; refine AW.seq ?_; refine AW.region (by kernel_rfl) ?_; refine RunL.val (by exact rfl) (loc_assignC rfl) ?_; refine RunL.nil ?_; refine AW.block ?_
    refine AW.gh (gh_lit [(2, .one (.ptr 2 0)), (3, .one (.ptr 3 0)), (5, .one (.bool (ok0))), (6, .one (.int .i64 ((0 : Nat) : Int)))] [(2, .obj a.c), (3, .obj b.c)] [] [] ⟨(WkU.of_eq rfl trivial), (WkU.of_eq rfl trivial), (WkU.of_eq rfl trivial), (WkU.of_eq rfl trivial), trivial⟩ ⟨(by exact Or.inl ⟨_, rfl, WkBlk.refl _⟩), (by exact Or.inl ⟨_, rfl, WkBlk.refl _⟩), trivial⟩ trivial trivial rfl rfl ⟨⟨_, rfl⟩, ⟨_, rfl⟩, trivial, trivial, trivial⟩ ⟨(by refine And.intro ?_ ?_; exact trivial; refine And.intro ?_ ?_; exact trivial; refine And.intro ?_ ?_; exact trivial; refine And.intro ?_ ?_; exact trivial; refine And.intro ?_ ?_; exact trivial; refine And.intro ?_ ?_; exact trivial; refine And.intro ?_ ?_; exact trivial; exact trivial), (by refine And.intro ?_ ?_; exact trivial; refine And.intro ?_ ?_; exact trivial; refine And.intro ?_ ?_; exact trivial; refine And.intro ?_ ?_; exact trivial; refine And.intro ?_ ?_; exact trivial; refine And.intro ?_ ?_; exact trivial; refine And.intro ?_ ?_; exact trivial; exact trivial), trivial⟩) ?_
    refine AW.lenBlk 2 6 rfl rfl fun hmax => ?_
    refine AW.loop (fun m t h => ∃ i : Nat, ∃ ok : Bool, i ≤ a.l.length ∧ m = a.l.length - i ∧ (ok = true → a.l.length = b.l.length) ∧ a.same b = (ok && sameTL (a.l.drop i) (b.l.drop i)) ∧ t = tOfL [(2, .one (.ptr 2 0)), (3, .one (.ptr 3 0)), (5, .one (.bool (ok))), (6, .one (.int .i64 ((i : Nat) : Int)))] ∧ h = ofL [(2, .obj a.c), (3, .obj b.c)]) a.l.length ⟨0, ok0, Nat.zero_le _, rfl, hl, h0, rfl, rfl⟩ ?_
    rintro m t h ⟨i, ok, hi, rfl, hlen, hinv, rfl, rfl⟩
    clear hl h0
    cases ok with
    | false =>
      refine AW.seq ?_; refine AW.seq ?_; refine AW.region (by kernel_rfl) ?_; refine RunL.val (by exact rfl) (loc_moveC rfl) ?_; refine RunL.val (by exact rfl) (loc_moveC rfl) ?_; refine RunL.skip (.inl ⟨_, _, rfl, rfl, rfl⟩) ?_; refine RunL.skip (.inl ⟨_, _, rfl, rfl, rfl⟩) ?_; refine RunL.skip (.inl ⟨_, _, rfl, rfl, rfl⟩) ?_; refine RunL.skip (.inl ⟨_, _, rfl, rfl, rfl⟩) ?_; refine RunL.skip (.inl ⟨_, _, rfl, rfl, rfl⟩) ?_; refine RunL.val (by exact rfl) (loc_pickF rfl rfl) ?_; refine RunL.nil ?_; refine AW.condF (by exact rfl) ?_; refine AW.exit ?_; refine AW.seq ?_; refine AW.region (by kernel_rfl) ?_; refine RunL.val (by exact rfl) (loc_moveC rfl) ?_; refine RunL.val (by exact rfl) (loc_assignC rfl) ?_; refine RunL.nil ?_; refine AW.ret ?_
      rw [hinv]
      exact ret_same (.inr rfl) rfl trivial
    | true =>
    have hlen := hlen rfl
    cases hlt : decide ((i : Int) < ((tmRows a.l).length : Nat)) with
    | false =>
      have hil : i = a.l.length := by simp at hlt; omega
      refine AW.seq ?_; refine AW.seq ?_; refine AW.region (by kernel_rfl) ?_; refine RunL.val (by exact rfl) (loc_moveC rfl) ?_; refine RunL.val (by exact rfl) (loc_moveC rfl) ?_; refine RunL.val (by exact .inl ⟨_, _, rfl, rfl, rfl⟩) (loc_moveC rfl) ?_; refine RunL.val (by exact .inl ⟨_, _, rfl, rfl, rfl⟩) (loc_fieldAddr rfl) ?_; refine RunL.val (by exact .inl ⟨_, _, rfl, rfl, rfl⟩) (loc_load rfl rfl rfl) ?_; refine RunL.val (by exact .inl ⟨_, _, rfl, rfl, rfl⟩) (loc_lenSl rfl) ?_; refine RunL.val (by exact .inl ⟨_, _, rfl, rfl, rfl⟩) (loc_binInt rfl rfl rfl) ?_; refine RunL.val (by exact rfl) (loc_pickT rfl rfl) ?_; refine RunL.nil ?_; refine AW.condFa (by exact rfl) (by assumption) ?_; refine AW.exit ?_; refine AW.seq ?_; refine AW.region (by kernel_rfl) ?_; refine RunL.val (by exact rfl) (loc_moveC rfl) ?_; refine RunL.val (by exact rfl) (loc_assignC rfl) ?_; refine RunL.nil ?_; refine AW.ret ?_
      rw [hinv, hil, show sameTL (a.l.drop a.l.length) (b.l.drop a.l.length) = true by rw [List.drop_length, hlen, List.drop_length]; rfl]
      exact ret_same (.inr rfl) rfl trivial
    | true =>
      have hil : i < a.l.length := by simp at hlt; omega
      have hilb : i < b.l.length := by omega
      have hr1 := tmRows_get hil
      have hr2 := tmRows_get hilb
      have hs := sameTL_drop hil hilb
      refine AW.seq ?_; refine AW.seq ?_; refine AW.region (by kernel_rfl) ?_; refine RunL.val (by exact rfl) (loc_moveC rfl) ?_; refine RunL.val (by exact rfl) (loc_moveC rfl) ?_; refine RunL.val (by exact .inl ⟨_, _, rfl, rfl, rfl⟩) (loc_moveC rfl) ?_; refine RunL.val (by exact .inl ⟨_, _, rfl, rfl, rfl⟩) (loc_fieldAddr rfl) ?_; refine RunL.val (by exact .inl ⟨_, _, rfl, rfl, rfl⟩) (loc_load rfl rfl rfl) ?_; refine RunL.val (by exact .inl ⟨_, _, rfl, rfl, rfl⟩) (loc_lenSl rfl) ?_; refine RunL.val (by exact .inl ⟨_, _, rfl, rfl, rfl⟩) (loc_binInt rfl rfl rfl) ?_; refine RunL.val (by exact rfl) (loc_pickT rfl rfl) ?_; refine RunL.nil ?_; refine AW.condTa (by exact rfl) (by assumption) ?_; refine AW.skip ?_; refine AW.seq ?_; refine AW.block ?_; refine AW.regionD (by kernel_rfl) (by kernel_rfl) (by kernel_rfl) ?_; refine RunL.val (by exact rfl) (loc_fieldAddr rfl) ?_; refine RunL.val (by exact rfl) (loc_load rfl rfl rfl) ?_; refine RunL.val (by exact rfl) (loc_moveC rfl) ?_; refine RunL.val (by exact rfl) (loc_indexSl _ rfl rfl rfl (by assumption) rfl) ?_; refine RunL.val (by exact rfl) (loc_loadFA rfl (by exact Cut.all (by exact rfl))) ?_; refine RunL.val (by exact rfl) (loc_fieldAddr rfl) ?_; refine RunL.val (by exact rfl) (loc_load rfl rfl rfl) ?_; refine RunL.val (by exact rfl) (loc_moveC rfl) ?_; refine RunL.val (by exact rfl) (loc_indexSl _ rfl rfl rfl (by assumption) rfl) ?_; refine RunL.val (by exact rfl) (loc_loadFA rfl (by exact Cut.all (by exact rfl))) ?_
      refine RunL.val (by exact rfl) (loc_fun (ih a.l[i] (List.getElem_mem _) b.l[i]) rfl (by refine ⟨_, _, rfl, (by exact LeU.of_eq rfl trivial), (by (refine And.intro ?_ ?_; exact trivial; refine And.intro ?_ ?_; exact trivial; refine And.intro ?_ ?_; exact trivial; refine And.intro ?_ ?_; exact trivial; refine And.intro ?_ ?_; exact trivial; refine And.intro ?_ ?_; exact trivial; refine And.intro ?_ ?_; exact trivial; exact trivial; done)), ?_⟩; refine ⟨_, _, rfl, (by exact LeU.of_eq rfl trivial), (by (refine And.intro ?_ ?_; exact trivial; refine And.intro ?_ ?_; exact trivial; refine And.intro ?_ ?_; exact trivial; refine And.intro ?_ ?_; exact trivial; refine And.intro ?_ ?_; exact trivial; refine And.intro ?_ ?_; exact trivial; refine And.intro ?_ ?_; exact trivial; exact trivial; done)), ?_⟩; exact rfl)) ?_
      refine RunL.val (by exact rfl) (loc_assignC rfl) ?_; refine RunL.nilD (by kernel_rfl) ?_; refine AW.region (by kernel_rfl) ?_; refine RunL.val (by exact rfl) (loc_moveC rfl) ?_; refine RunL.val (by exact rfl) (loc_inc rfl rfl (by omega)) ?_; refine RunL.val (by exact rfl) (loc_assignC rfl) ?_; refine RunL.nil ?_
      exact ⟨a.l.length - (i + 1), _, _, by omega, (gh_lit [(2, .one (.ptr 2 0)), (3, .one (.ptr 3 0)), (5, .one (.bool (a.l[i].same b.l[i]))), (6, .one (.int .i64 (((i + 1) : Nat) : Int)))] [(2, .obj a.c), (3, .obj b.c)] [] [] ⟨(WkU.of_eq rfl trivial), (WkU.of_eq rfl trivial), (WkU.of_eq rfl trivial), (WkU.of_eq rfl trivial), trivial⟩ ⟨(by exact Or.inl ⟨_, rfl, WkBlk.refl _⟩), (by exact Or.inl ⟨_, rfl, WkBlk.refl _⟩), trivial⟩ trivial trivial rfl rfl ⟨⟨_, rfl⟩, ⟨_, rfl⟩, trivial, trivial, trivial⟩ ⟨(by refine And.intro ?_ ?_; exact trivial; refine And.intro ?_ ?_; exact trivial; refine And.intro ?_ ?_; exact trivial; refine And.intro ?_ ?_; exact trivial; refine And.intro ?_ ?_; exact trivial; refine And.intro ?_ ?_; exact trivial; refine And.intro ?_ ?_; exact trivial; exact trivial), (by refine And.intro ?_ ?_; exact trivial; refine And.intro ?_ ?_; exact trivial; refine And.intro ?_ ?_; exact trivial; refine And.intro ?_ ?_; exact trivial; refine And.intro ?_ ?_; exact trivial; refine And.intro ?_ ?_; exact trivial; refine And.intro ?_ ?_; exact trivial; exact trivial), trivial⟩), i + 1, _, by omega, rfl, fun _ => hlen, by rw [hinv, hs]; rfl, rfl, rfl⟩
set_option maxHeartbeats 2000000 in
theorem nodesOf_a (a : Tm) (hsz : a.nodes ≤ 1048576) : ACalls Tryz.prog 43 [a.u] [] (.one (.int .i64 ((a.nodes : Nat) : Int))) [] := by
  refine acalls_of_body Tryz.func43 rfl (by kernel_rfl) (Nat.le_of_ble_eq_true rfl) trivial (by simp [namesL]) ?_
  refine AW.seq ?_
  refine AW.region (by kernel_rfl) ?_
  refine RunL.mem (by exact rfl) (loc_boxD rfl rfl rfl) ?_; refine RunL.val (by exact rfl) (loc_assignC rfl) ?_; refine RunL.nil ?_
  refine AW.seq ?_
  refine AW.regionD (by kernel_rfl) (by kernel_rfl) (by kernel_rfl) ?_
  refine RunL.val (by exact rfl) (loc_loadA rfl rfl (by exact Cut.all (by exact rfl))) ?_
  refine RunL.mem (by exact rfl) (loc_buildOwnD (len := 1) (rows := [a.c]) (by exact rfl) (by exact rfl) (by decide) (by decide) (by exact RowsOf.cons (by exact rfl) RowsOf.nil) (by exact AllP.cons rfl AllP.nil) (by exact rfl) (by exact rfl) (by exact rfl)) ?_
  refine RunL.val (by exact rfl) (loc_assignC rfl) ?_; refine RunL.val (by exact rfl) (loc_assignC rfl) ?_; refine RunL.nilD (by kernel_rfl) ?_; refine AW.seq ?_; refine AW.block ?_
  refine AW.gh (gh_lit [(3, .one (.int .i64 ((0 : Nat) : Int))), (4, .one (.own 7 (0) (1)))] [(7, .row 27 7 (0) ([a.c]))] [] [] ⟨(WkU.of_eq rfl trivial), (by exact WkU.of_eq rfl trivial), trivial⟩ ⟨(by exact Or.inl ⟨_, rfl, WkBlk.refl _⟩), trivial⟩ trivial trivial rfl rfl ⟨trivial, ⟨_, _, _, _, rfl, Nat.le_refl _⟩, trivial⟩ ⟨(okRows_closed (by exact rfl)), trivial⟩) ?_
  rw [show [a.c] = tmRows [a] by simp [tmRows, Tm.cells_c]]
  refine AW.loop (fun m t h => ∃ (st : List Tm) (c v : Nat), m = nodesL st ∧ c + nodesL st = a.nodes ∧ t = tOfL [(3, .one (.int .i64 ((c : Nat) : Int))), (4, .one (.own 7 (v) (st.length)))] ∧ h = ofL [(7, .row 27 7 (v) (tmRows st))]) a.nodes ⟨[a], 0, 0, by simp [nodesL], by simp [nodesL], rfl, rfl⟩ ?_
  rintro m t h ⟨st, c, v, rfl, hc, rfl, rfl⟩
  have hlen := nodesL_len st
  rcases List.eq_nil_or_concat st with rfl | ⟨st', x, he⟩
  · have hd : decide ((([] : List Tm).length : Nat) > (0 : Int)) = false := rfl
    have hcn : c = a.nodes := by simpa [nodesL] using hc
    subst hcn
    refine AW.seq ?_; refine AW.seq ?_; refine AW.region (by kernel_rfl) ?_; refine RunL.val (by exact rfl) (loc_moveC rfl) ?_; refine RunL.val (by exact rfl) (loc_lenOwn rfl rfl) ?_; refine RunL.val (by exact rfl) (loc_binInt rfl rfl rfl) ?_; refine RunL.nil ?_; refine AW.condF (by exact rfl) ?_; refine AW.exit ?_; refine AW.seq ?_; refine AW.region (by kernel_rfl) ?_; refine RunL.val (by exact rfl) (loc_moveC rfl) ?_; refine RunL.val (by exact rfl) (loc_assignC rfl) ?_; refine RunL.nil ?_; refine AW.ret ?_
    exact ret_same (.inr rfl) rfl trivial
  · rw [List.concat_eq_append] at he
    subst he
    have hls : (st' ++ [x]).length = st'.length + 1 := by simp
    have hd : decide ((((st' ++ [x]).length : Nat) : Int) > 0) = true := by rw [hls]; simp
    have hrow : (tmRows (st' ++ [x]))[st'.length]? = some x.c := by rw [tmRows_append, List.getElem?_append_right (by rw [tmRows_length]; exact Nat.le_refl _), tmRows_length]; simp [tmRows, Tm.cells_c]
    have hrl : (tmRows (st' ++ [x])).length = st'.length + 1 := by rw [tmRows_length, hls]
    have hn1 : nodesL (st' ++ [x]) = nodesL st' + (1 + nodesL x.l) := by rw [nodesL_append]; simp only [nodesL]; rw [nodes_eta x]; omega
    have hn2 := nodesL_len st'
    have hn3 := nodesL_len x.l
    have hk7 := tmRows_len7 x.l
    have hxl := tmRows_length x.l
    refine AW.seq ?_; refine AW.seq ?_; refine AW.region (by kernel_rfl) ?_; refine RunL.val (by exact rfl) (loc_moveC rfl) ?_; refine RunL.val (by exact rfl) (loc_lenOwn rfl rfl) ?_; refine RunL.val (by exact rfl) (loc_binInt rfl rfl rfl) ?_; refine RunL.nil ?_; refine AW.condTa (by exact rfl) (by assumption) ?_; refine AW.skip ?_; refine AW.block ?_; refine AW.seq ?_; refine AW.region (by kernel_rfl) ?_; refine RunL.val (by exact rfl) (loc_moveC rfl) ?_; refine RunL.val (by exact rfl) (loc_moveC rfl) ?_; refine RunL.val (by exact rfl) (loc_lenOwn rfl rfl) ?_; refine RunL.val (by exact rfl) (loc_subB rfl rfl (by omega)) ?_
    refine RunL.val (by exact rfl) (loc_indexOwn st'.length (by exact rfl) (by exact rfl) (by omega) (by exact rfl) (by omega)) ?_
    refine RunL.val (by exact rfl) (loc_loadEA rfl rfl (by assumption) (by exact Cut.all (by exact rfl))) ?_; refine RunL.mem (by exact rfl) (loc_allocD rfl rfl) ?_; refine RunL.eff (by exact rfl) (loc_storeW rfl rfl rfl rfl (by exact rfl) (by exact rfl)) ?_; refine RunL.nil ?_; refine AW.seq ?_; refine AW.regionD (by kernel_rfl) (by kernel_rfl) (by kernel_rfl) ?_; refine RunL.val (by exact rfl) (loc_moveC rfl) ?_; refine RunL.val (by exact rfl) (loc_moveC rfl) ?_; refine RunL.val (by exact rfl) (loc_lenOwn rfl rfl) ?_; refine RunL.val (by exact rfl) (loc_subB rfl rfl (by omega)) ?_
    refine RunL.val (by exact rfl) (loc_sliceOwn (n' := st'.length) (by exact rfl) (by exact rfl) (by omega) (by exact rfl) (by omega) (by omega)) ?_
    refine RunL.val (by exact rfl) (loc_fieldAddr rfl) ?_; refine RunL.val (by exact rfl) (loc_load rfl rfl rfl) ?_
    refine RunL.mem (by exact rfl) (loc_appendOwn (news := tmRows x.l) (rows0 := tmRows st') (by exact rfl) (by exact rfl) (by exact rfl) (by exact .inr (.inl rfl)) (by omega) (by rw [tmRows_append, List.take_left' (tmRows_length _)]) hk7 (by unfold maxLen; omega) (by omega)) ?_
    rw [← tmRows_append]
    refine RunL.val (by exact rfl) (loc_assignC rfl) ?_; refine RunL.nilD (by kernel_rfl) ?_; refine AW.region (by kernel_rfl) ?_; refine RunL.val (by exact rfl) (loc_moveC rfl) ?_; refine RunL.val (by exact rfl) (loc_inc rfl rfl (by omega)) ?_; refine RunL.val (by exact rfl) (loc_assignC rfl) ?_; refine RunL.nil ?_
    exact ⟨nodesL (st' ++ x.l), _, _, by rw [nodesL_append]; omega, (gh_lit [(3, .one (.int .i64 (((c + 1) : Nat) : Int))), (4, .one (.own 7 ((v + 1)) ((st'.length + (tmRows x.l).length))))] [(7, .row 27 7 ((v + 1)) (tmRows (st' ++ x.l)))] [] [] ⟨(WkU.of_eq rfl trivial), (by exact WkU.of_eq rfl trivial), trivial⟩ ⟨(by exact Or.inl ⟨_, rfl, WkBlk.refl _⟩), trivial⟩ trivial trivial rfl rfl ⟨trivial, ⟨_, _, _, _, rfl, Nat.le_refl _⟩, trivial⟩ ⟨(okRows_closed (by exact closed_tmRows _)), trivial⟩), st' ++ x.l, c + 1, v + 1, rfl, by rw [nodesL_append]; omega, by rw [List.length_append, hxl], rfl⟩
end Go.Proofs.YtnflnbdlgdjfmabGreatDoor
namespace Go.Proofs.YtnflnbdlgdjfmabGreatDoor
open Go.RowKit
set_option linter.unusedVariables false
set_option linter.unusedSimpArgs false
set_option maxRecDepth 100000
attribute [local irreducible] RunL AW LocOp ACalls Gh
/-- No type in it is deep. -/
inductive TmDp : Tm → Prop
  | mk {t : Tm} (ht : t.t.deep ≤ 1048576) (hl : ∀ x ∈ t.l, TmDp x) : TmDp t
theorem TmDp.t {t : Tm} (h : TmDp t) : t.t.deep ≤ 1048576 := by cases h; assumption
theorem TmDp.l {t : Tm} (h : TmDp t) : ∀ x ∈ t.l, TmDp x := by cases h; assumption
theorem wrap_sq (n : Int) : (IntKind.i64.wrap (n * n) == n && decide (n < 2) && decide (n ≥ 0)) = (n == 0 || n == 1) := by
  by_cases h0 : n = 0
  · subst h0; decide
  by_cases h1 : n = 1
  · subst h1; decide
  have : (decide (n < 2) && decide (n ≥ 0)) = false := by
    rw [Bool.and_eq_false_iff]
    by_cases h2 : n < 2
    · exact .inr (decide_eq_false (by omega))
    · exact .inl (decide_eq_false h2)
  rw [Bool.and_assoc, this, Bool.and_false]
  simp [h0, h1]
set_option maxHeartbeats 8000000 in
theorem right_a : ∀ (a : Tm) (ar ow : Int), TmOk a → TmDp a → 0 ≤ ow → ow + a.nodes ≤ 1048576 → ACalls Tryz.prog 44 [a.u, .one (.int .i64 ar), .one (.int .i64 ow)] [] (.one (.bool (a.good ar ow))) [] := by
  intro a
  induction a using Tm.ind' with
  | h a ih =>
  intro ar ow hok hdp h0 hsz
  have hL := tmRows_length a.l
  have hne := nodes_eta a
  have hge := goodT_eta a ar ow
  have sf := rsame_a a.f .any
  have st := rsame_a a.t .any
  have sd := isType_a a.t hdp.t
  refine acalls_of_body Tryz.func44 rfl (by kernel_rfl) (Nat.le_of_ble_eq_true rfl) trivial (by simp [namesL]) ?_
  cases k1 : decide (a.k < 1) with
  | true =>
    refine AW.seq ?_; refine AW.region (by kernel_rfl) ?_; refine RunL.mem (by exact rfl) (loc_boxD rfl rfl rfl) ?_; refine RunL.val (by exact rfl) (loc_assignC rfl) ?_; refine RunL.nil ?_; refine AW.seq ?_; refine AW.seq ?_; refine AW.regionD (by kernel_rfl) (by kernel_rfl) (by kernel_rfl) ?_; refine RunL.val (by exact rfl) (loc_fieldAddr rfl) ?_; refine RunL.val (by exact rfl) (loc_load rfl rfl rfl) ?_; refine RunL.val (by exact rfl) (loc_binInt rfl rfl rfl) ?_; refine RunL.val (by exact rfl) (loc_moveC rfl) ?_; refine RunL.skip (.inl ⟨_, _, rfl, rfl, guard_eq true (by assumption) rfl⟩) ?_; refine RunL.skip (.inl ⟨_, _, rfl, rfl, guard_eq true (by assumption) rfl⟩) ?_; refine RunL.skip (.inl ⟨_, _, rfl, rfl, guard_eq true (by assumption) rfl⟩) ?_; refine RunL.val (by exact rfl) (loc_pickI true (by assumption) rfl rfl) ?_; refine RunL.val (by exact rfl) (loc_moveC rfl) ?_; refine RunL.skip (.inl ⟨_, _, rfl, rfl, rfl⟩) ?_; refine RunL.skip (.inl ⟨_, _, rfl, rfl, rfl⟩) ?_; refine RunL.skip (.inl ⟨_, _, rfl, rfl, rfl⟩) ?_; refine RunL.skip (.inl ⟨_, _, rfl, rfl, rfl⟩) ?_; refine RunL.skip (.inl ⟨_, _, rfl, rfl, rfl⟩) ?_; refine RunL.skip (.inl ⟨_, _, rfl, rfl, rfl⟩) ?_; refine RunL.skip (.inl ⟨_, _, rfl, rfl, rfl⟩) ?_; refine RunL.val (by exact rfl) (loc_pickT rfl rfl) ?_; refine RunL.val (by exact rfl) (loc_moveC rfl) ?_; refine RunL.skip (.inl ⟨_, _, rfl, rfl, rfl⟩) ?_; refine RunL.skip (.inl ⟨_, _, rfl, rfl, rfl⟩) ?_; refine RunL.skip (.inl ⟨_, _, rfl, rfl, rfl⟩) ?_; refine RunL.skip (.inl ⟨_, _, rfl, rfl, rfl⟩) ?_; refine RunL.skip (.inl ⟨_, _, rfl, rfl, rfl⟩) ?_; refine RunL.val (by exact rfl) (loc_pickT rfl rfl) ?_; refine RunL.nilD (by kernel_rfl) ?_; refine AW.condT (by exact rfl) ?_; refine AW.seq ?_; refine AW.region (by kernel_rfl) ?_; refine RunL.val (by exact rfl) (loc_assignC rfl) ?_; refine RunL.nil ?_; refine AW.ret ?_
    rw [show a.good ar ow = false by rw [hge]; simp [Tm.fit, k1]]
    exact ret_same (.inr rfl) rfl trivial
  | false =>
  cases k9 : decide (a.k > 9) with
  | true =>
    refine AW.seq ?_; refine AW.region (by kernel_rfl) ?_; refine RunL.mem (by exact rfl) (loc_boxD rfl rfl rfl) ?_; refine RunL.val (by exact rfl) (loc_assignC rfl) ?_; refine RunL.nil ?_; refine AW.seq ?_; refine AW.seq ?_; refine AW.regionD (by kernel_rfl) (by kernel_rfl) (by kernel_rfl) ?_; refine RunL.val (by exact rfl) (loc_fieldAddr rfl) ?_; refine RunL.val (by exact rfl) (loc_load rfl rfl rfl) ?_; refine RunL.val (by exact rfl) (loc_binInt rfl rfl rfl) ?_; refine RunL.val (by exact rfl) (loc_moveC rfl) ?_; refine RunL.val (by exact .inl ⟨_, _, rfl, rfl, guard_eq false (by assumption) rfl⟩) (loc_fieldAddr rfl) ?_; refine RunL.val (by exact .inl ⟨_, _, rfl, rfl, guard_eq false (by assumption) rfl⟩) (loc_load rfl rfl rfl) ?_; refine RunL.val (by exact .inl ⟨_, _, rfl, rfl, guard_eq false (by assumption) rfl⟩) (loc_binInt rfl rfl rfl) ?_; refine RunL.val (by exact rfl) (loc_pickI false (by assumption) rfl rfl) ?_; refine RunL.val (by exact rfl) (loc_moveC rfl) ?_; refine RunL.skip (.inl ⟨_, _, rfl, rfl, guard_eq true (by assumption) rfl⟩) ?_; refine RunL.skip (.inl ⟨_, _, rfl, rfl, guard_eq true (by assumption) rfl⟩) ?_; refine RunL.skip (.inl ⟨_, _, rfl, rfl, guard_eq true (by assumption) rfl⟩) ?_; refine RunL.skip (.inl ⟨_, _, rfl, rfl, guard_eq true (by assumption) rfl⟩) ?_; refine RunL.skip (.inl ⟨_, _, rfl, rfl, guard_eq true (by assumption) rfl⟩) ?_; refine RunL.skip (.inl ⟨_, _, rfl, rfl, guard_eq true (by assumption) rfl⟩) ?_; refine RunL.skip (.inl ⟨_, _, rfl, rfl, guard_eq true (by assumption) rfl⟩) ?_; refine RunL.val (by exact rfl) (loc_pickI true (by assumption) rfl rfl) ?_; refine RunL.val (by exact rfl) (loc_moveC rfl) ?_; refine RunL.skip (.inl ⟨_, _, rfl, rfl, rfl⟩) ?_; refine RunL.skip (.inl ⟨_, _, rfl, rfl, rfl⟩) ?_; refine RunL.skip (.inl ⟨_, _, rfl, rfl, rfl⟩) ?_; refine RunL.skip (.inl ⟨_, _, rfl, rfl, rfl⟩) ?_; refine RunL.skip (.inl ⟨_, _, rfl, rfl, rfl⟩) ?_; refine RunL.val (by exact rfl) (loc_pickT rfl rfl) ?_; refine RunL.nilD (by kernel_rfl) ?_; refine AW.condT (by exact rfl) ?_; refine AW.seq ?_; refine AW.region (by kernel_rfl) ?_; refine RunL.val (by exact rfl) (loc_assignC rfl) ?_; refine RunL.nil ?_; refine AW.ret ?_
    rw [show a.good ar ow = false by rw [hge]; simp [Tm.fit, k9]]
    exact ret_same (.inr rfl) rfl trivial
  | false =>
  have hk1 : 1 ≤ a.k := by simp at k1; omega
  have hk9 : a.k ≤ 9 := by simp at k9; omega
  have hpa := parts_a a.k hk1 hk9
  cases hlen : ((((tmRows a.l).length : Nat) : Int) != arity a.k) with
  | true =>
    refine AW.seq ?_; refine AW.region (by kernel_rfl) ?_; refine RunL.mem (by exact rfl) (loc_boxD rfl rfl rfl) ?_; refine RunL.val (by exact rfl) (loc_assignC rfl) ?_; refine RunL.nil ?_; refine AW.seq ?_; refine AW.seq ?_; refine AW.regionD (by kernel_rfl) (by kernel_rfl) (by kernel_rfl) ?_; refine RunL.val (by exact rfl) (loc_fieldAddr rfl) ?_; refine RunL.val (by exact rfl) (loc_load rfl rfl rfl) ?_; refine RunL.val (by exact rfl) (loc_binInt rfl rfl rfl) ?_; refine RunL.val (by exact rfl) (loc_moveC rfl) ?_; refine RunL.val (by exact .inl ⟨_, _, rfl, rfl, guard_eq false (by assumption) rfl⟩) (loc_fieldAddr rfl) ?_; refine RunL.val (by exact .inl ⟨_, _, rfl, rfl, guard_eq false (by assumption) rfl⟩) (loc_load rfl rfl rfl) ?_; refine RunL.val (by exact .inl ⟨_, _, rfl, rfl, guard_eq false (by assumption) rfl⟩) (loc_binInt rfl rfl rfl) ?_; refine RunL.val (by exact rfl) (loc_pickI false (by assumption) rfl rfl) ?_; refine RunL.val (by exact rfl) (loc_moveC rfl) ?_; refine RunL.val (by exact .inl ⟨_, _, rfl, rfl, guard_eq false (by assumption) rfl⟩) (loc_fieldAddr rfl) ?_; refine RunL.val (by exact .inl ⟨_, _, rfl, rfl, guard_eq false (by assumption) rfl⟩) (loc_load rfl rfl rfl) ?_; refine RunL.val (by exact .inl ⟨_, _, rfl, rfl, guard_eq false (by assumption) rfl⟩) (loc_lenSl rfl) ?_; refine RunL.val (by exact .inl ⟨_, _, rfl, rfl, guard_eq false (by assumption) rfl⟩) (loc_fieldAddr rfl) ?_; refine RunL.val (by exact .inl ⟨_, _, rfl, rfl, guard_eq false (by assumption) rfl⟩) (loc_load rfl rfl rfl) ?_
    refine RunL.val (by exact .inl ⟨_, _, rfl, rfl, guard_eq false (by assumption) rfl⟩) (loc_fun hpa rfl (by refine ⟨_, _, rfl, (by exact LeU.of_eq rfl trivial), (by exact trivial), ?_⟩; exact rfl)) ?_
    refine RunL.val (by exact .inl ⟨_, _, rfl, rfl, guard_eq false (by assumption) rfl⟩) (loc_binInt rfl rfl rfl) ?_; refine RunL.val (by exact rfl) (loc_pickI false (by assumption) rfl rfl) ?_; refine RunL.val (by exact rfl) (loc_moveC rfl) ?_; refine RunL.skip (.inl ⟨_, _, rfl, rfl, guard_eq true (by assumption) rfl⟩) ?_; refine RunL.skip (.inl ⟨_, _, rfl, rfl, guard_eq true (by assumption) rfl⟩) ?_; refine RunL.skip (.inl ⟨_, _, rfl, rfl, guard_eq true (by assumption) rfl⟩) ?_; refine RunL.skip (.inl ⟨_, _, rfl, rfl, guard_eq true (by assumption) rfl⟩) ?_; refine RunL.skip (.inl ⟨_, _, rfl, rfl, guard_eq true (by assumption) rfl⟩) ?_; refine RunL.val (by exact rfl) (loc_pickI true (by assumption) rfl rfl) ?_; refine RunL.nilD (by kernel_rfl) ?_; refine AW.condT (by exact rfl) ?_; refine AW.seq ?_; refine AW.region (by kernel_rfl) ?_; refine RunL.val (by exact rfl) (loc_assignC rfl) ?_; refine RunL.nil ?_; refine AW.ret ?_
    rw [show a.good ar ow = false by rw [hge]; rw [hL] at hlen; simp at hlen; simp [Tm.fit, hlen]]
    exact ret_same (.inr rfl) rfl trivial
  | false =>
  cases hf : a.f.same .any with
  | false =>
    rw [hf] at sf
    refine AW.seq ?_; refine AW.region (by kernel_rfl) ?_; refine RunL.mem (by exact rfl) (loc_boxD rfl rfl rfl) ?_; refine RunL.val (by exact rfl) (loc_assignC rfl) ?_; refine RunL.nil ?_; refine AW.seq ?_; refine AW.seq ?_; refine AW.regionD (by kernel_rfl) (by kernel_rfl) (by kernel_rfl) ?_; refine RunL.val (by exact rfl) (loc_fieldAddr rfl) ?_; refine RunL.val (by exact rfl) (loc_load rfl rfl rfl) ?_; refine RunL.val (by exact rfl) (loc_binInt rfl rfl rfl) ?_; refine RunL.val (by exact rfl) (loc_moveC rfl) ?_; refine RunL.val (by exact .inl ⟨_, _, rfl, rfl, guard_eq false (by assumption) rfl⟩) (loc_fieldAddr rfl) ?_; refine RunL.val (by exact .inl ⟨_, _, rfl, rfl, guard_eq false (by assumption) rfl⟩) (loc_load rfl rfl rfl) ?_; refine RunL.val (by exact .inl ⟨_, _, rfl, rfl, guard_eq false (by assumption) rfl⟩) (loc_binInt rfl rfl rfl) ?_; refine RunL.val (by exact rfl) (loc_pickI false (by assumption) rfl rfl) ?_; refine RunL.val (by exact rfl) (loc_moveC rfl) ?_; refine RunL.val (by exact .inl ⟨_, _, rfl, rfl, guard_eq false (by assumption) rfl⟩) (loc_fieldAddr rfl) ?_; refine RunL.val (by exact .inl ⟨_, _, rfl, rfl, guard_eq false (by assumption) rfl⟩) (loc_load rfl rfl rfl) ?_; refine RunL.val (by exact .inl ⟨_, _, rfl, rfl, guard_eq false (by assumption) rfl⟩) (loc_lenSl rfl) ?_; refine RunL.val (by exact .inl ⟨_, _, rfl, rfl, guard_eq false (by assumption) rfl⟩) (loc_fieldAddr rfl) ?_; refine RunL.val (by exact .inl ⟨_, _, rfl, rfl, guard_eq false (by assumption) rfl⟩) (loc_load rfl rfl rfl) ?_
    refine RunL.val (by exact .inl ⟨_, _, rfl, rfl, guard_eq false (by assumption) rfl⟩) (loc_fun hpa rfl (by refine ⟨_, _, rfl, (by exact LeU.of_eq rfl trivial), (by exact trivial), ?_⟩; exact rfl)) ?_
    refine RunL.val (by exact .inl ⟨_, _, rfl, rfl, guard_eq false (by assumption) rfl⟩) (loc_binInt rfl rfl rfl) ?_; refine RunL.val (by exact rfl) (loc_pickI false (by assumption) rfl rfl) ?_; refine RunL.val (by exact rfl) (loc_moveC rfl) ?_; refine RunL.val (by exact .inl ⟨_, _, rfl, rfl, guard_eq false (by assumption) rfl⟩) (loc_fieldAddr rfl) ?_; refine RunL.val (by exact .inl ⟨_, _, rfl, rfl, guard_eq false (by assumption) rfl⟩) (loc_loadA rfl rfl (by exact Cut.cons (by exact rfl) (Cut.cons (by exact rfl) Cut.nil))) ?_
    refine RunL.val (by exact .inl ⟨_, _, rfl, rfl, guard_eq false (by assumption) rfl⟩) (loc_fun any0_a rfl (by exact rfl)) ?_
    refine RunL.val (by exact .inl ⟨_, _, rfl, rfl, guard_eq false (by assumption) rfl⟩) (loc_fun sf rfl (by refine ⟨_, _, rfl, (by exact LeU.of_eq rfl trivial), (by (refine And.intro ?_ ?_; exact trivial; refine And.intro ?_ ?_; exact trivial; exact trivial; done)), ?_⟩; refine ⟨_, _, rfl, (by exact LeU.of_eq rfl trivial), (by (refine And.intro ?_ ?_; exact trivial; refine And.intro ?_ ?_; exact trivial; exact trivial; done)), ?_⟩; exact rfl)) ?_
    refine RunL.val (by exact .inl ⟨_, _, rfl, rfl, guard_eq false (by assumption) rfl⟩) (loc_not rfl) ?_; refine RunL.val (by exact rfl) (loc_pickI false (by assumption) rfl rfl) ?_; refine RunL.nilD (by kernel_rfl) ?_; refine AW.condT (by exact rfl) ?_; refine AW.seq ?_; refine AW.region (by kernel_rfl) ?_; refine RunL.val (by exact rfl) (loc_assignC rfl) ?_; refine RunL.nil ?_; refine AW.ret ?_
    rw [show a.good ar ow = false by rw [hge]; simp [Tm.fit, hf]]
    exact ret_same (.inr rfl) rfl trivial
  | true =>
  rw [hf] at sf
  have hfit : a.fit ar ow = (a.num ar ow && (if a.k == 7 || a.k == 9 then a.t.good 4 else a.t.same .any)) := by
    rw [hL] at hlen
    have : (((a.l.length : Nat) : Int) == arity a.k) = true := by simpa using hlen
    unfold Tm.fit
    rw [k1, k9, this, hf, Bool.and_comm]
    rfl
  refine AW.seq ?_
  refine AW.region (by kernel_rfl) ?_
  refine RunL.mem (by exact rfl) (loc_boxD rfl rfl rfl) ?_; refine RunL.val (by exact rfl) (loc_assignC rfl) ?_; refine RunL.nil ?_
  refine AW.seq ?_
  refine AW.seq ?_
  refine AW.regionD (by kernel_rfl) (by kernel_rfl) (by kernel_rfl) ?_
  refine RunL.val (by exact rfl) (loc_fieldAddr rfl) ?_; refine RunL.val (by exact rfl) (loc_load rfl rfl rfl) ?_; refine RunL.val (by exact rfl) (loc_binInt rfl rfl rfl) ?_; refine RunL.val (by exact rfl) (loc_moveC rfl) ?_; refine RunL.val (by exact .inl ⟨_, _, rfl, rfl, guard_eq false (by assumption) rfl⟩) (loc_fieldAddr rfl) ?_; refine RunL.val (by exact .inl ⟨_, _, rfl, rfl, guard_eq false (by assumption) rfl⟩) (loc_load rfl rfl rfl) ?_; refine RunL.val (by exact .inl ⟨_, _, rfl, rfl, guard_eq false (by assumption) rfl⟩) (loc_binInt rfl rfl rfl) ?_; refine RunL.val (by exact rfl) (loc_pickI false (by assumption) rfl rfl) ?_; refine RunL.val (by exact rfl) (loc_moveC rfl) ?_; refine RunL.val (by exact .inl ⟨_, _, rfl, rfl, guard_eq false (by assumption) rfl⟩) (loc_fieldAddr rfl) ?_; refine RunL.val (by exact .inl ⟨_, _, rfl, rfl, guard_eq false (by assumption) rfl⟩) (loc_load rfl rfl rfl) ?_; refine RunL.val (by exact .inl ⟨_, _, rfl, rfl, guard_eq false (by assumption) rfl⟩) (loc_lenSl rfl) ?_; refine RunL.val (by exact .inl ⟨_, _, rfl, rfl, guard_eq false (by assumption) rfl⟩) (loc_fieldAddr rfl) ?_; refine RunL.val (by exact .inl ⟨_, _, rfl, rfl, guard_eq false (by assumption) rfl⟩) (loc_load rfl rfl rfl) ?_
  refine RunL.val (by exact .inl ⟨_, _, rfl, rfl, guard_eq false (by assumption) rfl⟩) (loc_fun hpa rfl (by refine ⟨_, _, rfl, (by exact LeU.of_eq rfl trivial), (by exact trivial), ?_⟩; exact rfl)) ?_
  refine RunL.val (by exact .inl ⟨_, _, rfl, rfl, guard_eq false (by assumption) rfl⟩) (loc_binInt rfl rfl rfl) ?_; refine RunL.val (by exact rfl) (loc_pickI false (by assumption) rfl rfl) ?_; refine RunL.val (by exact rfl) (loc_moveC rfl) ?_; refine RunL.val (by exact .inl ⟨_, _, rfl, rfl, guard_eq false (by assumption) rfl⟩) (loc_fieldAddr rfl) ?_; refine RunL.val (by exact .inl ⟨_, _, rfl, rfl, guard_eq false (by assumption) rfl⟩) (loc_loadA rfl rfl (by exact Cut.cons (by exact rfl) (Cut.cons (by exact rfl) Cut.nil))) ?_
  refine RunL.val (by exact .inl ⟨_, _, rfl, rfl, guard_eq false (by assumption) rfl⟩) (loc_fun any0_a rfl (by exact rfl)) ?_
  refine RunL.val (by exact .inl ⟨_, _, rfl, rfl, guard_eq false (by assumption) rfl⟩) (loc_fun sf rfl (by refine ⟨_, _, rfl, (by exact LeU.of_eq rfl trivial), (by (refine And.intro ?_ ?_; exact trivial; refine And.intro ?_ ?_; exact trivial; exact trivial; done)), ?_⟩; refine ⟨_, _, rfl, (by exact LeU.of_eq rfl trivial), (by (refine And.intro ?_ ?_; exact trivial; refine And.intro ?_ ?_; exact trivial; exact trivial; done)), ?_⟩; exact rfl)) ?_
  refine RunL.val (by exact .inl ⟨_, _, rfl, rfl, guard_eq false (by assumption) rfl⟩) (loc_not rfl) ?_; refine RunL.val (by exact rfl) (loc_pickI false (by assumption) rfl rfl) ?_; refine RunL.nilD (by kernel_rfl) ?_
  refine AW.condF (by exact rfl) ?_
  refine AW.skip ?_
  refine AW.seq ?_
  refine AW.region (by kernel_rfl) ?_
  refine RunL.val (by exact rfl) (loc_fieldAddr rfl) ?_; refine RunL.val (by exact rfl) (loc_load rfl rfl rfl) ?_; refine RunL.val (by exact rfl) (loc_binInt rfl rfl rfl) ?_; refine RunL.val (by exact rfl) (loc_assignC rfl) ?_; refine RunL.nil ?_
  refine AW.seq ?_
  refine AW.midC (fun t h => t = tOfL [(1, .one (.int .i64 ar)), (2, .one (.int .i64 (ow))), (3, .one (.ptr 3 0)), (7, .one (.bool (a.num ar ow)))] ∧ h = ofL [(3, .obj a.c)]) ?_ ?_
  · cases k1' : (a.k == 1) with
    | true =>
      rw [show a.num ar ow = (decide (a.n ≥ 0) && decide (a.n - ow < ar)) by simp [Tm.num, k1']]
      cases h2 : decide (a.n ≥ 0) with
      | true =>
        have h2' : 0 ≤ a.n := by simpa using h2
        have hn := hok.n
        refine AW.seq ?_; refine AW.region (by kernel_rfl) ?_; refine RunL.val (by exact rfl) (loc_fieldAddr rfl) ?_; refine RunL.val (by exact rfl) (loc_load rfl rfl rfl) ?_; refine RunL.nil ?_; refine AW.block ?_; refine AW.seq ?_; refine AW.region (by kernel_rfl) ?_; refine RunL.val (by exact rfl) (loc_binInt rfl rfl rfl) ?_; refine RunL.val (by exact rfl) (loc_assignC rfl) ?_; refine RunL.nil ?_; refine AW.condTa (by exact rfl) (by assumption) ?_; refine AW.region (by kernel_rfl) ?_; refine RunL.val (by exact rfl) (loc_fieldAddr rfl) ?_; refine RunL.val (by exact rfl) (loc_load rfl rfl rfl) ?_; refine RunL.val (by exact rfl) (loc_binInt rfl rfl rfl) ?_; refine RunL.val (by exact rfl) (loc_moveC rfl) ?_; refine RunL.val (by exact .inl ⟨_, _, rfl, rfl, guard_eq true (by assumption) rfl⟩) (loc_fieldAddr rfl) ?_; refine RunL.val (by exact .inl ⟨_, _, rfl, rfl, guard_eq true (by assumption) rfl⟩) (loc_load rfl rfl rfl) ?_; refine RunL.val (by exact .inl ⟨_, _, rfl, rfl, guard_eq true (by assumption) rfl⟩) (loc_moveC rfl) ?_; refine RunL.val (by exact .inl ⟨_, _, rfl, rfl, guard_eq true (by assumption) rfl⟩) (loc_subB rfl rfl (by omega)) ?_; refine RunL.val (by exact .inl ⟨_, _, rfl, rfl, guard_eq true (by assumption) rfl⟩) (loc_moveC rfl) ?_; refine RunL.val (by exact .inl ⟨_, _, rfl, rfl, guard_eq true (by assumption) rfl⟩) (loc_binInt rfl rfl rfl) ?_; refine RunL.val (by exact rfl) (loc_pickI true (by assumption) rfl rfl) ?_; refine RunL.val (by exact rfl) (loc_assignC rfl) ?_; refine RunL.nil ?_
        exact ⟨_, _, (gh_lit [(1, .one (.int .i64 ar)), (2, .one (.int .i64 (ow))), (3, .one (.ptr 3 0)), (7, .one (.bool (decide (a.n - ow < ar))))] [(3, .obj a.c)] [] [] ⟨(WkU.of_eq rfl trivial), (WkU.of_eq rfl trivial), (WkU.of_eq rfl trivial), (WkU.of_eq rfl trivial), trivial⟩ ⟨(by exact Or.inl ⟨_, rfl, WkBlk.refl _⟩), trivial⟩ trivial trivial rfl rfl ⟨trivial, trivial, ⟨_, rfl⟩, trivial, trivial⟩ ⟨(by refine And.intro ?_ ?_; exact trivial; refine And.intro ?_ ?_; exact trivial; refine And.intro ?_ ?_; exact trivial; refine And.intro ?_ ?_; exact trivial; refine And.intro ?_ ?_; exact trivial; refine And.intro ?_ ?_; exact trivial; refine And.intro ?_ ?_; exact trivial; exact trivial), trivial⟩), by simp, rfl⟩
      | false =>
        refine AW.seq ?_; refine AW.region (by kernel_rfl) ?_; refine RunL.val (by exact rfl) (loc_fieldAddr rfl) ?_; refine RunL.val (by exact rfl) (loc_load rfl rfl rfl) ?_; refine RunL.nil ?_; refine AW.block ?_; refine AW.seq ?_; refine AW.region (by kernel_rfl) ?_; refine RunL.val (by exact rfl) (loc_binInt rfl rfl rfl) ?_; refine RunL.val (by exact rfl) (loc_assignC rfl) ?_; refine RunL.nil ?_; refine AW.condTa (by exact rfl) (by assumption) ?_; refine AW.region (by kernel_rfl) ?_; refine RunL.val (by exact rfl) (loc_fieldAddr rfl) ?_; refine RunL.val (by exact rfl) (loc_load rfl rfl rfl) ?_; refine RunL.val (by exact rfl) (loc_binInt rfl rfl rfl) ?_; refine RunL.val (by exact rfl) (loc_moveC rfl) ?_; refine RunL.skip (.inl ⟨_, _, rfl, rfl, guard_eq false (by assumption) rfl⟩) ?_; refine RunL.skip (.inl ⟨_, _, rfl, rfl, guard_eq false (by assumption) rfl⟩) ?_; refine RunL.skip (.inl ⟨_, _, rfl, rfl, guard_eq false (by assumption) rfl⟩) ?_; refine RunL.skip (.inl ⟨_, _, rfl, rfl, guard_eq false (by assumption) rfl⟩) ?_; refine RunL.skip (.inl ⟨_, _, rfl, rfl, guard_eq false (by assumption) rfl⟩) ?_; refine RunL.skip (.inl ⟨_, _, rfl, rfl, guard_eq false (by assumption) rfl⟩) ?_; refine RunL.val (by exact rfl) (loc_pickI false (by assumption) rfl rfl) ?_; refine RunL.val (by exact rfl) (loc_assignC rfl) ?_; refine RunL.nil ?_
        exact ⟨_, _, (gh_lit [(1, .one (.int .i64 ar)), (2, .one (.int .i64 (ow))), (3, .one (.ptr 3 0)), (7, .one (.bool (false)))] [(3, .obj a.c)] [] [] ⟨(WkU.of_eq rfl trivial), (WkU.of_eq rfl trivial), (WkU.of_eq rfl trivial), (WkU.of_eq rfl trivial), trivial⟩ ⟨(by exact Or.inl ⟨_, rfl, WkBlk.refl _⟩), trivial⟩ trivial trivial rfl rfl ⟨trivial, trivial, ⟨_, rfl⟩, trivial, trivial⟩ ⟨(by refine And.intro ?_ ?_; exact trivial; refine And.intro ?_ ?_; exact trivial; refine And.intro ?_ ?_; exact trivial; refine And.intro ?_ ?_; exact trivial; refine And.intro ?_ ?_; exact trivial; refine And.intro ?_ ?_; exact trivial; refine And.intro ?_ ?_; exact trivial; exact trivial), trivial⟩), by simp, rfl⟩
    | false =>
    cases k2' : (a.k == 2) with
    | true =>
      rw [show a.num ar ow = (decide (a.n ≤ 1000000) && decide (a.n ≥ -1000000)) by simp [Tm.num, k1', k2', Bool.and_comm]]
      cases h2 : decide (a.n ≤ 1000000) with
      | true =>
        refine AW.seq ?_; refine AW.region (by kernel_rfl) ?_; refine RunL.val (by exact rfl) (loc_fieldAddr rfl) ?_; refine RunL.val (by exact rfl) (loc_load rfl rfl rfl) ?_; refine RunL.nil ?_; refine AW.block ?_; refine AW.seq ?_; refine AW.region (by kernel_rfl) ?_; refine RunL.val (by exact rfl) (loc_binInt rfl rfl rfl) ?_; refine RunL.val (by exact rfl) (loc_assignC rfl) ?_; refine RunL.nil ?_; refine AW.condFa (by exact rfl) (by assumption) ?_; refine AW.seq ?_; refine AW.region (by kernel_rfl) ?_; refine RunL.val (by exact rfl) (loc_binInt rfl rfl rfl) ?_; refine RunL.val (by exact rfl) (loc_assignC rfl) ?_; refine RunL.nil ?_; refine AW.condTa (by exact rfl) (by assumption) ?_; refine AW.region (by kernel_rfl) ?_; refine RunL.val (by exact rfl) (loc_fieldAddr rfl) ?_; refine RunL.val (by exact rfl) (loc_load rfl rfl rfl) ?_; refine RunL.val (by exact rfl) (loc_binInt rfl rfl rfl) ?_; refine RunL.val (by exact rfl) (loc_moveC rfl) ?_; refine RunL.val (by exact .inl ⟨_, _, rfl, rfl, guard_eq true (by assumption) rfl⟩) (loc_fieldAddr rfl) ?_; refine RunL.val (by exact .inl ⟨_, _, rfl, rfl, guard_eq true (by assumption) rfl⟩) (loc_load rfl rfl rfl) ?_; refine RunL.val (by exact .inl ⟨_, _, rfl, rfl, guard_eq true (by assumption) rfl⟩) (loc_binInt rfl rfl rfl) ?_; refine RunL.val (by exact rfl) (loc_pickI true (by assumption) rfl rfl) ?_; refine RunL.val (by exact rfl) (loc_assignC rfl) ?_; refine RunL.nil ?_
        exact ⟨_, _, (gh_lit [(1, .one (.int .i64 ar)), (2, .one (.int .i64 (ow))), (3, .one (.ptr 3 0)), (7, .one (.bool (decide (a.n ≥ -1000000))))] [(3, .obj a.c)] [] [] ⟨(WkU.of_eq rfl trivial), (WkU.of_eq rfl trivial), (WkU.of_eq rfl trivial), (WkU.of_eq rfl trivial), trivial⟩ ⟨(by exact Or.inl ⟨_, rfl, WkBlk.refl _⟩), trivial⟩ trivial trivial rfl rfl ⟨trivial, trivial, ⟨_, rfl⟩, trivial, trivial⟩ ⟨(by refine And.intro ?_ ?_; exact trivial; refine And.intro ?_ ?_; exact trivial; refine And.intro ?_ ?_; exact trivial; refine And.intro ?_ ?_; exact trivial; refine And.intro ?_ ?_; exact trivial; refine And.intro ?_ ?_; exact trivial; refine And.intro ?_ ?_; exact trivial; exact trivial), trivial⟩), by simp, rfl⟩
      | false =>
        refine AW.seq ?_; refine AW.region (by kernel_rfl) ?_; refine RunL.val (by exact rfl) (loc_fieldAddr rfl) ?_; refine RunL.val (by exact rfl) (loc_load rfl rfl rfl) ?_; refine RunL.nil ?_; refine AW.block ?_; refine AW.seq ?_; refine AW.region (by kernel_rfl) ?_; refine RunL.val (by exact rfl) (loc_binInt rfl rfl rfl) ?_; refine RunL.val (by exact rfl) (loc_assignC rfl) ?_; refine RunL.nil ?_; refine AW.condFa (by exact rfl) (by assumption) ?_; refine AW.seq ?_; refine AW.region (by kernel_rfl) ?_; refine RunL.val (by exact rfl) (loc_binInt rfl rfl rfl) ?_; refine RunL.val (by exact rfl) (loc_assignC rfl) ?_; refine RunL.nil ?_; refine AW.condTa (by exact rfl) (by assumption) ?_; refine AW.region (by kernel_rfl) ?_; refine RunL.val (by exact rfl) (loc_fieldAddr rfl) ?_; refine RunL.val (by exact rfl) (loc_load rfl rfl rfl) ?_; refine RunL.val (by exact rfl) (loc_binInt rfl rfl rfl) ?_; refine RunL.val (by exact rfl) (loc_moveC rfl) ?_; refine RunL.skip (.inl ⟨_, _, rfl, rfl, guard_eq false (by assumption) rfl⟩) ?_; refine RunL.skip (.inl ⟨_, _, rfl, rfl, guard_eq false (by assumption) rfl⟩) ?_; refine RunL.skip (.inl ⟨_, _, rfl, rfl, guard_eq false (by assumption) rfl⟩) ?_; refine RunL.val (by exact rfl) (loc_pickI false (by assumption) rfl rfl) ?_; refine RunL.val (by exact rfl) (loc_assignC rfl) ?_; refine RunL.nil ?_
        exact ⟨_, _, (gh_lit [(1, .one (.int .i64 ar)), (2, .one (.int .i64 (ow))), (3, .one (.ptr 3 0)), (7, .one (.bool (false)))] [(3, .obj a.c)] [] [] ⟨(WkU.of_eq rfl trivial), (WkU.of_eq rfl trivial), (WkU.of_eq rfl trivial), (WkU.of_eq rfl trivial), trivial⟩ ⟨(by exact Or.inl ⟨_, rfl, WkBlk.refl _⟩), trivial⟩ trivial trivial rfl rfl ⟨trivial, trivial, ⟨_, rfl⟩, trivial, trivial⟩ ⟨(by refine And.intro ?_ ?_; exact trivial; refine And.intro ?_ ?_; exact trivial; refine And.intro ?_ ?_; exact trivial; refine And.intro ?_ ?_; exact trivial; refine And.intro ?_ ?_; exact trivial; refine And.intro ?_ ?_; exact trivial; refine And.intro ?_ ?_; exact trivial; exact trivial), trivial⟩), by simp, rfl⟩
    | false =>
    cases k3' : (a.k == 3) with
    | true =>
      rw [show a.num ar ow = (IntKind.i64.wrap (a.n * a.n) == a.n && decide (a.n < 2) && decide (a.n ≥ 0)) by rw [wrap_sq]; simp [Tm.num, k1', k2', k3']]
      cases h2 : (IntKind.i64.wrap (a.n * a.n) == a.n) with
      | true =>
        cases h3 : decide (a.n < 2) with
        | true =>
          refine AW.seq ?_; refine AW.region (by kernel_rfl) ?_; refine RunL.val (by exact rfl) (loc_fieldAddr rfl) ?_; refine RunL.val (by exact rfl) (loc_load rfl rfl rfl) ?_; refine RunL.nil ?_; refine AW.block ?_; refine AW.seq ?_; refine AW.region (by kernel_rfl) ?_; refine RunL.val (by exact rfl) (loc_binInt rfl rfl rfl) ?_; refine RunL.val (by exact rfl) (loc_assignC rfl) ?_; refine RunL.nil ?_; refine AW.condFa (by exact rfl) (by assumption) ?_; refine AW.seq ?_; refine AW.region (by kernel_rfl) ?_; refine RunL.val (by exact rfl) (loc_binInt rfl rfl rfl) ?_; refine RunL.val (by exact rfl) (loc_assignC rfl) ?_; refine RunL.nil ?_; refine AW.condFa (by exact rfl) (by assumption) ?_; refine AW.seq ?_; refine AW.region (by kernel_rfl) ?_; refine RunL.val (by exact rfl) (loc_binInt rfl rfl rfl) ?_; refine RunL.val (by exact rfl) (loc_assignC rfl) ?_; refine RunL.nil ?_; refine AW.condTa (by exact rfl) (by assumption) ?_; refine AW.region (by kernel_rfl) ?_; refine RunL.val (by exact rfl) (loc_fieldAddr rfl) ?_; refine RunL.val (by exact rfl) (loc_load rfl rfl rfl) ?_; refine RunL.val (by exact rfl) (loc_fieldAddr rfl) ?_; refine RunL.val (by exact rfl) (loc_load rfl rfl rfl) ?_; refine RunL.val (by exact rfl) (loc_binInt rfl rfl rfl) ?_; refine RunL.val (by exact rfl) (loc_fieldAddr rfl) ?_; refine RunL.val (by exact rfl) (loc_load rfl rfl rfl) ?_; refine RunL.val (by exact rfl) (loc_binInt rfl rfl rfl) ?_; refine RunL.val (by exact rfl) (loc_moveC rfl) ?_; refine RunL.val (by exact .inl ⟨_, _, rfl, rfl, guard_eq true (by assumption) rfl⟩) (loc_fieldAddr rfl) ?_; refine RunL.val (by exact .inl ⟨_, _, rfl, rfl, guard_eq true (by assumption) rfl⟩) (loc_load rfl rfl rfl) ?_; refine RunL.val (by exact .inl ⟨_, _, rfl, rfl, guard_eq true (by assumption) rfl⟩) (loc_binInt rfl rfl rfl) ?_; refine RunL.val (by exact rfl) (loc_pickI true (by assumption) rfl rfl) ?_; refine RunL.val (by exact rfl) (loc_moveC rfl) ?_; refine RunL.val (by exact .inl ⟨_, _, rfl, rfl, guard_eq true (by assumption) rfl⟩) (loc_fieldAddr rfl) ?_; refine RunL.val (by exact .inl ⟨_, _, rfl, rfl, guard_eq true (by assumption) rfl⟩) (loc_load rfl rfl rfl) ?_; refine RunL.val (by exact .inl ⟨_, _, rfl, rfl, guard_eq true (by assumption) rfl⟩) (loc_binInt rfl rfl rfl) ?_; refine RunL.val (by exact rfl) (loc_pickI true (by assumption) rfl rfl) ?_; refine RunL.val (by exact rfl) (loc_assignC rfl) ?_; refine RunL.nil ?_
          exact ⟨_, _, (gh_lit [(1, .one (.int .i64 ar)), (2, .one (.int .i64 (ow))), (3, .one (.ptr 3 0)), (7, .one (.bool (decide (a.n ≥ 0))))] [(3, .obj a.c)] [] [] ⟨(WkU.of_eq rfl trivial), (WkU.of_eq rfl trivial), (WkU.of_eq rfl trivial), (WkU.of_eq rfl trivial), trivial⟩ ⟨(by exact Or.inl ⟨_, rfl, WkBlk.refl _⟩), trivial⟩ trivial trivial rfl rfl ⟨trivial, trivial, ⟨_, rfl⟩, trivial, trivial⟩ ⟨(by refine And.intro ?_ ?_; exact trivial; refine And.intro ?_ ?_; exact trivial; refine And.intro ?_ ?_; exact trivial; refine And.intro ?_ ?_; exact trivial; refine And.intro ?_ ?_; exact trivial; refine And.intro ?_ ?_; exact trivial; refine And.intro ?_ ?_; exact trivial; exact trivial), trivial⟩), by simp, rfl⟩
        | false =>
          refine AW.seq ?_; refine AW.region (by kernel_rfl) ?_; refine RunL.val (by exact rfl) (loc_fieldAddr rfl) ?_; refine RunL.val (by exact rfl) (loc_load rfl rfl rfl) ?_; refine RunL.nil ?_; refine AW.block ?_; refine AW.seq ?_; refine AW.region (by kernel_rfl) ?_; refine RunL.val (by exact rfl) (loc_binInt rfl rfl rfl) ?_; refine RunL.val (by exact rfl) (loc_assignC rfl) ?_; refine RunL.nil ?_; refine AW.condFa (by exact rfl) (by assumption) ?_; refine AW.seq ?_; refine AW.region (by kernel_rfl) ?_; refine RunL.val (by exact rfl) (loc_binInt rfl rfl rfl) ?_; refine RunL.val (by exact rfl) (loc_assignC rfl) ?_; refine RunL.nil ?_; refine AW.condFa (by exact rfl) (by assumption) ?_; refine AW.seq ?_; refine AW.region (by kernel_rfl) ?_; refine RunL.val (by exact rfl) (loc_binInt rfl rfl rfl) ?_; refine RunL.val (by exact rfl) (loc_assignC rfl) ?_; refine RunL.nil ?_; refine AW.condTa (by exact rfl) (by assumption) ?_; refine AW.region (by kernel_rfl) ?_; refine RunL.val (by exact rfl) (loc_fieldAddr rfl) ?_; refine RunL.val (by exact rfl) (loc_load rfl rfl rfl) ?_; refine RunL.val (by exact rfl) (loc_fieldAddr rfl) ?_; refine RunL.val (by exact rfl) (loc_load rfl rfl rfl) ?_; refine RunL.val (by exact rfl) (loc_binInt rfl rfl rfl) ?_; refine RunL.val (by exact rfl) (loc_fieldAddr rfl) ?_; refine RunL.val (by exact rfl) (loc_load rfl rfl rfl) ?_; refine RunL.val (by exact rfl) (loc_binInt rfl rfl rfl) ?_; refine RunL.val (by exact rfl) (loc_moveC rfl) ?_; refine RunL.val (by exact .inl ⟨_, _, rfl, rfl, guard_eq true (by assumption) rfl⟩) (loc_fieldAddr rfl) ?_; refine RunL.val (by exact .inl ⟨_, _, rfl, rfl, guard_eq true (by assumption) rfl⟩) (loc_load rfl rfl rfl) ?_; refine RunL.val (by exact .inl ⟨_, _, rfl, rfl, guard_eq true (by assumption) rfl⟩) (loc_binInt rfl rfl rfl) ?_; refine RunL.val (by exact rfl) (loc_pickI true (by assumption) rfl rfl) ?_; refine RunL.val (by exact rfl) (loc_moveC rfl) ?_; refine RunL.skip (.inl ⟨_, _, rfl, rfl, guard_eq false (by assumption) rfl⟩) ?_; refine RunL.skip (.inl ⟨_, _, rfl, rfl, guard_eq false (by assumption) rfl⟩) ?_; refine RunL.skip (.inl ⟨_, _, rfl, rfl, guard_eq false (by assumption) rfl⟩) ?_; refine RunL.val (by exact rfl) (loc_pickI false (by assumption) rfl rfl) ?_; refine RunL.val (by exact rfl) (loc_assignC rfl) ?_; refine RunL.nil ?_
          exact ⟨_, _, (gh_lit [(1, .one (.int .i64 ar)), (2, .one (.int .i64 (ow))), (3, .one (.ptr 3 0)), (7, .one (.bool (false)))] [(3, .obj a.c)] [] [] ⟨(WkU.of_eq rfl trivial), (WkU.of_eq rfl trivial), (WkU.of_eq rfl trivial), (WkU.of_eq rfl trivial), trivial⟩ ⟨(by exact Or.inl ⟨_, rfl, WkBlk.refl _⟩), trivial⟩ trivial trivial rfl rfl ⟨trivial, trivial, ⟨_, rfl⟩, trivial, trivial⟩ ⟨(by refine And.intro ?_ ?_; exact trivial; refine And.intro ?_ ?_; exact trivial; refine And.intro ?_ ?_; exact trivial; refine And.intro ?_ ?_; exact trivial; refine And.intro ?_ ?_; exact trivial; refine And.intro ?_ ?_; exact trivial; refine And.intro ?_ ?_; exact trivial; exact trivial), trivial⟩), by simp, rfl⟩
      | false =>
        refine AW.seq ?_; refine AW.region (by kernel_rfl) ?_; refine RunL.val (by exact rfl) (loc_fieldAddr rfl) ?_; refine RunL.val (by exact rfl) (loc_load rfl rfl rfl) ?_; refine RunL.nil ?_; refine AW.block ?_; refine AW.seq ?_; refine AW.region (by kernel_rfl) ?_; refine RunL.val (by exact rfl) (loc_binInt rfl rfl rfl) ?_; refine RunL.val (by exact rfl) (loc_assignC rfl) ?_; refine RunL.nil ?_; refine AW.condFa (by exact rfl) (by assumption) ?_; refine AW.seq ?_; refine AW.region (by kernel_rfl) ?_; refine RunL.val (by exact rfl) (loc_binInt rfl rfl rfl) ?_; refine RunL.val (by exact rfl) (loc_assignC rfl) ?_; refine RunL.nil ?_; refine AW.condFa (by exact rfl) (by assumption) ?_; refine AW.seq ?_; refine AW.region (by kernel_rfl) ?_; refine RunL.val (by exact rfl) (loc_binInt rfl rfl rfl) ?_; refine RunL.val (by exact rfl) (loc_assignC rfl) ?_; refine RunL.nil ?_; refine AW.condTa (by exact rfl) (by assumption) ?_; refine AW.region (by kernel_rfl) ?_; refine RunL.val (by exact rfl) (loc_fieldAddr rfl) ?_; refine RunL.val (by exact rfl) (loc_load rfl rfl rfl) ?_; refine RunL.val (by exact rfl) (loc_fieldAddr rfl) ?_; refine RunL.val (by exact rfl) (loc_load rfl rfl rfl) ?_; refine RunL.val (by exact rfl) (loc_binInt rfl rfl rfl) ?_; refine RunL.val (by exact rfl) (loc_fieldAddr rfl) ?_; refine RunL.val (by exact rfl) (loc_load rfl rfl rfl) ?_; refine RunL.val (by exact rfl) (loc_binInt rfl rfl rfl) ?_; refine RunL.val (by exact rfl) (loc_moveC rfl) ?_; refine RunL.skip (.inl ⟨_, _, rfl, rfl, guard_eq false (by assumption) rfl⟩) ?_; refine RunL.skip (.inl ⟨_, _, rfl, rfl, guard_eq false (by assumption) rfl⟩) ?_; refine RunL.skip (.inl ⟨_, _, rfl, rfl, guard_eq false (by assumption) rfl⟩) ?_; refine RunL.val (by exact rfl) (loc_pickI false (by assumption) rfl rfl) ?_; refine RunL.val (by exact rfl) (loc_moveC rfl) ?_; refine RunL.skip (.inl ⟨_, _, rfl, rfl, rfl⟩) ?_; refine RunL.skip (.inl ⟨_, _, rfl, rfl, rfl⟩) ?_; refine RunL.skip (.inl ⟨_, _, rfl, rfl, rfl⟩) ?_; refine RunL.val (by exact rfl) (loc_pickF rfl rfl) ?_; refine RunL.val (by exact rfl) (loc_assignC rfl) ?_; refine RunL.nil ?_
        exact ⟨_, _, (gh_lit [(1, .one (.int .i64 ar)), (2, .one (.int .i64 (ow))), (3, .one (.ptr 3 0)), (7, .one (.bool (false)))] [(3, .obj a.c)] [] [] ⟨(WkU.of_eq rfl trivial), (WkU.of_eq rfl trivial), (WkU.of_eq rfl trivial), (WkU.of_eq rfl trivial), trivial⟩ ⟨(by exact Or.inl ⟨_, rfl, WkBlk.refl _⟩), trivial⟩ trivial trivial rfl rfl ⟨trivial, trivial, ⟨_, rfl⟩, trivial, trivial⟩ ⟨(by refine And.intro ?_ ?_; exact trivial; refine And.intro ?_ ?_; exact trivial; refine And.intro ?_ ?_; exact trivial; refine And.intro ?_ ?_; exact trivial; refine And.intro ?_ ?_; exact trivial; refine And.intro ?_ ?_; exact trivial; refine And.intro ?_ ?_; exact trivial; exact trivial), trivial⟩), by simp, rfl⟩
    | false =>
      rw [show a.num ar ow = (a.n == 0) by simp [Tm.num, k1', k2', k3']]
      refine AW.seq ?_; refine AW.region (by kernel_rfl) ?_; refine RunL.val (by exact rfl) (loc_fieldAddr rfl) ?_; refine RunL.val (by exact rfl) (loc_load rfl rfl rfl) ?_; refine RunL.nil ?_; refine AW.block ?_; refine AW.seq ?_; refine AW.region (by kernel_rfl) ?_; refine RunL.val (by exact rfl) (loc_binInt rfl rfl rfl) ?_; refine RunL.val (by exact rfl) (loc_assignC rfl) ?_; refine RunL.nil ?_; refine AW.condFa (by exact rfl) (by assumption) ?_; refine AW.seq ?_; refine AW.region (by kernel_rfl) ?_; refine RunL.val (by exact rfl) (loc_binInt rfl rfl rfl) ?_; refine RunL.val (by exact rfl) (loc_assignC rfl) ?_; refine RunL.nil ?_; refine AW.condFa (by exact rfl) (by assumption) ?_; refine AW.seq ?_; refine AW.region (by kernel_rfl) ?_; refine RunL.val (by exact rfl) (loc_binInt rfl rfl rfl) ?_; refine RunL.val (by exact rfl) (loc_assignC rfl) ?_; refine RunL.nil ?_; refine AW.condFa (by exact rfl) (by assumption) ?_; refine AW.skip ?_
      exact ⟨_, _, (gh_lit [(1, .one (.int .i64 ar)), (2, .one (.int .i64 (ow))), (3, .one (.ptr 3 0)), (7, .one (.bool (a.n == 0)))] [(3, .obj a.c)] [] [] ⟨(WkU.of_eq rfl trivial), (WkU.of_eq rfl trivial), (WkU.of_eq rfl trivial), (WkU.of_eq rfl trivial), trivial⟩ ⟨(by exact Or.inl ⟨_, rfl, WkBlk.refl _⟩), trivial⟩ trivial trivial rfl rfl ⟨trivial, trivial, ⟨_, rfl⟩, trivial, trivial⟩ ⟨(by refine And.intro ?_ ?_; exact trivial; refine And.intro ?_ ?_; exact trivial; refine And.intro ?_ ?_; exact trivial; refine And.intro ?_ ?_; exact trivial; refine And.intro ?_ ?_; exact trivial; refine And.intro ?_ ?_; exact trivial; refine And.intro ?_ ?_; exact trivial; exact trivial), trivial⟩), by simp, rfl⟩
  · rintro t h ⟨rfl, rfl⟩
    generalize a.num ar ow = nm at *
    refine AW.seq ?_
    refine AW.midC (fun t h => t = tOfL [(1, .one (.int .i64 ar)), (2, .one (.int .i64 (ow))), (3, .one (.ptr 3 0)), (7, .one (.bool (a.fit ar ow)))] ∧ h = ofL [(3, .obj a.c)]) ?_ ?_
    · rw [hfit]
      cases k7 : (a.k == 7 || a.k == 9) with
      | true =>
        cases nm with
        | true =>
          cases k7' : (a.k == 7) with
          | true =>
            refine AW.seq ?_; refine AW.region (by kernel_rfl) ?_; refine RunL.val (by exact rfl) (loc_fieldAddr rfl) ?_; refine RunL.val (by exact rfl) (loc_load rfl rfl rfl) ?_; refine RunL.val (by exact rfl) (loc_binInt rfl rfl rfl) ?_; refine RunL.val (by exact rfl) (loc_moveC rfl) ?_; refine RunL.skip (.inl ⟨_, _, rfl, rfl, guard_eq true (by assumption) rfl⟩) ?_; refine RunL.skip (.inl ⟨_, _, rfl, rfl, guard_eq true (by assumption) rfl⟩) ?_; refine RunL.skip (.inl ⟨_, _, rfl, rfl, guard_eq true (by assumption) rfl⟩) ?_; refine RunL.val (by exact rfl) (loc_pickI true (by assumption) rfl rfl) ?_; refine RunL.nil ?_; refine AW.condT (by exact rfl) ?_; refine AW.region (by kernel_rfl) ?_; refine RunL.val (by exact rfl) (loc_moveC rfl) ?_; refine RunL.val (by exact rfl) (loc_moveC rfl) ?_; refine RunL.val (by exact .inl ⟨_, _, rfl, rfl, rfl⟩) (loc_fieldAddr rfl) ?_; refine RunL.val (by exact .inl ⟨_, _, rfl, rfl, rfl⟩) (loc_loadA rfl rfl (by exact Cut.cons (by exact rfl) (Cut.cons (by exact rfl) Cut.nil))) ?_
            refine RunL.val (by exact .inl ⟨_, _, rfl, rfl, rfl⟩) (loc_fun sd rfl (by refine ⟨_, _, rfl, (by exact LeU.of_eq rfl trivial), (by (refine And.intro ?_ ?_; exact trivial; refine And.intro ?_ ?_; exact trivial; exact trivial; done)), ?_⟩; exact rfl)) ?_
            refine RunL.val (by exact rfl) (loc_pickT rfl rfl) ?_; refine RunL.val (by exact rfl) (loc_assignC rfl) ?_; refine RunL.nil ?_
            exact ⟨_, _, (gh_lit [(1, .one (.int .i64 ar)), (2, .one (.int .i64 (ow))), (3, .one (.ptr 3 0)), (7, .one (.bool (a.t.good 4)))] [(3, .obj a.c)] [] [] ⟨(WkU.of_eq rfl trivial), (WkU.of_eq rfl trivial), (WkU.of_eq rfl trivial), (WkU.of_eq rfl trivial), trivial⟩ ⟨(by exact Or.inl ⟨_, rfl, WkBlk.refl _⟩), trivial⟩ trivial trivial rfl rfl ⟨trivial, trivial, ⟨_, rfl⟩, trivial, trivial⟩ ⟨(by refine And.intro ?_ ?_; exact trivial; refine And.intro ?_ ?_; exact trivial; refine And.intro ?_ ?_; exact trivial; refine And.intro ?_ ?_; exact trivial; refine And.intro ?_ ?_; exact trivial; refine And.intro ?_ ?_; exact trivial; refine And.intro ?_ ?_; exact trivial; exact trivial), trivial⟩), by simp, rfl⟩
          | false =>
            have k9' : (a.k == 9) = true := by rw [k7'] at k7; simpa using k7
            refine AW.seq ?_; refine AW.region (by kernel_rfl) ?_; refine RunL.val (by exact rfl) (loc_fieldAddr rfl) ?_; refine RunL.val (by exact rfl) (loc_load rfl rfl rfl) ?_; refine RunL.val (by exact rfl) (loc_binInt rfl rfl rfl) ?_; refine RunL.val (by exact rfl) (loc_moveC rfl) ?_; refine RunL.val (by exact .inl ⟨_, _, rfl, rfl, guard_eq false (by assumption) rfl⟩) (loc_fieldAddr rfl) ?_; refine RunL.val (by exact .inl ⟨_, _, rfl, rfl, guard_eq false (by assumption) rfl⟩) (loc_load rfl rfl rfl) ?_; refine RunL.val (by exact .inl ⟨_, _, rfl, rfl, guard_eq false (by assumption) rfl⟩) (loc_binInt rfl rfl rfl) ?_; refine RunL.val (by exact rfl) (loc_pickI false (by assumption) rfl rfl) ?_; refine RunL.nil ?_; refine AW.condTa (by exact rfl) (by assumption) ?_; refine AW.region (by kernel_rfl) ?_; refine RunL.val (by exact rfl) (loc_moveC rfl) ?_; refine RunL.val (by exact rfl) (loc_moveC rfl) ?_; refine RunL.val (by exact .inl ⟨_, _, rfl, rfl, rfl⟩) (loc_fieldAddr rfl) ?_; refine RunL.val (by exact .inl ⟨_, _, rfl, rfl, rfl⟩) (loc_loadA rfl rfl (by exact Cut.cons (by exact rfl) (Cut.cons (by exact rfl) Cut.nil))) ?_
            refine RunL.val (by exact .inl ⟨_, _, rfl, rfl, rfl⟩) (loc_fun sd rfl (by refine ⟨_, _, rfl, (by exact LeU.of_eq rfl trivial), (by (refine And.intro ?_ ?_; exact trivial; refine And.intro ?_ ?_; exact trivial; exact trivial; done)), ?_⟩; exact rfl)) ?_
            refine RunL.val (by exact rfl) (loc_pickT rfl rfl) ?_; refine RunL.val (by exact rfl) (loc_assignC rfl) ?_; refine RunL.nil ?_
            exact ⟨_, _, (gh_lit [(1, .one (.int .i64 ar)), (2, .one (.int .i64 (ow))), (3, .one (.ptr 3 0)), (7, .one (.bool (a.t.good 4)))] [(3, .obj a.c)] [] [] ⟨(WkU.of_eq rfl trivial), (WkU.of_eq rfl trivial), (WkU.of_eq rfl trivial), (WkU.of_eq rfl trivial), trivial⟩ ⟨(by exact Or.inl ⟨_, rfl, WkBlk.refl _⟩), trivial⟩ trivial trivial rfl rfl ⟨trivial, trivial, ⟨_, rfl⟩, trivial, trivial⟩ ⟨(by refine And.intro ?_ ?_; exact trivial; refine And.intro ?_ ?_; exact trivial; refine And.intro ?_ ?_; exact trivial; refine And.intro ?_ ?_; exact trivial; refine And.intro ?_ ?_; exact trivial; refine And.intro ?_ ?_; exact trivial; refine And.intro ?_ ?_; exact trivial; exact trivial), trivial⟩), by simp, rfl⟩
        | false =>
          cases k7' : (a.k == 7) with
          | true =>
            refine AW.seq ?_; refine AW.region (by kernel_rfl) ?_; refine RunL.val (by exact rfl) (loc_fieldAddr rfl) ?_; refine RunL.val (by exact rfl) (loc_load rfl rfl rfl) ?_; refine RunL.val (by exact rfl) (loc_binInt rfl rfl rfl) ?_; refine RunL.val (by exact rfl) (loc_moveC rfl) ?_; refine RunL.skip (.inl ⟨_, _, rfl, rfl, guard_eq true (by assumption) rfl⟩) ?_; refine RunL.skip (.inl ⟨_, _, rfl, rfl, guard_eq true (by assumption) rfl⟩) ?_; refine RunL.skip (.inl ⟨_, _, rfl, rfl, guard_eq true (by assumption) rfl⟩) ?_; refine RunL.val (by exact rfl) (loc_pickI true (by assumption) rfl rfl) ?_; refine RunL.nil ?_; refine AW.condT (by exact rfl) ?_; refine AW.region (by kernel_rfl) ?_; refine RunL.val (by exact rfl) (loc_moveC rfl) ?_; refine RunL.val (by exact rfl) (loc_moveC rfl) ?_; refine RunL.skip (.inl ⟨_, _, rfl, rfl, rfl⟩) ?_; refine RunL.skip (.inl ⟨_, _, rfl, rfl, rfl⟩) ?_; refine RunL.skip (.inl ⟨_, _, rfl, rfl, rfl⟩) ?_; refine RunL.val (by exact rfl) (loc_pickF rfl rfl) ?_; refine RunL.val (by exact rfl) (loc_assignC rfl) ?_; refine RunL.nil ?_
            exact ⟨_, _, (gh_lit [(1, .one (.int .i64 ar)), (2, .one (.int .i64 (ow))), (3, .one (.ptr 3 0)), (7, .one (.bool (false)))] [(3, .obj a.c)] [] [] ⟨(WkU.of_eq rfl trivial), (WkU.of_eq rfl trivial), (WkU.of_eq rfl trivial), (WkU.of_eq rfl trivial), trivial⟩ ⟨(by exact Or.inl ⟨_, rfl, WkBlk.refl _⟩), trivial⟩ trivial trivial rfl rfl ⟨trivial, trivial, ⟨_, rfl⟩, trivial, trivial⟩ ⟨(by refine And.intro ?_ ?_; exact trivial; refine And.intro ?_ ?_; exact trivial; refine And.intro ?_ ?_; exact trivial; refine And.intro ?_ ?_; exact trivial; refine And.intro ?_ ?_; exact trivial; refine And.intro ?_ ?_; exact trivial; refine And.intro ?_ ?_; exact trivial; exact trivial), trivial⟩), by simp, rfl⟩
          | false =>
            have k9' : (a.k == 9) = true := by rw [k7'] at k7; simpa using k7
            refine AW.seq ?_; refine AW.region (by kernel_rfl) ?_; refine RunL.val (by exact rfl) (loc_fieldAddr rfl) ?_; refine RunL.val (by exact rfl) (loc_load rfl rfl rfl) ?_; refine RunL.val (by exact rfl) (loc_binInt rfl rfl rfl) ?_; refine RunL.val (by exact rfl) (loc_moveC rfl) ?_; refine RunL.val (by exact .inl ⟨_, _, rfl, rfl, guard_eq false (by assumption) rfl⟩) (loc_fieldAddr rfl) ?_; refine RunL.val (by exact .inl ⟨_, _, rfl, rfl, guard_eq false (by assumption) rfl⟩) (loc_load rfl rfl rfl) ?_; refine RunL.val (by exact .inl ⟨_, _, rfl, rfl, guard_eq false (by assumption) rfl⟩) (loc_binInt rfl rfl rfl) ?_; refine RunL.val (by exact rfl) (loc_pickI false (by assumption) rfl rfl) ?_; refine RunL.nil ?_; refine AW.condTa (by exact rfl) (by assumption) ?_; refine AW.region (by kernel_rfl) ?_; refine RunL.val (by exact rfl) (loc_moveC rfl) ?_; refine RunL.val (by exact rfl) (loc_moveC rfl) ?_; refine RunL.skip (.inl ⟨_, _, rfl, rfl, rfl⟩) ?_; refine RunL.skip (.inl ⟨_, _, rfl, rfl, rfl⟩) ?_; refine RunL.skip (.inl ⟨_, _, rfl, rfl, rfl⟩) ?_; refine RunL.val (by exact rfl) (loc_pickF rfl rfl) ?_; refine RunL.val (by exact rfl) (loc_assignC rfl) ?_; refine RunL.nil ?_
            exact ⟨_, _, (gh_lit [(1, .one (.int .i64 ar)), (2, .one (.int .i64 (ow))), (3, .one (.ptr 3 0)), (7, .one (.bool (false)))] [(3, .obj a.c)] [] [] ⟨(WkU.of_eq rfl trivial), (WkU.of_eq rfl trivial), (WkU.of_eq rfl trivial), (WkU.of_eq rfl trivial), trivial⟩ ⟨(by exact Or.inl ⟨_, rfl, WkBlk.refl _⟩), trivial⟩ trivial trivial rfl rfl ⟨trivial, trivial, ⟨_, rfl⟩, trivial, trivial⟩ ⟨(by refine And.intro ?_ ?_; exact trivial; refine And.intro ?_ ?_; exact trivial; refine And.intro ?_ ?_; exact trivial; refine And.intro ?_ ?_; exact trivial; refine And.intro ?_ ?_; exact trivial; refine And.intro ?_ ?_; exact trivial; refine And.intro ?_ ?_; exact trivial; exact trivial), trivial⟩), by simp, rfl⟩
      | false =>
        rw [Bool.or_eq_false_iff] at k7
        obtain ⟨k7', k9'⟩ := k7
        cases nm with
        | true =>
          refine AW.seq ?_; refine AW.region (by kernel_rfl) ?_; refine RunL.val (by exact rfl) (loc_fieldAddr rfl) ?_; refine RunL.val (by exact rfl) (loc_load rfl rfl rfl) ?_; refine RunL.val (by exact rfl) (loc_binInt rfl rfl rfl) ?_; refine RunL.val (by exact rfl) (loc_moveC rfl) ?_; refine RunL.val (by exact .inl ⟨_, _, rfl, rfl, guard_eq false (by assumption) rfl⟩) (loc_fieldAddr rfl) ?_; refine RunL.val (by exact .inl ⟨_, _, rfl, rfl, guard_eq false (by assumption) rfl⟩) (loc_load rfl rfl rfl) ?_; refine RunL.val (by exact .inl ⟨_, _, rfl, rfl, guard_eq false (by assumption) rfl⟩) (loc_binInt rfl rfl rfl) ?_; refine RunL.val (by exact rfl) (loc_pickI false (by assumption) rfl rfl) ?_; refine RunL.nil ?_; refine AW.condFa (by exact rfl) (by assumption) ?_; refine AW.regionD (by kernel_rfl) (by kernel_rfl) (by kernel_rfl) ?_; refine RunL.val (by exact rfl) (loc_moveC rfl) ?_; refine RunL.val (by exact rfl) (loc_moveC rfl) ?_; refine RunL.val (by exact .inl ⟨_, _, rfl, rfl, rfl⟩) (loc_fieldAddr rfl) ?_; refine RunL.val (by exact .inl ⟨_, _, rfl, rfl, rfl⟩) (loc_loadA rfl rfl (by exact Cut.cons (by exact rfl) (Cut.cons (by exact rfl) Cut.nil))) ?_
          refine RunL.val (by exact .inl ⟨_, _, rfl, rfl, rfl⟩) (loc_fun any0_a rfl (by exact rfl)) ?_
          refine RunL.val (by exact .inl ⟨_, _, rfl, rfl, rfl⟩) (loc_fun st rfl (by refine ⟨_, _, rfl, (by exact LeU.of_eq rfl trivial), (by (refine And.intro ?_ ?_; exact trivial; refine And.intro ?_ ?_; exact trivial; exact trivial; done)), ?_⟩; refine ⟨_, _, rfl, (by exact LeU.of_eq rfl trivial), (by (refine And.intro ?_ ?_; exact trivial; refine And.intro ?_ ?_; exact trivial; exact trivial; done)), ?_⟩; exact rfl)) ?_
          refine RunL.val (by exact rfl) (loc_pickT rfl rfl) ?_; refine RunL.val (by exact rfl) (loc_assignC rfl) ?_; refine RunL.nilD (by kernel_rfl) ?_
          exact ⟨_, _, (gh_lit [(1, .one (.int .i64 ar)), (2, .one (.int .i64 (ow))), (3, .one (.ptr 3 0)), (7, .one (.bool (a.t.same .any)))] [(3, .obj a.c)] [] [] ⟨(WkU.of_eq rfl trivial), (WkU.of_eq rfl trivial), (WkU.of_eq rfl trivial), (WkU.of_eq rfl trivial), trivial⟩ ⟨(by exact Or.inl ⟨_, rfl, WkBlk.refl _⟩), trivial⟩ trivial trivial rfl rfl ⟨trivial, trivial, ⟨_, rfl⟩, trivial, trivial⟩ ⟨(by refine And.intro ?_ ?_; exact trivial; refine And.intro ?_ ?_; exact trivial; refine And.intro ?_ ?_; exact trivial; refine And.intro ?_ ?_; exact trivial; refine And.intro ?_ ?_; exact trivial; refine And.intro ?_ ?_; exact trivial; refine And.intro ?_ ?_; exact trivial; exact trivial), trivial⟩), by simp, rfl⟩
        | false =>
          refine AW.seq ?_; refine AW.region (by kernel_rfl) ?_; refine RunL.val (by exact rfl) (loc_fieldAddr rfl) ?_; refine RunL.val (by exact rfl) (loc_load rfl rfl rfl) ?_; refine RunL.val (by exact rfl) (loc_binInt rfl rfl rfl) ?_; refine RunL.val (by exact rfl) (loc_moveC rfl) ?_; refine RunL.val (by exact .inl ⟨_, _, rfl, rfl, guard_eq false (by assumption) rfl⟩) (loc_fieldAddr rfl) ?_; refine RunL.val (by exact .inl ⟨_, _, rfl, rfl, guard_eq false (by assumption) rfl⟩) (loc_load rfl rfl rfl) ?_; refine RunL.val (by exact .inl ⟨_, _, rfl, rfl, guard_eq false (by assumption) rfl⟩) (loc_binInt rfl rfl rfl) ?_; refine RunL.val (by exact rfl) (loc_pickI false (by assumption) rfl rfl) ?_; refine RunL.nil ?_; refine AW.condFa (by exact rfl) (by assumption) ?_; refine AW.regionD (by kernel_rfl) (by kernel_rfl) (by kernel_rfl) ?_; refine RunL.val (by exact rfl) (loc_moveC rfl) ?_; refine RunL.val (by exact rfl) (loc_moveC rfl) ?_; refine RunL.skip (.inl ⟨_, _, rfl, rfl, rfl⟩) ?_; refine RunL.skip (.inl ⟨_, _, rfl, rfl, rfl⟩) ?_; refine RunL.skip (.inl ⟨_, _, rfl, rfl, rfl⟩) ?_; refine RunL.skip (.inl ⟨_, _, rfl, rfl, rfl⟩) ?_; refine RunL.val (by exact rfl) (loc_pickF rfl rfl) ?_; refine RunL.val (by exact rfl) (loc_assignC rfl) ?_; refine RunL.nilD (by kernel_rfl) ?_
          exact ⟨_, _, (gh_lit [(1, .one (.int .i64 ar)), (2, .one (.int .i64 (ow))), (3, .one (.ptr 3 0)), (7, .one (.bool (false)))] [(3, .obj a.c)] [] [] ⟨(WkU.of_eq rfl trivial), (WkU.of_eq rfl trivial), (WkU.of_eq rfl trivial), (WkU.of_eq rfl trivial), trivial⟩ ⟨(by exact Or.inl ⟨_, rfl, WkBlk.refl _⟩), trivial⟩ trivial trivial rfl rfl ⟨trivial, trivial, ⟨_, rfl⟩, trivial, trivial⟩ ⟨(by refine And.intro ?_ ?_; exact trivial; refine And.intro ?_ ?_; exact trivial; refine And.intro ?_ ?_; exact trivial; refine And.intro ?_ ?_; exact trivial; refine And.intro ?_ ?_; exact trivial; refine And.intro ?_ ?_; exact trivial; refine And.intro ?_ ?_; exact trivial; exact trivial), trivial⟩), by simp, rfl⟩
    · rintro t h ⟨rfl, rfl⟩
      clear hfit
      have hdrop : a.good ar ow = (a.fit ar ow && goodL (a.l.drop 0) ar (if a.k == 7 then ow + 1 else ow)) := by rw [hge, List.drop_zero]
      generalize a.fit ar ow = ok0 at *
      refine AW.seq ?_
      refine AW.midC (fun t h => t = tOfL [(1, .one (.int .i64 ar)), (2, .one (.int .i64 ((if a.k == 7 then ow + 1 else ow)))), (3, .one (.ptr 3 0)), (7, .one (.bool (ok0)))] ∧ h = ofL [(3, .obj a.c)]) ?_ ?_
      · cases k7 : (a.k == 7) with
        | true =>
          refine AW.seq ?_; refine AW.region (by kernel_rfl) ?_; refine RunL.val (by exact rfl) (loc_fieldAddr rfl) ?_; refine RunL.val (by exact rfl) (loc_load rfl rfl rfl) ?_; refine RunL.val (by exact rfl) (loc_binInt rfl rfl rfl) ?_; refine RunL.nil ?_; refine AW.condTa (by exact rfl) (by assumption) ?_; refine AW.region (by kernel_rfl) ?_; refine RunL.val (by exact rfl) (loc_moveC rfl) ?_; refine RunL.val (by exact rfl) (loc_addB rfl rfl (by omega)) ?_; refine RunL.val (by exact rfl) (loc_assignC rfl) ?_; refine RunL.nil ?_
          exact ⟨_, _, (gh_lit [(1, .one (.int .i64 ar)), (2, .one (.int .i64 ((ow + 1)))), (3, .one (.ptr 3 0)), (7, .one (.bool (ok0)))] [(3, .obj a.c)] [] [] ⟨(WkU.of_eq rfl trivial), (WkU.of_eq rfl trivial), (WkU.of_eq rfl trivial), (WkU.of_eq rfl trivial), trivial⟩ ⟨(by exact Or.inl ⟨_, rfl, WkBlk.refl _⟩), trivial⟩ trivial trivial rfl rfl ⟨trivial, trivial, ⟨_, rfl⟩, trivial, trivial⟩ ⟨(by refine And.intro ?_ ?_; exact trivial; refine And.intro ?_ ?_; exact trivial; refine And.intro ?_ ?_; exact trivial; refine And.intro ?_ ?_; exact trivial; refine And.intro ?_ ?_; exact trivial; refine And.intro ?_ ?_; exact trivial; refine And.intro ?_ ?_; exact trivial; exact trivial), trivial⟩), by simp, rfl⟩
        | false =>
          refine AW.seq ?_; refine AW.region (by kernel_rfl) ?_; refine RunL.val (by exact rfl) (loc_fieldAddr rfl) ?_; refine RunL.val (by exact rfl) (loc_load rfl rfl rfl) ?_; refine RunL.val (by exact rfl) (loc_binInt rfl rfl rfl) ?_; refine RunL.nil ?_; refine AW.condFa (by exact rfl) (by assumption) ?_; refine AW.skip ?_
          exact ⟨_, _, (gh_lit [(1, .one (.int .i64 ar)), (2, .one (.int .i64 (ow))), (3, .one (.ptr 3 0)), (7, .one (.bool (ok0)))] [(3, .obj a.c)] [] [] ⟨(WkU.of_eq rfl trivial), (WkU.of_eq rfl trivial), (WkU.of_eq rfl trivial), (WkU.of_eq rfl trivial), trivial⟩ ⟨(by exact Or.inl ⟨_, rfl, WkBlk.refl _⟩), trivial⟩ trivial trivial rfl rfl ⟨trivial, trivial, ⟨_, rfl⟩, trivial, trivial⟩ ⟨(by refine And.intro ?_ ?_; exact trivial; refine And.intro ?_ ?_; exact trivial; refine And.intro ?_ ?_; exact trivial; refine And.intro ?_ ?_; exact trivial; refine And.intro ?_ ?_; exact trivial; refine And.intro ?_ ?_; exact trivial; refine And.intro ?_ ?_; exact trivial; exact trivial), trivial⟩), by simp, rfl⟩
      · rintro t h ⟨rfl, rfl⟩
        have how : 0 ≤ (if a.k == 7 then ow + 1 else ow) ∧ (if a.k == 7 then ow + 1 else ow) ≤ ow + 1 := by split <;> omega
        generalize (if a.k == 7 then ow + 1 else ow) = ow' at *
        refine AW.seq ?_; refine AW.seq ?_; refine AW.region (by kernel_rfl) ?_; refine RunL.val (by exact rfl) (loc_fieldAddr rfl) ?_; refine RunL.val (by exact rfl) (loc_load rfl rfl rfl) ?_; refine RunL.val (by exact rfl) (loc_lenSl rfl) ?_; refine RunL.val (by exact rfl) (loc_moveC rfl) ?_; refine RunL.nil ?_; refine AW.block ?_
        refine AW.gh (gh_lit [(1, .one (.int .i64 ar)), (2, .one (.int .i64 (ow'))), (3, .one (.ptr 3 0)), (7, .one (.bool (ok0))), (109, .one (slOf 7 (tmRows a.l))), (110, .one (.int .i64 ((tmRows a.l).length : Nat))), (111, .one (.int .i64 ((0 : Nat) : Int)))] [(3, .obj a.c)] [] [] ⟨(WkU.of_eq rfl trivial), (WkU.of_eq rfl trivial), (WkU.of_eq rfl trivial), (WkU.of_eq rfl trivial), (by exact WkU.of_eq rfl trivial), (WkU.of_eq rfl trivial), (WkU.of_eq rfl trivial), trivial⟩ ⟨(by exact Or.inl ⟨_, rfl, WkBlk.refl _⟩), trivial⟩ trivial trivial rfl rfl ⟨trivial, trivial, ⟨_, rfl⟩, trivial, trivial, trivial, trivial, trivial⟩ ⟨(by refine And.intro ?_ ?_; exact trivial; refine And.intro ?_ ?_; exact trivial; refine And.intro ?_ ?_; exact trivial; refine And.intro ?_ ?_; exact trivial; refine And.intro ?_ ?_; exact trivial; refine And.intro ?_ ?_; exact trivial; refine And.intro ?_ ?_; exact trivial; exact trivial), trivial⟩) ?_
        refine AW.lenSl 109 rfl fun hmax => ?_
        refine AW.loop (fun m t h => ∃ i : Nat, ∃ ok : Bool, i ≤ a.l.length ∧ m = a.l.length - i ∧ a.good ar ow = (ok && goodL (a.l.drop i) ar ow') ∧ t = tOfL [(1, .one (.int .i64 ar)), (2, .one (.int .i64 (ow'))), (3, .one (.ptr 3 0)), (7, .one (.bool (ok))), (109, .one (slOf 7 (tmRows a.l))), (110, .one (.int .i64 ((tmRows a.l).length : Nat))), (111, .one (.int .i64 ((i : Nat) : Int)))] ∧ h = ofL [(3, .obj a.c)]) a.l.length ⟨0, ok0, Nat.zero_le _, rfl, hdrop, rfl, rfl⟩ ?_
        rintro m t h ⟨i, ok, hi, rfl, hinv, rfl, rfl⟩
        clear hge hdrop
        cases hlt : decide ((i : Int) < ((tmRows a.l).length : Nat)) with
        | false =>
          have hil : i = a.l.length := by simp at hlt; omega
          refine AW.seq ?_; refine AW.region (by kernel_rfl) ?_; refine RunL.val (by exact rfl) (loc_binInt rfl rfl rfl) ?_; refine RunL.nil ?_; refine AW.seq ?_; refine AW.condFa (by exact rfl) (by assumption) ?_; refine AW.exit ?_; refine AW.seq ?_; refine AW.region (by kernel_rfl) ?_; refine RunL.val (by exact rfl) (loc_moveC rfl) ?_; refine RunL.val (by exact rfl) (loc_assignC rfl) ?_; refine RunL.nil ?_; refine AW.ret ?_
          rw [hinv, hil, List.drop_length, show goodL [] ar ow' = true from rfl, Bool.and_true]
          exact ret_same (.inr rfl) rfl trivial
        | true =>
          have hil : i < a.l.length := by simp at hlt; omega
          have hr1 := tmRows_get hil
          have hs := goodL_drop hil ar ow'
          have hn3 := nodes_mem (List.getElem_mem hil)
          cases ok with
          | false =>
            refine AW.seq ?_; refine AW.region (by kernel_rfl) ?_; refine RunL.val (by exact rfl) (loc_binInt rfl rfl rfl) ?_; refine RunL.nil ?_; refine AW.seq ?_; refine AW.condTa (by exact rfl) (by assumption) ?_; refine AW.skip ?_; refine AW.seq ?_; refine AW.block ?_; refine AW.seq ?_; refine AW.region (by kernel_rfl) ?_; refine RunL.val (by exact rfl) (loc_indexSl _ rfl rfl rfl (by assumption) rfl) ?_; refine RunL.val (by exact rfl) (loc_loadFA rfl (by exact Cut.all (by exact rfl))) ?_; refine RunL.mem (by exact rfl) (loc_allocD rfl rfl) ?_; refine RunL.eff (by exact rfl) (loc_storeW rfl rfl rfl rfl (by exact rfl) (by exact rfl)) ?_; refine RunL.nil ?_; refine AW.region (by kernel_rfl) ?_; refine RunL.val (by exact rfl) (loc_moveC rfl) ?_; refine RunL.val (by exact rfl) (loc_moveC rfl) ?_; refine RunL.skip (.inl ⟨_, _, rfl, rfl, rfl⟩) ?_; refine RunL.skip (.inl ⟨_, _, rfl, rfl, rfl⟩) ?_; refine RunL.skip (.inl ⟨_, _, rfl, rfl, rfl⟩) ?_; refine RunL.skip (.inl ⟨_, _, rfl, rfl, rfl⟩) ?_; refine RunL.val (by exact rfl) (loc_pickF rfl rfl) ?_; refine RunL.val (by exact rfl) (loc_assignC rfl) ?_; refine RunL.nil ?_; refine AW.region (by kernel_rfl) ?_; refine RunL.val (by exact rfl) (loc_inc rfl rfl (by omega)) ?_; refine RunL.val (by exact rfl) (loc_moveC rfl) ?_; refine RunL.nil ?_
            exact ⟨a.l.length - (i + 1), _, _, by omega, (gh_lit [(1, .one (.int .i64 ar)), (2, .one (.int .i64 (ow'))), (3, .one (.ptr 3 0)), (7, .one (.bool (false))), (109, .one (slOf 7 (tmRows a.l))), (110, .one (.int .i64 ((tmRows a.l).length : Nat))), (111, .one (.int .i64 (((i + 1) : Nat) : Int)))] [(3, .obj a.c)] [] [] ⟨(WkU.of_eq rfl trivial), (WkU.of_eq rfl trivial), (WkU.of_eq rfl trivial), (WkU.of_eq rfl trivial), (by exact WkU.of_eq rfl trivial), (WkU.of_eq rfl trivial), (WkU.of_eq rfl trivial), trivial⟩ ⟨(by exact Or.inl ⟨_, rfl, WkBlk.refl _⟩), trivial⟩ trivial trivial rfl rfl ⟨trivial, trivial, ⟨_, rfl⟩, trivial, trivial, trivial, trivial, trivial⟩ ⟨(by refine And.intro ?_ ?_; exact trivial; refine And.intro ?_ ?_; exact trivial; refine And.intro ?_ ?_; exact trivial; refine And.intro ?_ ?_; exact trivial; refine And.intro ?_ ?_; exact trivial; refine And.intro ?_ ?_; exact trivial; refine And.intro ?_ ?_; exact trivial; exact trivial), trivial⟩), i + 1, _, by omega, rfl, by rw [hinv]; rfl, rfl, rfl⟩
          | true =>
            refine AW.seq ?_; refine AW.region (by kernel_rfl) ?_; refine RunL.val (by exact rfl) (loc_binInt rfl rfl rfl) ?_; refine RunL.nil ?_; refine AW.seq ?_; refine AW.condTa (by exact rfl) (by assumption) ?_; refine AW.skip ?_; refine AW.seq ?_; refine AW.block ?_; refine AW.seq ?_; refine AW.region (by kernel_rfl) ?_; refine RunL.val (by exact rfl) (loc_indexSl _ rfl rfl rfl (by assumption) rfl) ?_; refine RunL.val (by exact rfl) (loc_loadFA rfl (by exact Cut.all (by exact rfl))) ?_; refine RunL.mem (by exact rfl) (loc_allocD rfl rfl) ?_; refine RunL.eff (by exact rfl) (loc_storeW rfl rfl rfl rfl (by exact rfl) (by exact rfl)) ?_; refine RunL.nil ?_; refine AW.region (by kernel_rfl) ?_; refine RunL.val (by exact rfl) (loc_moveC rfl) ?_; refine RunL.val (by exact rfl) (loc_moveC rfl) ?_; refine RunL.val (by exact .inl ⟨_, _, rfl, rfl, rfl⟩) (loc_loadA rfl rfl (by exact Cut.all (by exact rfl))) ?_; refine RunL.val (by exact .inl ⟨_, _, rfl, rfl, rfl⟩) (loc_moveC rfl) ?_; refine RunL.val (by exact .inl ⟨_, _, rfl, rfl, rfl⟩) (loc_moveC rfl) ?_
            refine RunL.val (by exact .inl ⟨_, _, rfl, rfl, rfl⟩) (loc_fun (ih a.l[i] (List.getElem_mem _) ar ow' (hok.l _ (List.getElem_mem _)) (hdp.l _ (List.getElem_mem _)) how.1 (by omega)) rfl (by refine ⟨_, _, rfl, (by exact LeU.of_eq rfl trivial), (by (refine And.intro ?_ ?_; exact trivial; refine And.intro ?_ ?_; exact trivial; refine And.intro ?_ ?_; exact trivial; refine And.intro ?_ ?_; exact trivial; refine And.intro ?_ ?_; exact trivial; refine And.intro ?_ ?_; exact trivial; refine And.intro ?_ ?_; exact trivial; exact trivial; done)), ?_⟩; refine ⟨_, _, rfl, (by exact LeU.of_eq rfl trivial), (by exact trivial), ?_⟩; refine ⟨_, _, rfl, (by exact LeU.of_eq rfl trivial), (by exact trivial), ?_⟩; exact rfl)) ?_
            refine RunL.val (by exact rfl) (loc_pickT rfl rfl) ?_; refine RunL.val (by exact rfl) (loc_assignC rfl) ?_; refine RunL.nil ?_; refine AW.region (by kernel_rfl) ?_; refine RunL.val (by exact rfl) (loc_inc rfl rfl (by omega)) ?_; refine RunL.val (by exact rfl) (loc_moveC rfl) ?_; refine RunL.nil ?_
            exact ⟨a.l.length - (i + 1), _, _, by omega, (gh_lit [(1, .one (.int .i64 ar)), (2, .one (.int .i64 (ow'))), (3, .one (.ptr 3 0)), (7, .one (.bool (a.l[i].good ar ow'))), (109, .one (slOf 7 (tmRows a.l))), (110, .one (.int .i64 ((tmRows a.l).length : Nat))), (111, .one (.int .i64 (((i + 1) : Nat) : Int)))] [(3, .obj a.c)] [] [] ⟨(WkU.of_eq rfl trivial), (WkU.of_eq rfl trivial), (WkU.of_eq rfl trivial), (WkU.of_eq rfl trivial), (by exact WkU.of_eq rfl trivial), (WkU.of_eq rfl trivial), (WkU.of_eq rfl trivial), trivial⟩ ⟨(by exact Or.inl ⟨_, rfl, WkBlk.refl _⟩), trivial⟩ trivial trivial rfl rfl ⟨trivial, trivial, ⟨_, rfl⟩, trivial, trivial, trivial, trivial, trivial⟩ ⟨(by refine And.intro ?_ ?_; exact trivial; refine And.intro ?_ ?_; exact trivial; refine And.intro ?_ ?_; exact trivial; refine And.intro ?_ ?_; exact trivial; refine And.intro ?_ ?_; exact trivial; refine And.intro ?_ ?_; exact trivial; refine And.intro ?_ ?_; exact trivial; exact trivial), trivial⟩), i + 1, _, by omega, rfl, by rw [hinv, hs]; rfl, rfl, rfl⟩
set_option maxHeartbeats 2000000 in
theorem isTerm_a (a : Tm) (ar : Int) (hok : TmOk a) (hdp : TmDp a) (hsz : a.nodes ≤ 1048576) : ACalls Tryz.prog 25 [a.u, .one (.int .i64 ar)] [] (.one (.bool (a.Good ar))) [] := by
  refine acalls_of_body Tryz.func25 rfl (by kernel_rfl) (Nat.le_of_ble_eq_true rfl) trivial (by simp [namesL]) ?_
  refine AW.seq ?_; refine AW.region (by kernel_rfl) ?_; refine RunL.mem (by exact rfl) (loc_boxD rfl rfl rfl) ?_; refine RunL.val (by exact rfl) (loc_assignC rfl) ?_; refine RunL.nil ?_; refine AW.seq ?_; refine AW.region (by kernel_rfl) ?_; refine RunL.val (by exact rfl) (loc_loadA rfl rfl (by exact Cut.all (by exact rfl))) ?_
  refine RunL.val (by exact rfl) (loc_fun (nodesOf_a a hsz) rfl (by refine ⟨_, _, rfl, (by exact LeU.of_eq rfl trivial), (by (refine And.intro ?_ ?_; exact trivial; refine And.intro ?_ ?_; exact trivial; refine And.intro ?_ ?_; exact trivial; refine And.intro ?_ ?_; exact trivial; refine And.intro ?_ ?_; exact trivial; refine And.intro ?_ ?_; exact trivial; refine And.intro ?_ ?_; exact trivial; exact trivial; done)), ?_⟩; exact rfl)) ?_
  cases hn : decide (((a.nodes : Nat) : Int) < 41) with
  | false =>
    refine RunL.val (by exact rfl) (loc_binInt rfl rfl rfl) ?_; refine RunL.val (by exact rfl) (loc_moveC rfl) ?_; refine RunL.skip (.inl ⟨_, _, rfl, rfl, guard_eq false (by assumption) rfl⟩) ?_; refine RunL.skip (.inl ⟨_, _, rfl, rfl, guard_eq false (by assumption) rfl⟩) ?_; refine RunL.skip (.inl ⟨_, _, rfl, rfl, guard_eq false (by assumption) rfl⟩) ?_; refine RunL.val (by exact rfl) (loc_pickI false (by assumption) rfl rfl) ?_; refine RunL.val (by exact rfl) (loc_assignC rfl) ?_; refine RunL.nil ?_; refine AW.ret ?_
    rw [show a.Good ar = false by unfold Tm.Good; rw [show decide (((a.nodes : Nat) : Int) ≤ 40) = false by simp at hn ⊢; omega]; rfl]
    exact ret_same (.inr rfl) rfl trivial
  | true =>
    refine RunL.val (by exact rfl) (loc_binInt rfl rfl rfl) ?_; refine RunL.val (by exact rfl) (loc_moveC rfl) ?_; refine RunL.val (by exact .inl ⟨_, _, rfl, rfl, guard_eq true (by assumption) rfl⟩) (loc_loadA rfl rfl (by exact Cut.all (by exact rfl))) ?_; refine RunL.val (by exact .inl ⟨_, _, rfl, rfl, guard_eq true (by assumption) rfl⟩) (loc_moveC rfl) ?_
    refine RunL.val (by exact .inl ⟨_, _, rfl, rfl, guard_eq true (by assumption) rfl⟩) (loc_fun (right_a a ar 0 hok hdp (by omega) (by omega)) rfl (by refine ⟨_, _, rfl, (by exact LeU.of_eq rfl trivial), (by (refine And.intro ?_ ?_; exact trivial; refine And.intro ?_ ?_; exact trivial; refine And.intro ?_ ?_; exact trivial; refine And.intro ?_ ?_; exact trivial; refine And.intro ?_ ?_; exact trivial; refine And.intro ?_ ?_; exact trivial; refine And.intro ?_ ?_; exact trivial; exact trivial; done)), ?_⟩; refine ⟨_, _, rfl, (by exact LeU.of_eq rfl trivial), (by exact trivial), ?_⟩; refine ⟨_, _, rfl, (by exact LeU.of_eq rfl trivial), (by exact trivial), ?_⟩; exact rfl)) ?_
    refine RunL.val (by exact rfl) (loc_pickI true (by assumption) rfl rfl) ?_; refine RunL.val (by exact rfl) (loc_assignC rfl) ?_; refine RunL.nil ?_; refine AW.ret ?_
    rw [show a.Good ar = a.good ar 0 by unfold Tm.Good; rw [show decide (((a.nodes : Nat) : Int) ≤ 40) = true by simp at hn ⊢; omega]; rfl]
    exact ret_same (.inr rfl) rfl trivial
end Go.Proofs.YtnflnbdlgdjfmabGreatDoor
namespace Go.Proofs.YtnflnbdlgdjfmabGreatDoor
open Go.RowKit
set_option linter.unusedVariables false
set_option linter.unusedSimpArgs false
set_option maxRecDepth 100000
attribute [local irreducible] RunL AW LocOp ACalls Gh
theorem numR_big (s : List UInt8) : (numR s).1 ≤ 9223372036854775807 := by
  unfold numR
  split
  · decide
  · rename_i hc
    have hb := bnd_le (k := (Lib.trimPrefix s [45]).length) (by simp only [not_or, Nat.not_lt] at hc; exact hc.2.1)
    have hd := digs_le (Lib.trimPrefix s [45]) _ (Nat.le_refl _)
    rw [List.take_length] at hd
    unfold digs at hd
    dsimp only
    split <;> omega
theorem baseK_thin (s : List UInt8) : Thin (baseK s).1 ∧ (baseK s).1.deep = 1 := by
  have leaf : ∀ k : Int, Thin (.mk k []) := fun k => .mk k [] (by simp) (fun t h => by cases h)
  unfold baseK
  split
  · exact ⟨leaf _, rfl⟩
  split
  · exact ⟨leaf _, rfl⟩
  split
  · exact ⟨leaf _, rfl⟩
  · exact ⟨leaf _, rfl⟩
theorem tok_pos : ∀ x : Tr, 1 ≤ (trTok x).length
  | .w s => by simp [trTok]
  | .n l => by simp [trTok]
theorem trKind_thin : ∀ x : Tr, Thin (trKind x).1 ∧ (trKind x).1.deep ≤ (trTok x).length := by
  intro x
  induction x using Tr.ind with
  | hw s => obtain ⟨h1, h2⟩ := baseK_thin s; simp only [trKind, trTok]; exact ⟨h1, by rw [h2]; simp⟩
  | hn l ih =>
    simp only [trKind, kindL, trKinds_map]
    have hany : Thin Ty.any ∧ Ty.any.deep ≤ (trTok (.n l)).length := ⟨Right.any.thin, tok_pos (.n l)⟩
    split
    · rename_i s a b k ka kb heq
      simp only [List.map_cons, List.map_nil, List.cons.injEq, and_true] at heq
      obtain ⟨_, rfl, rfl⟩ := heq
      split
      · obtain ⟨a1, a2⟩ := ih a (by simp)
        obtain ⟨b1, b2⟩ := ih b (by simp)
        refine ⟨.mk 3 _ (by simp) fun t ht => ?_, ?_⟩
        · simp only [List.mem_cons, List.not_mem_nil, or_false] at ht
          rcases ht with rfl | rfl
          · exact a1
          · exact b1
        · simp only [Ty.deep, deepL, trTok, trTokL, List.length_append, List.length_cons, List.length_nil]
          omega
      · exact hany
    · exact hany
theorem tokL_mem {x : Tr} : ∀ {l : List Tr}, x ∈ l → (trTok x).length ≤ (trTokL l).length
  | a :: l, h => by
    simp only [trTokL, List.length_append]
    rcases List.mem_cons.1 h with rfl | h
    · omega
    · have := tokL_mem h; omega
theorem kids_nodes : ∀ {l : List Tr}, (∀ x ∈ l, (trTerm x).1.nodes ≤ (trTok x).length) → nodesL (kidsT l) ≤ (trTokL l).length
  | [], _ => by simp [kidsT, nodesL]
  | a :: l, h => by
    have h1 := h a (List.mem_cons_self ..)
    have h2 := kids_nodes fun x hx => h x (List.mem_cons_of_mem _ hx)
    simp only [kidsT, List.map_cons, nodesL, trTokL, List.length_append] at h2 ⊢
    omega
theorem zero_dp : TmDp Tm.zero := .mk (by decide) fun x h => by cases h
/-- A term of a tree: of the right form, not big. -/
theorem trTerm_ok : ∀ x : Tr, (trTok x).length ≤ 1000 → TmOk (trTerm x).1 ∧ TmDp (trTerm x).1 ∧ (trTerm x).1.nodes ≤ (trTok x).length := by
  intro x
  induction x using Tr.ind with
  | hw s =>
    intro _
    have leaf : ∀ k n : Int, n ≤ 9223372036854775807 → TmOk (.mk k n .any .any []) ∧ TmDp (.mk k n .any .any []) ∧ (Tm.mk k n .any .any []).nodes ≤ 1 := fun k n h => ⟨leaf_ok h, .mk (by show Ty.any.deep ≤ 1048576; decide) (fun x h => by cases h), Nat.le_refl _⟩
    simp only [trTerm, trTok, wordTm]
    split
    · exact leaf _ _ (by decide)
    split
    · exact leaf _ _ (by decide)
    split
    · exact leaf _ _ (numR_big _)
    · exact leaf _ _ (numR_big _)
  | hn l ih =>
    intro hx
    have hz : TmOk Tm.zero ∧ TmDp Tm.zero ∧ Tm.zero.nodes ≤ (trTok (.n l)).length := ⟨zero_ok, zero_dp, tok_pos (.n l)⟩
    cases l with
    | nil => exact hz
    | cons y l =>
    cases y with
    | n m => exact hz
    | w s =>
    have hlen : (trTok (.n (.w s :: l))).length = (trTokL l).length + 3 := by rw [trTok_node]; simp
    have kid : ∀ x ∈ l, TmOk (trTerm x).1 ∧ TmDp (trTerm x).1 ∧ (trTerm x).1.nodes ≤ (trTok x).length := fun x hxl => ih x (List.mem_cons_of_mem _ hxl) (by have := tokL_mem hxl; omega)
    cases hw : wFrom (mkB s) 10 with
    | none => rw [show trTerm (.n (.w s :: l)) = (Tm.zero, false) by simp only [trTerm, nodeTm, hw]]; exact hz
    | some k =>
    have mk : ∀ (T : Ty) (kl : List Tr), (∀ x ∈ kl, x ∈ l) → Thin T → T.deep ≤ 1048576 → (trTokL kl).length ≤ (trTokL l).length → TmOk (.mk (k : Nat) 0 T .any (kidsT kl)) ∧ TmDp (.mk (k : Nat) 0 T .any (kidsT kl)) ∧ (Tm.mk (k : Nat) 0 T .any (kidsT kl)).nodes ≤ (trTok (.n (.w s :: l))).length := fun T kl hs hT hd hle => by
      have hm : ∀ t ∈ kidsT kl, TmOk t ∧ TmDp t := fun t ht => by
        obtain ⟨x, hx, rfl⟩ := List.mem_map.1 ht
        exact ⟨(kid x (hs x hx)).1, (kid x (hs x hx)).2.1⟩
      refine ⟨.mk (by show (0 : Int) ≤ _; decide) hT Right.any.thin fun t ht => (hm t ht).1, .mk hd fun t ht => (hm t ht).2, ?_⟩
      have := kids_nodes fun x hx => (kid x (hs x hx)).2.2
      rw [hlen]
      simp only [Tm.nodes]
      omega
    cases h79 : ((k : Int) == 7 || (k : Int) == 9) with
    | false => rw [node_plain hw h79]; exact mk _ _ (fun x h => h) Right.any.thin (by decide) (Nat.le_refl _)
    | true =>
      cases l with
      | nil =>
        rw [show trTerm (.n [.w s]) = (.mk k 0 .any .any [], false) by simp only [trTerm, nodeTm, hw, h79, if_true]]
        exact mk .any [] (fun x h => h) Right.any.thin (by decide) (Nat.le_refl _)
      | cons a l =>
        rw [node_typed hw h79]
        obtain ⟨t1, t2⟩ := trKind_thin a
        have := tokL_mem (List.mem_cons_self (a := a) (l := l))
        exact mk _ _ (fun x h => List.mem_cons_of_mem _ h) t1 (by omega) (by simp only [trTokL, List.length_append]; omega)
set_option maxHeartbeats 4000000 in
theorem parseTerm_a (l : List UInt8) : ACalls Tryz.prog 14 [.one (.str (mkB l))] [] (.tup [(refParse (mkB l)).1.u, .one (.int .i64 (refParse (mkB l)).2)]) [] := by
  have hsz : (mkB l).size = l.length := by simp [mkB, ByteArray.size]
  refine acalls_of_body Tryz.func14 rfl (by kernel_rfl) (Nat.le_of_ble_eq_true rfl) trivial (by simp [namesL]) ?_
  cases hlen : decide ((((mkB l).size : Nat) : Int) > 1000) with
  | true =>
    have h1 : 1000 < (mkB l).size := by have := of_decide_eq_true hlen; omega
    rw [show refParse (mkB l) = (Tm.zero, 4) by unfold refParse; rw [if_pos h1]]
    refine AW.seq ?_; refine AW.region (by kernel_rfl) ?_; refine RunL.mem (by exact rfl) (loc_allocD rfl rfl) ?_; refine RunL.val (by exact rfl) (loc_assignC rfl) ?_; refine RunL.nil ?_; refine AW.seq ?_; refine AW.seq ?_; refine AW.region (by kernel_rfl) ?_; refine RunL.val (by exact rfl) (loc_moveC rfl) ?_; refine RunL.val (by exact rfl) (loc_lenStr rfl) ?_; refine RunL.val (by exact rfl) (loc_binInt rfl rfl rfl) ?_; refine RunL.nil ?_; refine AW.condTa (by exact rfl) (by assumption) ?_; refine AW.seq ?_; refine AW.region (by kernel_rfl) ?_; refine RunL.val (by exact rfl) (loc_build (by exact rfl) (by exact Cut.all (by exact rfl)) (by exact rfl)) ?_; refine RunL.eff (by exact rfl) (loc_storeW rfl rfl rfl rfl (by exact rfl) (by exact rfl)) ?_; refine RunL.val (by exact rfl) (loc_assignC rfl) ?_; refine RunL.nil ?_; refine AW.ret ?_
    exact ret_pe (by exact .inr rfl) (by exact rfl) (by exact rfl) tleaf (by exact rfl)
  | false =>
    have h1 : ¬ 1000 < (mkB l).size := by have := of_decide_eq_false hlen; omega
    have htr := trees_a (l.length + 1) l false (by omega) (by omega)
    obtain ⟨hb1, hb2⟩ := treesF_b (l.length + 1) false [] l (by omega) (by simp; omega) (by simp)
    obtain ⟨s1, s2, _, _⟩ := trees_sim (l.length + 1) false [] l (by omega)
    have htl := toks_len l []
    have hres : refParse (mkB l) = (match (treesF (l.length + 1) false [] l).1 with
      | [x] => if (treesF (l.length + 1) false [] l).2.2 && ((trTerm x).2 && (trTerm x).1.Good 0) then ((trTerm x).1, 0) else (Tm.zero, 1)
      | _ => (Tm.zero, 1)) := by
      unfold refParse; rw [if_neg h1, hsz, mkB_l]; rfl
    have htok : (treesF (l.length + 1) false [] l).2.2 = true → (trTokL (treesF (l.length + 1) false [] l).1).length ≤ 1000 := fun h => by
      rw [s2] at h
      obtain ⟨xs, e1, e2⟩ := treesW_ok _ _ _ _ h
      rw [List.nil_append] at e1
      rw [s1, e1]
      simp only [Bool.false_eq_true, if_false, List.append_nil] at e2
      rw [← e2]
      simp only [if_true] at htl
      omega
    generalize treesF (l.length + 1) false [] l = p at *
    obtain ⟨pl, pr, pb⟩ := p
    unfold treesU at htr
    dsimp only at htr hb1 hb2 hres htok
    rw [hres]
    have hpl := trRows_length pl
    refine AW.seq ?_; refine AW.region (by kernel_rfl) ?_; refine RunL.mem (by exact rfl) (loc_allocD rfl rfl) ?_; refine RunL.val (by exact rfl) (loc_assignC rfl) ?_; refine RunL.nil ?_; refine AW.seq ?_; refine AW.seq ?_; refine AW.region (by kernel_rfl) ?_; refine RunL.val (by exact rfl) (loc_moveC rfl) ?_; refine RunL.val (by exact rfl) (loc_lenStr rfl) ?_; refine RunL.val (by exact rfl) (loc_binInt rfl rfl rfl) ?_; refine RunL.nil ?_; refine AW.condFa (by exact rfl) (by assumption) ?_; refine AW.skip ?_; refine AW.seq ?_; refine AW.region (by kernel_rfl) ?_; refine RunL.val (by exact rfl) (loc_moveC rfl) ?_
    refine RunL.val (by exact rfl) (loc_fun (htr) rfl (by refine ⟨_, _, rfl, (by exact LeU.of_eq rfl trivial), (by exact trivial), ?_⟩; refine ⟨_, _, rfl, (by exact LeU.of_eq rfl trivial), (by exact trivial), ?_⟩; exact rfl)) ?_
    cases pb with
    | false =>
      rw [show (match pl with
        | [x] => if false && ((trTerm x).2 && (trTerm x).1.Good 0) then ((trTerm x).1, (0 : Int)) else (Tm.zero, 1)
        | _ => (Tm.zero, 1)) = (Tm.zero, 1) by split <;> rfl]
      refine RunL.val (by exact rfl) (loc_moveT rfl) ?_; refine RunL.val (by exact rfl) (loc_extractC rfl rfl) ?_; refine RunL.val (by exact rfl) (loc_extractC rfl rfl) ?_; refine RunL.val (by exact rfl) (loc_extractC rfl rfl) ?_; refine RunL.val (by exact rfl) (loc_assignC rfl) ?_; refine RunL.val (by exact rfl) (loc_assignC rfl) ?_; refine RunL.val (by exact rfl) (loc_assignC rfl) ?_; refine RunL.nil ?_; refine AW.seq ?_; refine AW.seq ?_; refine AW.region (by kernel_rfl) ?_; refine RunL.val (by exact rfl) (loc_moveC rfl) ?_; refine RunL.val (by exact rfl) (loc_moveC rfl) ?_; refine RunL.skip (.inl ⟨_, _, rfl, rfl, rfl⟩) ?_; refine RunL.skip (.inl ⟨_, _, rfl, rfl, rfl⟩) ?_; refine RunL.skip (.inl ⟨_, _, rfl, rfl, rfl⟩) ?_; refine RunL.val (by exact rfl) (loc_pickF rfl rfl) ?_; refine RunL.nil ?_; refine AW.condF (by exact rfl) ?_; refine AW.skip ?_; refine AW.seq ?_; refine AW.region (by kernel_rfl) ?_; refine RunL.val (by exact rfl) (loc_build (by exact rfl) (by exact Cut.all (by exact rfl)) (by exact rfl)) ?_; refine RunL.eff (by exact rfl) (loc_storeW rfl rfl rfl rfl (by exact rfl) (by exact rfl)) ?_; refine RunL.val (by exact rfl) (loc_assignC rfl) ?_; refine RunL.nil ?_; refine AW.ret ?_
      exact ret_pe (by exact .inr rfl) (by exact rfl) (by exact rfl) tleaf (by exact rfl)
    | true =>
    cases k1 : ((((trRows pl).length : Nat) : Int) == 1) with
    | false =>
      have hne : pl.length ≠ 1 := by have : ¬ (((trRows pl).length : Nat) : Int) = 1 := by simpa using k1
                                     omega
      rw [show (match pl with
        | [x] => if true && ((trTerm x).2 && (trTerm x).1.Good 0) then ((trTerm x).1, (0 : Int)) else (Tm.zero, 1)
        | _ => (Tm.zero, 1)) = (Tm.zero, 1) by
          split
          · exact absurd rfl hne
          · rfl]
      refine RunL.val (by exact rfl) (loc_moveT rfl) ?_; refine RunL.val (by exact rfl) (loc_extractC rfl rfl) ?_; refine RunL.val (by exact rfl) (loc_extractC rfl rfl) ?_; refine RunL.val (by exact rfl) (loc_extractC rfl rfl) ?_; refine RunL.val (by exact rfl) (loc_assignC rfl) ?_; refine RunL.val (by exact rfl) (loc_assignC rfl) ?_; refine RunL.val (by exact rfl) (loc_assignC rfl) ?_; refine RunL.nil ?_; refine AW.seq ?_; refine AW.seq ?_; refine AW.region (by kernel_rfl) ?_; refine RunL.val (by exact rfl) (loc_moveC rfl) ?_; refine RunL.val (by exact rfl) (loc_moveC rfl) ?_; refine RunL.val (by exact .inl ⟨_, _, rfl, rfl, rfl⟩) (loc_moveC rfl) ?_; refine RunL.val (by exact .inl ⟨_, _, rfl, rfl, rfl⟩) (loc_lenSl rfl) ?_; refine RunL.val (by exact .inl ⟨_, _, rfl, rfl, rfl⟩) (loc_binInt rfl rfl rfl) ?_; refine RunL.val (by exact rfl) (loc_pickT rfl rfl) ?_; refine RunL.nil ?_; refine AW.condFa (by exact rfl) (by assumption) ?_; refine AW.skip ?_; refine AW.seq ?_; refine AW.region (by kernel_rfl) ?_; refine RunL.val (by exact rfl) (loc_build (by exact rfl) (by exact Cut.all (by exact rfl)) (by exact rfl)) ?_; refine RunL.eff (by exact rfl) (loc_storeW rfl rfl rfl rfl (by exact rfl) (by exact rfl)) ?_; refine RunL.val (by exact rfl) (loc_assignC rfl) ?_; refine RunL.nil ?_; refine AW.ret ?_
      exact ret_pe (by exact .inr rfl) (by exact rfl) (by exact rfl) tleaf (by exact rfl)
    | true =>
      have hone : pl.length = 1 := by have : (((trRows pl).length : Nat) : Int) = 1 := by simpa using k1
                                      omega
      match pl, hone with
      | [x], _ =>
        have htm := trTerm_a x (hb2 x (by simp))
        obtain ⟨o1, o2, o3⟩ := trTerm_ok x (by have := htok rfl; simpa [trTokL] using this)
        have hrx : (trRows [x])[0]? = some (trC x) := rfl
        have htk := htok rfl
        simp only [trTokL, List.append_nil] at htk
        dsimp only
        generalize trTerm x = q at *
        obtain ⟨qt, qb⟩ := q
        dsimp only at htm o1 o2 o3 ⊢
        refine RunL.val (by exact rfl) (loc_moveT rfl) ?_; refine RunL.val (by exact rfl) (loc_extractC rfl rfl) ?_; refine RunL.val (by exact rfl) (loc_extractC rfl rfl) ?_; refine RunL.val (by exact rfl) (loc_extractC rfl rfl) ?_; refine RunL.val (by exact rfl) (loc_assignC rfl) ?_; refine RunL.val (by exact rfl) (loc_assignC rfl) ?_; refine RunL.val (by exact rfl) (loc_assignC rfl) ?_; refine RunL.nil ?_; refine AW.seq ?_; refine AW.seq ?_; refine AW.region (by kernel_rfl) ?_; refine RunL.val (by exact rfl) (loc_moveC rfl) ?_; refine RunL.val (by exact rfl) (loc_moveC rfl) ?_; refine RunL.val (by exact .inl ⟨_, _, rfl, rfl, rfl⟩) (loc_moveC rfl) ?_; refine RunL.val (by exact .inl ⟨_, _, rfl, rfl, rfl⟩) (loc_lenSl rfl) ?_; refine RunL.val (by exact .inl ⟨_, _, rfl, rfl, rfl⟩) (loc_binInt rfl rfl rfl) ?_; refine RunL.val (by exact rfl) (loc_pickT rfl rfl) ?_; refine RunL.nil ?_; refine AW.condT (by exact rfl) ?_; refine AW.seq ?_; refine AW.region (by kernel_rfl) ?_; refine RunL.val (by exact rfl) (loc_moveC rfl) ?_
        refine RunL.val (by exact rfl) (loc_indexSl 0 rfl rfl rfl hrx (trC_len x)) ?_
        refine RunL.val (by exact rfl) (loc_loadFA rfl (Cut.all (trC_len x))) ?_
        refine RunL.val (by exact rfl) (loc_fun (htm) rfl ⟨_, _, rfl, LeU.of_eq rfl trivial, ok_tr x, rfl⟩) ?_
        cases qb with
        | false =>
          refine RunL.val (by exact rfl) (loc_moveT rfl) ?_; refine RunL.val (by exact rfl) (loc_extractA rfl rfl) ?_; refine RunL.val (by exact rfl) (loc_extractC rfl rfl) ?_; refine RunL.mem (by exact rfl) (loc_allocD rfl rfl) ?_; refine RunL.eff (by exact rfl) (loc_storeW rfl rfl rfl rfl (by exact rfl) (by exact rfl)) ?_; refine RunL.val (by exact rfl) (loc_assignC rfl) ?_; refine RunL.nil ?_; refine AW.seq ?_; refine AW.region (by kernel_rfl) ?_; refine RunL.val (by exact rfl) (loc_moveC rfl) ?_; refine RunL.val (by exact rfl) (loc_moveC rfl) ?_; refine RunL.skip (.inl ⟨_, _, rfl, rfl, rfl⟩) ?_; refine RunL.skip (.inl ⟨_, _, rfl, rfl, rfl⟩) ?_; refine RunL.val (by exact rfl) (loc_pickF rfl rfl) ?_; refine RunL.nil ?_; refine AW.condF (by exact rfl) ?_; refine AW.skip ?_; refine AW.seq ?_; refine AW.region (by kernel_rfl) ?_; refine RunL.val (by exact rfl) (loc_build (by exact rfl) (by exact Cut.all (by exact rfl)) (by exact rfl)) ?_; refine RunL.eff (by exact rfl) (loc_storeW rfl rfl rfl rfl (by exact rfl) (by exact rfl)) ?_; refine RunL.val (by exact rfl) (loc_assignC rfl) ?_; refine RunL.nil ?_; refine AW.ret ?_
          exact ret_pe (by exact .inr rfl) (by exact rfl) (by exact rfl) tleaf (by exact rfl)
        | true =>
          refine RunL.val (by exact rfl) (loc_moveT rfl) ?_; refine RunL.val (by exact rfl) (loc_extractA rfl rfl) ?_; refine RunL.val (by exact rfl) (loc_extractC rfl rfl) ?_; refine RunL.mem (by exact rfl) (loc_allocD rfl rfl) ?_; refine RunL.eff (by exact rfl) (loc_storeW rfl rfl rfl rfl (by exact rfl) (by exact rfl)) ?_; refine RunL.val (by exact rfl) (loc_assignC rfl) ?_; refine RunL.nil ?_; refine AW.seq ?_; refine AW.region (by kernel_rfl) ?_; refine RunL.val (by exact rfl) (loc_moveC rfl) ?_; refine RunL.val (by exact rfl) (loc_moveC rfl) ?_; refine RunL.val (by exact .inl ⟨_, _, rfl, rfl, rfl⟩) (loc_loadA rfl rfl (by exact Cut.all (by exact rfl))) ?_
          refine RunL.val (by exact .inl ⟨_, _, rfl, rfl, rfl⟩) (loc_fun (isTerm_a qt 0 o1 o2 (by omega)) rfl (by refine ⟨_, _, rfl, (by exact LeU.of_eq rfl trivial), (by (refine And.intro ?_ ?_; exact trivial; refine And.intro ?_ ?_; exact trivial; refine And.intro ?_ ?_; exact trivial; refine And.intro ?_ ?_; exact trivial; refine And.intro ?_ ?_; exact trivial; refine And.intro ?_ ?_; exact trivial; refine And.intro ?_ ?_; exact trivial; exact trivial; done)), ?_⟩; refine ⟨_, _, rfl, (by exact LeU.of_eq rfl trivial), (by exact trivial), ?_⟩; exact rfl)) ?_
          cases hg : qt.Good 0 with
          | false =>
            refine RunL.val (by exact rfl) (loc_pickT rfl rfl) ?_; refine RunL.nil ?_; refine AW.condF (by exact rfl) ?_; refine AW.skip ?_; refine AW.seq ?_; refine AW.region (by kernel_rfl) ?_; refine RunL.val (by exact rfl) (loc_build (by exact rfl) (by exact Cut.all (by exact rfl)) (by exact rfl)) ?_; refine RunL.eff (by exact rfl) (loc_storeW rfl rfl rfl rfl (by exact rfl) (by exact rfl)) ?_; refine RunL.val (by exact rfl) (loc_assignC rfl) ?_; refine RunL.nil ?_; refine AW.ret ?_
            exact ret_pe (by exact .inr rfl) (by exact rfl) (by exact rfl) tleaf (by exact rfl)
          | true =>
            refine RunL.val (by exact rfl) (loc_pickT rfl rfl) ?_; refine RunL.nil ?_; refine AW.condT (by exact rfl) ?_; refine AW.seq ?_; refine AW.region (by kernel_rfl) ?_; refine RunL.val (by exact rfl) (loc_loadA rfl rfl (by exact Cut.all (by exact rfl))) ?_; refine RunL.eff (by exact rfl) (loc_storeW rfl rfl rfl rfl (by exact rfl) (by exact rfl)) ?_; refine RunL.val (by exact rfl) (loc_assignC rfl) ?_; refine RunL.nil ?_; refine AW.ret ?_
            exact ret_pe (by exact .inr rfl) (by exact rfl) (by exact rfl) (wkRow_refl _) (by exact rfl)
set_option maxHeartbeats 4000000 in
theorem termParses_a (s : ByteArray) (hs : s.size ≤ 1048576) : ACalls Tryz.prog 4 [.one (.str s)] [] (.one (.bool true)) [] := by
  have h1 := parse_a s
  have h2 := parseTerm_a s.data.toList
  rw [mkB_of, refParse_eq] at h2
  unfold parseU at h1
  generalize parse s = p at *
  obtain ⟨pt, pe⟩ := p
  dsimp only at h1 h2
  have hsa := rsameTm_a pt pt
  rw [sameT_rfl3] at hsa
  have e5 : (pe == pe) = true := by simp
  refine acalls_of_body Tryz.func4 rfl (by kernel_rfl) (Nat.le_of_ble_eq_true rfl) trivial (by simp [namesL]) ?_
  refine AW.seq ?_; refine AW.region (by kernel_rfl) ?_; refine RunL.val (by exact rfl) (loc_assignC rfl) ?_; refine RunL.nil ?_; refine AW.seq ?_; refine AW.region (by kernel_rfl) ?_; refine RunL.val (by exact rfl) (loc_moveC rfl) ?_
  refine RunL.val (by exact rfl) (loc_fun (h1) rfl (by refine ⟨_, _, rfl, (by exact LeU.of_eq rfl trivial), (by exact trivial), ?_⟩; exact rfl)) ?_
  refine RunL.val (by exact rfl) (loc_moveT rfl) ?_; refine RunL.val (by exact rfl) (loc_extractA rfl rfl) ?_; refine RunL.val (by exact rfl) (loc_extractC rfl rfl) ?_; refine RunL.mem (by exact rfl) (loc_allocD rfl rfl) ?_; refine RunL.eff (by exact rfl) (loc_storeW rfl rfl rfl rfl (by exact rfl) (by exact rfl)) ?_; refine RunL.val (by exact rfl) (loc_assignC rfl) ?_; refine RunL.nil ?_; refine AW.seq ?_; refine AW.region (by kernel_rfl) ?_; refine RunL.val (by exact rfl) (loc_moveC rfl) ?_
  refine RunL.val (by exact rfl) (loc_fun (h2) rfl (by refine ⟨_, _, rfl, (by exact LeU.of_eq rfl trivial), (by exact trivial), ?_⟩; exact rfl)) ?_
  refine RunL.val (by exact rfl) (loc_moveT rfl) ?_; refine RunL.val (by exact rfl) (loc_extractA rfl rfl) ?_; refine RunL.val (by exact rfl) (loc_extractC rfl rfl) ?_; refine RunL.mem (by exact rfl) (loc_allocD rfl rfl) ?_; refine RunL.eff (by exact rfl) (loc_storeW rfl rfl rfl rfl (by exact rfl) (by exact rfl)) ?_; refine RunL.val (by exact rfl) (loc_assignC rfl) ?_; refine RunL.nil ?_; refine AW.seq ?_; refine AW.region (by kernel_rfl) ?_; refine RunL.val (by exact rfl) (loc_loadA rfl rfl (by exact Cut.all (by exact rfl))) ?_; refine RunL.val (by exact rfl) (loc_loadA rfl rfl (by exact Cut.all (by exact rfl))) ?_
  refine RunL.val (by exact rfl) (loc_fun (hsa) rfl (by refine ⟨_, _, rfl, (by exact LeU.of_eq rfl trivial), (by (refine And.intro ?_ ?_; exact trivial; refine And.intro ?_ ?_; exact trivial; refine And.intro ?_ ?_; exact trivial; refine And.intro ?_ ?_; exact trivial; refine And.intro ?_ ?_; exact trivial; refine And.intro ?_ ?_; exact trivial; refine And.intro ?_ ?_; exact trivial; exact trivial; done)), ?_⟩; refine ⟨_, _, rfl, (by exact LeU.of_eq rfl trivial), (by (refine And.intro ?_ ?_; exact trivial; refine And.intro ?_ ?_; exact trivial; refine And.intro ?_ ?_; exact trivial; refine And.intro ?_ ?_; exact trivial; refine And.intro ?_ ?_; exact trivial; refine And.intro ?_ ?_; exact trivial; refine And.intro ?_ ?_; exact trivial; exact trivial; done)), ?_⟩; exact rfl)) ?_
  refine RunL.val (by exact rfl) (loc_moveC rfl) ?_; refine RunL.val (by exact .inl ⟨_, _, rfl, rfl, rfl⟩) (loc_moveC rfl) ?_; refine RunL.val (by exact .inl ⟨_, _, rfl, rfl, rfl⟩) (loc_moveC rfl) ?_; refine RunL.val (by exact .inl ⟨_, _, rfl, rfl, rfl⟩) (loc_binInt rfl rfl rfl) ?_; refine RunL.val (by exact rfl) (loc_pickT rfl rfl) ?_; refine RunL.val (by exact rfl) (loc_moveC rfl) ?_
  refine RunL.val (by exact .inl ⟨_, _, rfl, rfl, guard_eq true (by assumption) rfl⟩) (loc_fun (lterms_a) rfl (by exact rfl)) ?_
  refine RunL.val (by exact rfl) (loc_pickI true (by assumption) rfl rfl) ?_; refine RunL.val (by exact rfl) (loc_assignC rfl) ?_; refine RunL.nil ?_; refine AW.ret ?_
  exact ret_same (.inr rfl) rfl trivial
end Go.Proofs.YtnflnbdlgdjfmabGreatDoor
namespace Go.Proofs.YtnflnbdlgdjfmabGreatDoor
open Go.ChangeShapes Go.WideShapes Go.ChangeAt Go.RowKit Go.Joins Go.Deep
set_option linter.unusedVariables false
set_option linter.unusedSimpArgs false
/-- What lies in memory when the call begins. -/
def Old (w : World) : Nat → Prop := fun k => k < w.heap.size
section
variable {H : Type} {enc : TypeId × Value → H} {w : World} {sp : Nat → Bool} {held : Bool} {F : Nat → Prop}
end
instance : Inhabited Ty := ⟨.any⟩
mutual
def Ty.size : Ty → Nat
  | .mk _ l => 1 + sizeL l
def sizeL : List Ty → Nat
  | [] => 0
  | t :: l => Ty.size t + sizeL l
end
theorem cells_int : Tryz.prog.cellsOf 3 = 1 := by kernel_rfl
section
variable {H : Type} {enc : TypeId × Value → H} {w : World} {sp : Nat → Bool} {held : Bool}
end
end Go.Proofs.YtnflnbdlgdjfmabGreatDoor
namespace Go.Proofs.YtnflnbdlgdjfmabGreatDoor
open Go.ChangeShapes Go.WideShapes Go.ChangeAt Go.RowKit Go.Joins Go.Deep
set_option linter.unusedVariables false
set_option linter.unusedSimpArgs false
instance : Inhabited Tm := ⟨.mk 0 0 .any .any []⟩
section
variable {H : Type} {enc : TypeId × Value → H} {w : World} {sp : Nat → Bool} {held : Bool}
end
end Go.Proofs.YtnflnbdlgdjfmabGreatDoor
namespace Go.Proofs.YtnflnbdlgdjfmabGreatDoor
open Go.ChangeShapes Go.WideShapes Go.ChangeAt Go.RowKit Go.Joins Go.Deep
set_option linter.unusedVariables false
set_option linter.unusedSimpArgs false
def ρ0 : Nat → Lc := fun _ => ⟨none, 0, 0⟩
/-- What the listed variables give. -/
structure GlobIn (W : World) : Prop where
  gl : ∀ g c, glob g = some c → relK (Old W) W c (.pointer (some ⟨g, 0, none⟩))
  gx : ∀ g p, globX g = some p → ∃ cs t fz, p cs ∧ W.heap[g]? = some (.cells cs t fz)
theorem hrel_old {W : World} (hg : GlobIn W) : HRel (Old W) ρ0 (ofL []) W :=
  ⟨fun b x h => (by cases h), fun b b' g h => absurd rfl h, fun b g h => absurd rfl h, fun k h => h, fun b x h => (by cases h), hg.gl, fun g p h => by
    obtain ⟨cs, t, fz, hp, hh⟩ := hg.gx g p h
    exact ⟨(Array.getElem?_eq_some_iff.1 hh).1, cs, t, fz, hp, hh⟩⟩
/-- A law that answers true, as its row asks for it. -/
theorem law_calls {f : FuncId} {us : List U} {vals : List Value} {W : World} (hc : ACalls Tryz.prog f us [] (.one (.bool true)) []) (hg : GlobIn W) (ha : All2 (fun u v => relU (Old W) ρ0 W u v ∧ okU (ofL []) u) us vals) :
    Calls Tryz.prog f vals.toArray W fun e W' => e = .returned (.bool true) ∧ Below W.heap.size W W' := by
  refine (hc.2 (Old W) ρ0 W vals (hrel_old hg) ha).mono fun e W' ⟨v, F', ρ', he, hM, hr, _⟩ => ?_
  have hr : v = .bool true := hr
  subst hr
  exact ⟨he, hM.os, hM.tape, hM.output, hM.size, fun k hk => hM.kept k hk fun b hb => absurd rfl hb⟩
theorem laidOutP : laidOutB Tryz.prog = true := by kernel_rfl
/-- What a law's row asks behind the call, where nothing that was there has turned. -/
theorem law_post {H : Type} {enc : TypeId × Value → H} {f : Func} {s : ChangeSpec} {W W' : World} {args : Array Value} {ds : List (DataW H)} {before pa : List MemPlace}
    (hW : DataW.Whole enc Tryz.prog f.params.toList s.vars false W args.toList ds [] before) (hvars : s.vars = []) (hr : f.resultTypes = #[4]) (hs : s.fn H (ds ++ []) = { results := [.lit (.bool true)], args := ds })
    (hx : Below W.heap.size W W') (hargs : DataW.TrodAll enc Tryz.prog W' 0 (fun b => decide (b < W.heap.size)) true f.params.toList args.toList ds pa) :
    s.post enc Tryz.prog f false true false false W args (.bool true) W' := by
  refine ⟨ds, [], before, [], pa, [], hW, ?_, by rw [hs]; exact hargs, ?_, Below.frame hx _, fun h => by cases h⟩
  · rw [hs, hr]
    exact trodAll_cons_mk (shut_bool Tryz.underlying4 _) trodAll_mk0
  · rw [hvars, hs]
    rfl
theorem own : ownKnob Tryz.prog.godebug = none := by kernel_rfl
end Go.Proofs.YtnflnbdlgdjfmabGreatDoor
namespace Go.Proofs.YtnflnbdlgdjfmabGreatDoor
open Go.ChangeShapes Go.WideShapes Go.ChangeAt Go.RowKit Go.Joins Go.Deep
set_option linter.unusedVariables false
set_option linter.unusedSimpArgs false
/-- A table of strings, as a row lists it. -/
def strData {H : Type} (zs : List (List UInt8)) : DataW H := .agg (zs.map fun z => .lit (.string z))
theorem cells_of_strs {H : Type} {enc : TypeId × Value → H} {P : Program} {w : World} {base : Nat} {sp : Nat → Bool} {held : Bool} {fuel : Nat} {t e : TypeId} {n : Nat} {cs : List Value} {zs : List (List UInt8)} {p : List MemPlace}
    (ht : P.underlying t = some (.array n e)) (he : P.underlying e = some .string) (hce : P.cellsOf e = 1) (hct : P.cellsOf t = n)
    (h : DataW.trod enc P w base sp held fuel t cs = some (strData zs, p)) : cs = zs.map fun z => Value.string ⟨z.toArray⟩ := by
  cases fuel with
  | zero => simp [DataW.trod] at h
  | succ fuel =>
    simp only [DataW.trod, ht, hce, hct, Nat.mul_one] at h
    split at h
    · rename_i hl
      obtain ⟨xs, hm, hx⟩ := Option.map_eq_some_iff.1 h
      have hxs : xs.map (·.1) = zs.map fun z => (DataW.lit (.string z) : DataW H) := by
        have := congrArg Prod.fst hx
        simpa [strData] using this
      have hxl : xs.length = n := by simpa using Lib.mapM_length hm
      have hzl : zs.length = n := by
        have := congrArg List.length hxs
        simp at this
        omega
      apply List.ext_getElem?
      intro i
      by_cases hi : i < n
      · obtain ⟨b, hb, hf⟩ := Lib.mapM_at hm i i (by simp [hi])
        obtain ⟨s, hc, rfl, _⟩ := DataW.trod_string he hf
        have h1 : cs[i]? = some (.string s) := by
          have := congrArg (·[0]?) hc
          simpa [List.getElem?_take, List.getElem?_drop] using this
        have h2 : (xs.map (·.1))[i]? = some (DataW.lit (.string s.data.toList) : DataW H) := by simp [hb]
        rw [hxs] at h2
        simp only [List.getElem?_map, Option.map_eq_some_iff, DataW.lit.injEq, Lit.string.injEq] at h2
        obtain ⟨z', hz', rfl⟩ := h2
        simp [h1, hz']
      · rw [List.getElem?_eq_none (by omega), List.getElem?_eq_none (by simp; omega)]
    · cases h
theorem strs_of_head {P : Program} {W : World} {name : String} {zs : List (List UInt8)} {rest : List (String × DataW Unit)} {g : Nat} {t e : TypeId} {n : Nat}
    (hg : P.globalNamed name = some g) (hty : (P.globals[g]?).map (·.type) = some t) (ht : P.underlying t = some (.array n e)) (he : P.underlying e = some .string) (hce : P.cellsOf e = 1) (hct : P.cellsOf t = n)
    (h : laidMet P ((name, strData zs) :: rest) W) : W.var? P name = some (zs.map fun z => Value.string ⟨z.toArray⟩).toArray := by
  obtain ⟨ps, ⟨g', t', cs, fuel, p, q, hg', ht', hvar, hd, _, _⟩, _⟩ := h
  obtain rfl := Option.some.inj (hg.symm.trans hg')
  obtain rfl := Option.some.inj (hty.symm.trans ht')
  rw [hvar, ← cells_of_strs ht he hce hct hd]
theorem heap_of_var {P : Program} {W : World} {name : String} {g : Nat} {cs : Array Value} (hg : P.globalNamed name = some g) (h : W.var? P name = some cs) : ∃ t fz, W.heap[g]? = some (.cells cs t fz) := by
  unfold World.var? at h
  rw [hg] at h
  simp only [Option.bind_some] at h
  split at h
  · rename_i hh; cases h; exact ⟨_, _, hh⟩
  · cases h
theorem fpo_of_var {P : Program} {W : World} {name : String} {g : Nat} {cs : Array Value} {l : List C} (hg : P.globalNamed name = some g) (h : W.var? P name = some cs) (hr : All2 (relK (Old W) W) l cs.toList) (h0 : 0 < l.length) : relK (Old W) W (fpo l 0) (.pointer (some ⟨g, 0, none⟩)) := by
  obtain ⟨t, fz, hh⟩ := heap_of_var hg h
  refine ⟨g, 0, rfl, (Array.getElem?_eq_some_iff.1 hh).1, fun j hj => ?_⟩
  have hj : j < l.length := by simpa using hj
  obtain ⟨u, hu, hk⟩ := hr.get j l[j] (List.getElem?_eq_getElem hj)
  refine ⟨u, ?_, ?_⟩
  · have := World.var?_cell hg h j
    rw [Nat.zero_add, this]; simpa using hu
  · simp only [rowF, Nat.zero_add, List.getD_eq_getElem?_getD, List.getElem?_eq_getElem hj, Option.getD_some]; exact hk
abbrev laidT : List (String × DataW Unit) := Rows.termParsesUptoRow.laid
theorem hArr : Tryz.prog.cellsOf 97 = 10 := by kernel_rfl
theorem hArrS : Tryz.prog.cellsOf 95 = 10 := by kernel_rfl
theorem hArrK : Tryz.prog.cellsOf 137 = 4 := by kernel_rfl
theorem hArrP : Tryz.prog.cellsOf 215 = 20 := by kernel_rfl
theorem hU64 : Tryz.prog.cellsOf 196 = 1 := by kernel_rfl
theorem hStr : Tryz.prog.cellsOf 9 = 1 := by kernel_rfl
theorem hErr : Tryz.prog.cellsOf 213 = 1 := by kernel_rfl
theorem gAr : Tryz.prog.globalNamed "chaperone/term.arity" = some 1 := by kernel_rfl
theorem gWo : Tryz.prog.globalNamed "chaperone/term.words" = some 0 := by kernel_rfl
theorem gKi : Tryz.prog.globalNamed "chaperone/term.kinds" = some 2 := by kernel_rfl
theorem gPo : Tryz.prog.globalNamed "internal/strconv.uint64pow10" = some 10 := by kernel_rfl
theorem gSp : Tryz.prog.globalNamed "strings.asciiSpace" = some 3 := by kernel_rfl
theorem hArrSp : Tryz.prog.cellsOf 148 = 256 := by kernel_rfl
theorem hU8 : Tryz.prog.cellsOf 5 = 1 := by kernel_rfl
theorem gES : Tryz.prog.globalNamed "strconv.ErrSyntax" = some 8 := by kernel_rfl
theorem gER : Tryz.prog.globalNamed "strconv.ErrRange" = some 9 := by kernel_rfl
theorem star : "*" ++ "errors.errorString" = "*errors.errorString" := by decide
theorem rowErr (u : TypeId) (h : Tryz.prog.typeName? 3 u = some "*errors.errorString") : u = 211 :=
  typeName_ptr_named (nm := "errors.errorString") (by rw [star]; kernel_rfl) (by kernel_rfl) (by decide) u (by rw [star]; exact h)
theorem max_in {W : World} (hsh : W.ShapedOpen Tryz.prog) : ∃ cs t fz, (∃ m, cs = #[.int .i64 m]) ∧ W.heap[5]? = some (.cells cs t fz) := by
  obtain ⟨cs, hh, hs, _⟩ := hsh.1 5 #[.int .i64 0] 3 (of_decide_eq_true (by kernel_rfl)) (by kernel_rfl)
  obtain ⟨m, hm⟩ := cell_of_shapedOpen_int (zero := #[.int .i64 0]) (t := 3) (g := 5) hsh (of_decide_eq_true (by kernel_rfl)) (by kernel_rfl) rfl (by kernel_rfl) (by kernel_rfl) Tryz.underlying3
  have hm0 : cs[0]? = some (.int .i64 m) := by simpa [World.cell?, hh] using hm
  refine ⟨cs, _, _, ⟨m, ?_⟩, hh⟩
  have hs : cs.size = 1 := hs
  apply Array.ext_getElem?
  intro i
  match i with
  | 0 => simpa using hm0
  | i + 1 => rw [Array.getElem?_eq_none (by omega), Array.getElem?_eq_none (by simp)]
set_option maxRecDepth 100000 in
theorem glob_in {W : World} (hL : laidMetH Tryz.prog laidT W) (hsh : W.ShapedOpen Tryz.prog) : GlobIn W := by
  have h0 : laidMet Tryz.prog laidT W := hL
  have h2 := h0.tail.tail
  have h4 := h2.tail.tail
  have h5 := h4.tail
  have h6 := h5.tail
  have h7 := h6.tail
  have h8 := h7.tail
  have h9 := h8.tail
  have h10 := h9.tail
  have h7' : laidMet Tryz.prog (("strings.asciiSpace", Lib.tabData .u8 Lib.asciiSpaceTab) :: laidT.drop 8) W := by
    rw [show (("strings.asciiSpace", Lib.tabData .u8 Lib.asciiSpaceTab) :: laidT.drop 8 : List (String × DataW Unit)) = laidT.drop 7 by kernel_rfl]
    exact h7
  have vS0 := Lib.tabIs_of_head gSp (t := 148) (by kernel_rfl) Tryz.underlying148 Tryz.underlying5 hU8 hArrSp h7'
  have vS : W.var? Tryz.prog "strings.asciiSpace" = some spaceV := by
    unfold Lib.TabIs at vS0
    rw [vS0, space_tab]
  have vP0 := Lib.tabIs_of_head (k := .u64) (zs := [1, 10, 100, 1000, 10000, 100000, 1000000, 10000000, 100000000, 1000000000, 10000000000, 100000000000, 1000000000000, 10000000000000, 100000000000000, 1000000000000000, 10000000000000000, 100000000000000000, 1000000000000000000, 10000000000000000000]) gPo (t := 215) (by kernel_rfl) Tryz.underlying215 Tryz.underlying196 hU64 hArrP h2
  have vP : W.var? Tryz.prog "internal/strconv.uint64pow10" = some pow10V := by
    unfold Lib.TabIs at vP0
    rw [vP0]
    simp [pow10V]
  obtain ⟨a4, s4, v4, _⟩ := laid_sentinel h4 gER (ti := 131) (by kernel_rfl) Tryz.underlying131 rowErr Tryz.underlying211 Tryz.underlying213 rfl rfl Tryz.underlying9 hErr hStr
  obtain ⟨a5, s5, v5, _⟩ := laid_sentinel h5 gES (ti := 131) (by kernel_rfl) Tryz.underlying131 rowErr Tryz.underlying211 Tryz.underlying213 rfl rfl Tryz.underlying9 hErr hStr
  have vA : W.var? Tryz.prog "chaperone/term.arity" = some #[.int .i64 0, .int .i64 0, .int .i64 0, .int .i64 0, .int .i64 2, .int .i64 2, .int .i64 3, .int .i64 1, .int .i64 2, .int .i64 1] := Lib.tabIs_of_head (zs := [0, 0, 0, 0, 2, 2, 3, 1, 2, 1]) gAr (t := 97) (by kernel_rfl) Tryz.underlying97 Tryz.underlying3 cells_int hArr h8
  have vW := strs_of_head (zs := [[], [], [], [], [97, 100, 100], [108, 101, 115, 115], [105, 102], [102, 117, 110], [99, 97, 108, 108], [97, 115]]) gWo (t := 95) (by kernel_rfl) Tryz.underlying95 Tryz.underlying9 hStr hArrS h9
  have vK := strs_of_head (zs := [[97, 110, 121], [110, 117, 109], [116, 114, 117, 116, 104], [116, 111]]) gKi (t := 137) (by kernel_rfl) Tryz.underlying137 Tryz.underlying9 hStr hArrK h10
  refine ⟨fun g c hgc => ?_, fun g p hgp => ?_⟩
  · unfold glob at hgc
    cases hb : Nat.beq g 1 with
    | true =>
      rw [hb] at hgc; cases hgc
      rw [Nat.eq_of_beq_eq_true hb]
      exact fpo_of_var gAr vA ⟨rfl, rfl, rfl, rfl, rfl, rfl, rfl, rfl, rfl, rfl, trivial⟩ (by decide)
    | false =>
    rw [hb] at hgc
    cases hb1 : Nat.beq g 0 with
    | true =>
      rw [hb1] at hgc; cases hgc
      rw [Nat.eq_of_beq_eq_true hb1]
      exact fpo_of_var gWo vW ⟨rfl, rfl, rfl, rfl, rfl, rfl, rfl, rfl, rfl, rfl, trivial⟩ (by decide)
    | false =>
    rw [hb1] at hgc
    cases hb2 : Nat.beq g 2 with
    | true =>
      rw [hb2] at hgc; cases hgc
      rw [Nat.eq_of_beq_eq_true hb2]
      exact fpo_of_var gKi vK ⟨rfl, rfl, rfl, rfl, trivial⟩ (by decide)
    | false => rw [hb2] at hgc; cases hgc
  · unfold globX at hgp
    cases hb : Nat.beq g 5 with
    | true =>
      rw [hb] at hgp; cases hgp
      rw [Nat.eq_of_beq_eq_true hb]
      exact max_in hsh
    | false =>
    rw [hb] at hgp
    cases hb1 : Nat.beq g 8 with
    | true =>
      rw [hb1] at hgp; cases hgp
      rw [Nat.eq_of_beq_eq_true hb1]
      obtain ⟨t, fz, hh⟩ := heap_of_var gES v5
      exact ⟨_, t, fz, ⟨_, _, rfl⟩, hh⟩
    | false =>
    rw [hb1] at hgp
    cases hb2 : Nat.beq g 9 with
    | true =>
      rw [hb2] at hgp; cases hgp
      rw [Nat.eq_of_beq_eq_true hb2]
      obtain ⟨t, fz, hh⟩ := heap_of_var gER v4
      exact ⟨_, t, fz, ⟨_, _, rfl⟩, hh⟩
    | false =>
    rw [hb2] at hgp
    cases hb3 : Nat.beq g 10 with
    | true =>
      rw [hb3] at hgp; cases hgp
      rw [Nat.eq_of_beq_eq_true hb3]
      obtain ⟨t, fz, hh⟩ := heap_of_var gPo vP
      exact ⟨_, t, fz, rfl, hh⟩
    | false =>
    rw [hb3] at hgp
    cases hb4 : Nat.beq g 3 with
    | true =>
      rw [hb4] at hgp; cases hgp
      rw [Nat.eq_of_beq_eq_true hb4]
      obtain ⟨t, fz, hh⟩ := heap_of_var gSp vS
      exact ⟨_, t, fz, rfl, hh⟩
    | false => rw [hb4] at hgp; cases hgp
set_option maxRecDepth 100000 in
/-- A string that comes in. -/
theorem open_Str {H : Type} {enc : TypeId × Value → H} {W : World} {r : Reach} {b0 : Nat} {v : Value} {d : DataW H} {p : List MemPlace} (hv : Value.okWide Tryz.prog W r b0 9 v)
    (h : DataW.Trod enc Tryz.prog W 0 (fun _ => true) true 9 v d p) (hb : Rows.uptoBulk d ≤ 1048576) : ∃ s : ByteArray, v = .string s ∧ s.size ≤ 1048576 := by
  obtain ⟨s, rfl, rfl, _, _⟩ := Go.ChangeMaps.open_string Tryz.underlying9 hv h
  refine ⟨s, rfl, ?_⟩
  simp only [Rows.uptoBulk] at hb
  have : s.data.toList.length = s.size := Array.length_toList
  omega
theorem readable_Str : Tryz.prog.readableRec 9 = true := by kernel_rfl
theorem rowed_Str : 9 < Tryz.prog.types.size := of_decide_eq_true (by kernel_rfl)
theorem again_Str {H : Type} {enc : TypeId × Value → H} {W W' : World} {v : Value} {d : DataW H} {p : List MemPlace} (hx : Below W.heap.size W W') (h : DataW.Trod enc Tryz.prog W 0 (fun _ => true) true 9 v d p) (hlt : ∀ x ∈ p, x.block < W.heap.size) :
    DataW.Trod enc Tryz.prog W' 0 (fun b => decide (b < W.heap.size)) true 9 v d p := Below.trod laidOutP readable_Str rowed_Str h hx hlt
/-- A world for the witness: every listed variable holds what its row lists. -/
noncomputable def laidWorld (os : Os) : World := World.laidAll Tryz.prog os laidT
theorem laid_met (os : Os) (args : Array Value) : laidMet Tryz.prog laidT ((laidWorld os).forCall (fun _ _ => 0) ⟨#[], args, []⟩).memory := laidMet_laidAll args (by kernel_rfl) (by kernel_rfl)
end Go.Proofs.YtnflnbdlgdjfmabGreatDoor
