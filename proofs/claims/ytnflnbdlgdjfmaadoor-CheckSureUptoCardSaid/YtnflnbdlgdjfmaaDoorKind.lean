/-
  The walks of the functions on types. Conditions: none.
-/
import Derived.Test.YtnflnbdlgdjfmaaDoorTab
import Derived.Test.YtnflnbdlgdjfmaaDoorTyC
namespace Go.Proofs.YtnflnbdlgdjfmaaDoor
open Go.RowKit
set_option linter.unusedVariables false
set_option linter.unusedSimpArgs false
set_option maxRecDepth 100000
attribute [local irreducible] RunL AW LocOp ACalls Gh

set_option maxHeartbeats 2000000 in
theorem same_a : ∀ a b : Ty, ACalls Tryd.prog 30 [a.u, b.u] [] (.one (.bool (a.same b))) [] := by
  intro a
  induction a using Ty.ind' with
  | h a ih =>
  intro b
  refine acalls_of_body Tryd.func30 rfl (by kernel_rfl) (Nat.le_of_ble_eq_true rfl) trivial (by simp [namesL]) ?_

  cases hk : (a.k != b.k) with
  | true =>
    refine AW.seq ?_; refine AW.region (by kernel_rfl) ?_; refine RunL.mem (by exact rfl) (loc_boxD rfl rfl rfl) ?_; refine RunL.mem (by exact rfl) (loc_boxD rfl rfl rfl) ?_; refine RunL.val (by exact rfl) (loc_assignC rfl) ?_; refine RunL.nil ?_; refine AW.seq ?_; refine AW.seq ?_; refine AW.region (by kernel_rfl) ?_; refine RunL.val (by exact rfl) (loc_fieldAddr rfl) ?_; refine RunL.val (by exact rfl) (loc_load rfl rfl rfl) ?_; refine RunL.val (by exact rfl) (loc_fieldAddr rfl) ?_; refine RunL.val (by exact rfl) (loc_load rfl rfl rfl) ?_; refine RunL.val (by exact rfl) (loc_binInt rfl rfl rfl) ?_; refine RunL.val (by exact rfl) (loc_moveC rfl) ?_; refine RunL.skip (.inl ⟨_, _, rfl, rfl, guard_eq true (by assumption) rfl⟩) ?_; refine RunL.skip (.inl ⟨_, _, rfl, rfl, guard_eq true (by assumption) rfl⟩) ?_; refine RunL.skip (.inl ⟨_, _, rfl, rfl, guard_eq true (by assumption) rfl⟩) ?_; refine RunL.skip (.inl ⟨_, _, rfl, rfl, guard_eq true (by assumption) rfl⟩) ?_; refine RunL.skip (.inl ⟨_, _, rfl, rfl, guard_eq true (by assumption) rfl⟩) ?_; refine RunL.skip (.inl ⟨_, _, rfl, rfl, guard_eq true (by assumption) rfl⟩) ?_; refine RunL.skip (.inl ⟨_, _, rfl, rfl, guard_eq true (by assumption) rfl⟩) ?_; refine RunL.val (by exact rfl) (loc_pickI true (by assumption) rfl rfl) ?_; refine RunL.nil ?_; refine AW.condT (by exact rfl) ?_; refine AW.seq ?_; refine AW.region (by kernel_rfl) ?_; refine RunL.val (by exact rfl) (loc_assignC rfl) ?_; refine RunL.nil ?_; refine AW.ret ?_
    have hr : a.same b = false := by rw [same_eta]; simp at hk; simp [*]
    rw [hr]
    exact ret_same (.inr rfl) rfl trivial
  | false =>
    have hkk : a.k = b.k := by simpa using hk
    refine AW.seq ?_; refine AW.region (by kernel_rfl) ?_; refine RunL.mem (by exact rfl) (loc_boxD rfl rfl rfl) ?_; refine RunL.mem (by exact rfl) (loc_boxD rfl rfl rfl) ?_; refine RunL.val (by exact rfl) (loc_assignC rfl) ?_; refine RunL.nil ?_; refine AW.seq ?_; refine AW.seq ?_; refine AW.region (by kernel_rfl) ?_; refine RunL.val (by exact rfl) (loc_fieldAddr rfl) ?_; refine RunL.val (by exact rfl) (loc_load rfl rfl rfl) ?_; refine RunL.val (by exact rfl) (loc_fieldAddr rfl) ?_; refine RunL.val (by exact rfl) (loc_load rfl rfl rfl) ?_; refine RunL.val (by exact rfl) (loc_binInt rfl rfl rfl) ?_; refine RunL.val (by exact rfl) (loc_moveC rfl) ?_; refine RunL.val (by exact .inl ⟨_, _, rfl, rfl, guard_eq false (by assumption) rfl⟩) (loc_fieldAddr rfl) ?_; refine RunL.val (by exact .inl ⟨_, _, rfl, rfl, guard_eq false (by assumption) rfl⟩) (loc_load rfl rfl rfl) ?_; refine RunL.val (by exact .inl ⟨_, _, rfl, rfl, guard_eq false (by assumption) rfl⟩) (loc_lenSl rfl) ?_; refine RunL.val (by exact .inl ⟨_, _, rfl, rfl, guard_eq false (by assumption) rfl⟩) (loc_fieldAddr rfl) ?_; refine RunL.val (by exact .inl ⟨_, _, rfl, rfl, guard_eq false (by assumption) rfl⟩) (loc_load rfl rfl rfl) ?_; refine RunL.val (by exact .inl ⟨_, _, rfl, rfl, guard_eq false (by assumption) rfl⟩) (loc_lenSl rfl) ?_; refine RunL.val (by exact .inl ⟨_, _, rfl, rfl, guard_eq false (by assumption) rfl⟩) (loc_binInt rfl rfl rfl) ?_; refine RunL.val (by exact rfl) (loc_pickI false (by assumption) rfl rfl) ?_; refine RunL.nil ?_
    refine AW.cond (by exact rfl) (fun hc => ?_) (fun hc => ?_)
    · refine AW.seq ?_; refine AW.region (by kernel_rfl) ?_; refine RunL.val (by exact rfl) (loc_assignC rfl) ?_; refine RunL.nil ?_; refine AW.ret ?_
      have hne : a.l.length ≠ b.l.length := by
        have := int_ne_of hc
        rwa [tyRows_length, tyRows_length] at this
      have hr : a.same b = false := by rw [same_eta, sameL_len hne]; simp [*]
      rw [hr]
      exact ret_same (.inr rfl) rfl trivial
    · have hlen : a.l.length = b.l.length := by
        have := int_eq_of hc
        rwa [tyRows_length, tyRows_length] at this
      have hres : a.same b = sameL (a.l.drop 0) (b.l.drop 0) := by rw [same_eta]; simp [*]
      rw [hres]
      refine AW.skip ?_; refine AW.seq ?_; refine AW.seq ?_; refine AW.region (by kernel_rfl) ?_; refine RunL.val (by exact rfl) (loc_fieldAddr rfl) ?_; refine RunL.val (by exact rfl) (loc_load rfl rfl rfl) ?_; refine RunL.val (by exact rfl) (loc_lenSl rfl) ?_; refine RunL.val (by exact rfl) (loc_moveC rfl) ?_; refine RunL.nil ?_; refine AW.block ?_
      refine AW.gh (gh_lit [(2, .one (.ptr 2 0)), (3, .one (.ptr 3 0)), (21, .one (slOf 2 (tyRows a.l))), (22, .one (.int .i64 ((tyRows a.l).length : Nat))), (23, .one (.int .i64 ((0 : Nat) : Int)))] [(2, .obj a.c), (3, .obj b.c)] [] [] ⟨(WkU.of_eq rfl trivial), (WkU.of_eq rfl trivial), (by exact WkU.of_eq rfl trivial), (WkU.of_eq rfl trivial), (WkU.of_eq rfl trivial), trivial⟩ ⟨(by exact Or.inl ⟨_, rfl, WkBlk.refl _⟩), (by exact Or.inl ⟨_, rfl, WkBlk.refl _⟩), trivial⟩ trivial trivial rfl rfl ⟨⟨_, rfl⟩, ⟨_, rfl⟩, trivial, trivial, trivial, trivial⟩ ⟨(by refine And.intro ?_ ?_; exact trivial; refine And.intro ?_ ?_; exact trivial; exact trivial), (by refine And.intro ?_ ?_; exact trivial; refine And.intro ?_ ?_; exact trivial; exact trivial), trivial⟩) ?_
      refine AW.lenSl 21 rfl fun hmax => ?_
      refine AW.loop (fun m t h => ∃ i : Nat, i ≤ a.l.length ∧ m = a.l.length - i ∧ sameL (a.l.drop 0) (b.l.drop 0) = sameL (a.l.drop i) (b.l.drop i) ∧ t = tOfL [(2, .one (.ptr 2 0)), (3, .one (.ptr 3 0)), (21, .one (slOf 2 (tyRows a.l))), (22, .one (.int .i64 ((tyRows a.l).length : Nat))), (23, .one (.int .i64 ((i : Nat) : Int)))] ∧ h = ofL [(2, .obj a.c), (3, .obj b.c)]) a.l.length ⟨0, Nat.zero_le _, rfl, rfl, rfl, rfl⟩ ?_
      rintro m t h ⟨i, hi, rfl, hinv, rfl, rfl⟩
      have hL := tyRows_length a.l
      cases hlt : decide ((i : Int) < ((tyRows a.l).length : Nat)) with
      | false =>
        have hil : i = a.l.length := by simp at hlt; omega
        refine AW.seq ?_; refine AW.region (by kernel_rfl) ?_; refine RunL.val (by exact rfl) (loc_binInt rfl rfl rfl) ?_; refine RunL.nil ?_; refine AW.seq ?_; refine AW.condFa (by exact rfl) (by assumption) ?_; refine AW.exit ?_; refine AW.seq ?_; refine AW.region (by kernel_rfl) ?_; refine RunL.val (by exact rfl) (loc_assignC rfl) ?_; refine RunL.nil ?_; refine AW.ret ?_
        rw [hinv, hil]
        have hr : sameL (a.l.drop a.l.length) (b.l.drop a.l.length) = true := by rw [List.drop_length, hlen, List.drop_length]; rfl
        rw [hr]
        exact ret_same (.inr rfl) rfl trivial
      | true =>
        have hil : i < a.l.length := by simp at hlt; omega
        have hilb : i < b.l.length := by omega
        have hr1 := tyRows_get hil
        have hr2 := tyRows_get hilb
        refine AW.seq ?_; refine AW.region (by kernel_rfl) ?_; refine RunL.val (by exact rfl) (loc_binInt rfl rfl rfl) ?_; refine RunL.nil ?_; refine AW.seq ?_; refine AW.condTa (by exact rfl) (by assumption) ?_; refine AW.skip ?_; refine AW.seq ?_; refine AW.block ?_; refine AW.seq ?_; refine AW.region (by kernel_rfl) ?_; refine RunL.val (by exact rfl) (loc_moveC rfl) ?_; refine RunL.val (by exact rfl) (loc_assignC rfl) ?_; refine RunL.nil ?_; refine AW.seq ?_; refine AW.regionD (by kernel_rfl) (by kernel_rfl) (by kernel_rfl) ?_; refine RunL.val (by exact rfl) (loc_fieldAddr rfl) ?_; refine RunL.val (by exact rfl) (loc_load rfl rfl rfl) ?_; refine RunL.val (by exact rfl) (loc_moveC rfl) ?_; refine RunL.val (by exact rfl) (loc_indexSl _ rfl rfl rfl (by assumption) rfl) ?_; refine RunL.val (by exact rfl) (loc_loadFA rfl (by exact Cut.all (by exact rfl))) ?_; refine RunL.val (by exact rfl) (loc_fieldAddr rfl) ?_; refine RunL.val (by exact rfl) (loc_load rfl rfl rfl) ?_; refine RunL.val (by exact rfl) (loc_moveC rfl) ?_; refine RunL.val (by exact rfl) (loc_indexSl _ rfl rfl rfl (by assumption) rfl) ?_; refine RunL.val (by exact rfl) (loc_loadFA rfl (by exact Cut.all (by exact rfl))) ?_
        refine RunL.val (by exact rfl) (loc_fun (ih a.l[i] (List.getElem_mem _) b.l[i]) rfl (by refine ⟨_, _, rfl, (by exact LeU.of_eq rfl trivial), (by (refine And.intro ?_ ?_; exact trivial; refine And.intro ?_ ?_; exact trivial; exact trivial)), ?_⟩; refine ⟨_, _, rfl, (by exact LeU.of_eq rfl trivial), (by (refine And.intro ?_ ?_; exact trivial; refine And.intro ?_ ?_; exact trivial; exact trivial)), ?_⟩; exact rfl)) ?_
        have hs := sameL_drop hil hilb
        cases hq : a.l[i].same b.l[i] with
        | false =>
          rw [hq, Bool.false_and] at hs
          refine RunL.val (by exact rfl) (loc_not rfl) ?_; refine RunL.nilD (by kernel_rfl) ?_; refine AW.condT (by exact rfl) ?_; refine AW.seq ?_; refine AW.region (by kernel_rfl) ?_; refine RunL.val (by exact rfl) (loc_assignC rfl) ?_; refine RunL.nil ?_; refine AW.ret ?_
          rw [hinv, hs]
          exact ret_same (.inr rfl) rfl trivial
        | true =>
          rw [hq, Bool.true_and] at hs
          refine RunL.val (by exact rfl) (loc_not rfl) ?_; refine RunL.nilD (by kernel_rfl) ?_; refine AW.condF (by exact rfl) ?_; refine AW.skip ?_; refine AW.region (by kernel_rfl) ?_; refine RunL.val (by exact rfl) (loc_inc rfl rfl (by omega)) ?_; refine RunL.val (by exact rfl) (loc_moveC rfl) ?_; refine RunL.nil ?_
          exact ⟨a.l.length - (i + 1), _, _, by omega, (gh_lit [(2, .one (.ptr 2 0)), (3, .one (.ptr 3 0)), (21, .one (slOf 2 (tyRows a.l))), (22, .one (.int .i64 ((tyRows a.l).length : Nat))), (23, .one (.int .i64 ((i + 1 : Nat) : Int)))] [(2, .obj a.c), (3, .obj b.c)] [] [] ⟨(WkU.of_eq rfl trivial), (WkU.of_eq rfl trivial), (by exact WkU.of_eq rfl trivial), (WkU.of_eq rfl trivial), (WkU.of_eq rfl trivial), trivial⟩ ⟨(by exact Or.inl ⟨_, rfl, WkBlk.refl _⟩), (by exact Or.inl ⟨_, rfl, WkBlk.refl _⟩), trivial⟩ trivial trivial rfl rfl ⟨⟨_, rfl⟩, ⟨_, rfl⟩, trivial, trivial, trivial, trivial⟩ ⟨(by refine And.intro ?_ ?_; exact trivial; refine And.intro ?_ ?_; exact trivial; exact trivial), (by refine And.intro ?_ ?_; exact trivial; refine And.intro ?_ ?_; exact trivial; exact trivial), trivial⟩), i + 1, by omega, rfl, by rw [hinv, hs], rfl, rfl⟩

set_option maxHeartbeats 2000000 in
theorem fits_a : ∀ a b : Ty, ACalls Tryd.prog 29 [a.u, b.u] [] (.one (.bool (a.fits b))) [] := by
  intro a
  induction a using Ty.ind' with
  | h a ih =>
  intro b
  refine acalls_of_body Tryd.func29 rfl (by kernel_rfl) (Nat.le_of_ble_eq_true rfl) trivial (by simp [namesL]) ?_
  cases h0 : (a.k == 0) with
  | true =>
    refine AW.seq ?_; refine AW.region (by kernel_rfl) ?_; refine RunL.mem (by exact rfl) (loc_boxD rfl rfl rfl) ?_; refine RunL.mem (by exact rfl) (loc_boxD rfl rfl rfl) ?_; refine RunL.val (by exact rfl) (loc_assignC rfl) ?_; refine RunL.nil ?_; refine AW.seq ?_; refine AW.seq ?_; refine AW.region (by kernel_rfl) ?_; refine RunL.val (by exact rfl) (loc_fieldAddr rfl) ?_; refine RunL.val (by exact rfl) (loc_load rfl rfl rfl) ?_; refine RunL.val (by exact rfl) (loc_binInt rfl rfl rfl) ?_; refine RunL.val (by exact rfl) (loc_moveC rfl) ?_; refine RunL.skip (.inl ⟨_, _, rfl, rfl, guard_eq true (by assumption) rfl⟩) ?_; refine RunL.skip (.inl ⟨_, _, rfl, rfl, guard_eq true (by assumption) rfl⟩) ?_; refine RunL.skip (.inl ⟨_, _, rfl, rfl, guard_eq true (by assumption) rfl⟩) ?_; refine RunL.val (by exact rfl) (loc_pickI true (by assumption) rfl rfl) ?_; refine RunL.nil ?_; refine AW.condT (by exact rfl) ?_; refine AW.seq ?_; refine AW.region (by kernel_rfl) ?_; refine RunL.val (by exact rfl) (loc_assignC rfl) ?_; refine RunL.nil ?_; refine AW.ret ?_
    have hr : a.fits b = true := by rw [fits_eta, h0]; rfl
    rw [hr]
    exact ret_same (.inr rfl) rfl trivial
  | false =>
  cases h1 : (b.k == 0) with
  | true =>
    refine AW.seq ?_; refine AW.region (by kernel_rfl) ?_; refine RunL.mem (by exact rfl) (loc_boxD rfl rfl rfl) ?_; refine RunL.mem (by exact rfl) (loc_boxD rfl rfl rfl) ?_; refine RunL.val (by exact rfl) (loc_assignC rfl) ?_; refine RunL.nil ?_; refine AW.seq ?_; refine AW.seq ?_; refine AW.region (by kernel_rfl) ?_; refine RunL.val (by exact rfl) (loc_fieldAddr rfl) ?_; refine RunL.val (by exact rfl) (loc_load rfl rfl rfl) ?_; refine RunL.val (by exact rfl) (loc_binInt rfl rfl rfl) ?_; refine RunL.val (by exact rfl) (loc_moveC rfl) ?_; refine RunL.val (by exact .inl ⟨_, _, rfl, rfl, guard_eq false (by assumption) rfl⟩) (loc_fieldAddr rfl) ?_; refine RunL.val (by exact .inl ⟨_, _, rfl, rfl, guard_eq false (by assumption) rfl⟩) (loc_load rfl rfl rfl) ?_; refine RunL.val (by exact .inl ⟨_, _, rfl, rfl, guard_eq false (by assumption) rfl⟩) (loc_binInt rfl rfl rfl) ?_; refine RunL.val (by exact rfl) (loc_pickI false (by assumption) rfl rfl) ?_; refine RunL.nil ?_; refine AW.condTa (by exact rfl) (by assumption) ?_; refine AW.seq ?_; refine AW.region (by kernel_rfl) ?_; refine RunL.val (by exact rfl) (loc_assignC rfl) ?_; refine RunL.nil ?_; refine AW.ret ?_
    have hr : a.fits b = true := by rw [fits_eta, h0, h1]; rfl
    rw [hr]
    exact ret_same (.inr rfl) rfl trivial
  | false =>
  cases hk : (a.k != b.k) with
  | true =>
    refine AW.seq ?_; refine AW.region (by kernel_rfl) ?_; refine RunL.mem (by exact rfl) (loc_boxD rfl rfl rfl) ?_; refine RunL.mem (by exact rfl) (loc_boxD rfl rfl rfl) ?_; refine RunL.val (by exact rfl) (loc_assignC rfl) ?_; refine RunL.nil ?_; refine AW.seq ?_; refine AW.seq ?_; refine AW.region (by kernel_rfl) ?_; refine RunL.val (by exact rfl) (loc_fieldAddr rfl) ?_; refine RunL.val (by exact rfl) (loc_load rfl rfl rfl) ?_; refine RunL.val (by exact rfl) (loc_binInt rfl rfl rfl) ?_; refine RunL.val (by exact rfl) (loc_moveC rfl) ?_; refine RunL.val (by exact .inl ⟨_, _, rfl, rfl, guard_eq false (by assumption) rfl⟩) (loc_fieldAddr rfl) ?_; refine RunL.val (by exact .inl ⟨_, _, rfl, rfl, guard_eq false (by assumption) rfl⟩) (loc_load rfl rfl rfl) ?_; refine RunL.val (by exact .inl ⟨_, _, rfl, rfl, guard_eq false (by assumption) rfl⟩) (loc_binInt rfl rfl rfl) ?_; refine RunL.val (by exact rfl) (loc_pickI false (by assumption) rfl rfl) ?_; refine RunL.nil ?_; refine AW.condFa (by exact rfl) (by assumption) ?_; refine AW.skip ?_; refine AW.seq ?_; refine AW.seq ?_; refine AW.region (by kernel_rfl) ?_; refine RunL.val (by exact rfl) (loc_fieldAddr rfl) ?_; refine RunL.val (by exact rfl) (loc_load rfl rfl rfl) ?_; refine RunL.val (by exact rfl) (loc_fieldAddr rfl) ?_; refine RunL.val (by exact rfl) (loc_load rfl rfl rfl) ?_; refine RunL.val (by exact rfl) (loc_binInt rfl rfl rfl) ?_; refine RunL.val (by exact rfl) (loc_moveC rfl) ?_; refine RunL.skip (.inl ⟨_, _, rfl, rfl, guard_eq true (by assumption) rfl⟩) ?_; refine RunL.skip (.inl ⟨_, _, rfl, rfl, guard_eq true (by assumption) rfl⟩) ?_; refine RunL.skip (.inl ⟨_, _, rfl, rfl, guard_eq true (by assumption) rfl⟩) ?_; refine RunL.skip (.inl ⟨_, _, rfl, rfl, guard_eq true (by assumption) rfl⟩) ?_; refine RunL.skip (.inl ⟨_, _, rfl, rfl, guard_eq true (by assumption) rfl⟩) ?_; refine RunL.skip (.inl ⟨_, _, rfl, rfl, guard_eq true (by assumption) rfl⟩) ?_; refine RunL.skip (.inl ⟨_, _, rfl, rfl, guard_eq true (by assumption) rfl⟩) ?_; refine RunL.val (by exact rfl) (loc_pickI true (by assumption) rfl rfl) ?_; refine RunL.nil ?_; refine AW.condT (by exact rfl) ?_; refine AW.seq ?_; refine AW.region (by kernel_rfl) ?_; refine RunL.val (by exact rfl) (loc_assignC rfl) ?_; refine RunL.nil ?_; refine AW.ret ?_
    have hr : a.fits b = false := by rw [fits_eta]; simp at hk; simp [*]
    rw [hr]
    exact ret_same (.inr rfl) rfl trivial
  | false =>
    have hkk : a.k = b.k := by simpa using hk
    refine AW.seq ?_; refine AW.region (by kernel_rfl) ?_; refine RunL.mem (by exact rfl) (loc_boxD rfl rfl rfl) ?_; refine RunL.mem (by exact rfl) (loc_boxD rfl rfl rfl) ?_; refine RunL.val (by exact rfl) (loc_assignC rfl) ?_; refine RunL.nil ?_; refine AW.seq ?_; refine AW.seq ?_; refine AW.region (by kernel_rfl) ?_; refine RunL.val (by exact rfl) (loc_fieldAddr rfl) ?_; refine RunL.val (by exact rfl) (loc_load rfl rfl rfl) ?_; refine RunL.val (by exact rfl) (loc_binInt rfl rfl rfl) ?_; refine RunL.val (by exact rfl) (loc_moveC rfl) ?_; refine RunL.val (by exact .inl ⟨_, _, rfl, rfl, guard_eq false (by assumption) rfl⟩) (loc_fieldAddr rfl) ?_; refine RunL.val (by exact .inl ⟨_, _, rfl, rfl, guard_eq false (by assumption) rfl⟩) (loc_load rfl rfl rfl) ?_; refine RunL.val (by exact .inl ⟨_, _, rfl, rfl, guard_eq false (by assumption) rfl⟩) (loc_binInt rfl rfl rfl) ?_; refine RunL.val (by exact rfl) (loc_pickI false (by assumption) rfl rfl) ?_; refine RunL.nil ?_; refine AW.condFa (by exact rfl) (by assumption) ?_; refine AW.skip ?_; refine AW.seq ?_; refine AW.seq ?_; refine AW.region (by kernel_rfl) ?_; refine RunL.val (by exact rfl) (loc_fieldAddr rfl) ?_; refine RunL.val (by exact rfl) (loc_load rfl rfl rfl) ?_; refine RunL.val (by exact rfl) (loc_fieldAddr rfl) ?_; refine RunL.val (by exact rfl) (loc_load rfl rfl rfl) ?_; refine RunL.val (by exact rfl) (loc_binInt rfl rfl rfl) ?_; refine RunL.val (by exact rfl) (loc_moveC rfl) ?_; refine RunL.val (by exact .inl ⟨_, _, rfl, rfl, guard_eq false (by assumption) rfl⟩) (loc_fieldAddr rfl) ?_; refine RunL.val (by exact .inl ⟨_, _, rfl, rfl, guard_eq false (by assumption) rfl⟩) (loc_load rfl rfl rfl) ?_; refine RunL.val (by exact .inl ⟨_, _, rfl, rfl, guard_eq false (by assumption) rfl⟩) (loc_lenSl rfl) ?_; refine RunL.val (by exact .inl ⟨_, _, rfl, rfl, guard_eq false (by assumption) rfl⟩) (loc_fieldAddr rfl) ?_; refine RunL.val (by exact .inl ⟨_, _, rfl, rfl, guard_eq false (by assumption) rfl⟩) (loc_load rfl rfl rfl) ?_; refine RunL.val (by exact .inl ⟨_, _, rfl, rfl, guard_eq false (by assumption) rfl⟩) (loc_lenSl rfl) ?_; refine RunL.val (by exact .inl ⟨_, _, rfl, rfl, guard_eq false (by assumption) rfl⟩) (loc_binInt rfl rfl rfl) ?_; refine RunL.val (by exact rfl) (loc_pickI false (by assumption) rfl rfl) ?_; refine RunL.nil ?_
    refine AW.cond (by exact rfl) (fun hc => ?_) (fun hc => ?_)
    · refine AW.seq ?_; refine AW.region (by kernel_rfl) ?_; refine RunL.val (by exact rfl) (loc_assignC rfl) ?_; refine RunL.nil ?_; refine AW.ret ?_
      have hne : a.l.length ≠ b.l.length := by
        have := int_ne_of hc
        rwa [tyRows_length, tyRows_length] at this
      have hr : a.fits b = false := by rw [fits_eta, fitsL_len hne]; simp [*]
      rw [hr]
      exact ret_same (.inr rfl) rfl trivial
    · have hlen : a.l.length = b.l.length := by
        have := int_eq_of hc
        rwa [tyRows_length, tyRows_length] at this
      have hres : a.fits b = fitsL (a.l.drop 0) (b.l.drop 0) := by rw [fits_eta]; simp [*]
      rw [hres]
      refine AW.skip ?_; refine AW.seq ?_; refine AW.seq ?_; refine AW.region (by kernel_rfl) ?_; refine RunL.val (by exact rfl) (loc_fieldAddr rfl) ?_; refine RunL.val (by exact rfl) (loc_load rfl rfl rfl) ?_; refine RunL.val (by exact rfl) (loc_lenSl rfl) ?_; refine RunL.val (by exact rfl) (loc_moveC rfl) ?_; refine RunL.nil ?_; refine AW.block ?_
      refine AW.gh (gh_lit [(2, .one (.ptr 2 0)), (3, .one (.ptr 3 0)), (29, .one (slOf 2 (tyRows a.l))), (30, .one (.int .i64 ((tyRows a.l).length : Nat))), (31, .one (.int .i64 ((0 : Nat) : Int)))] [(2, .obj a.c), (3, .obj b.c)] [] [] ⟨(WkU.of_eq rfl trivial), (WkU.of_eq rfl trivial), (by exact WkU.of_eq rfl trivial), (WkU.of_eq rfl trivial), (WkU.of_eq rfl trivial), trivial⟩ ⟨(by exact Or.inl ⟨_, rfl, WkBlk.refl _⟩), (by exact Or.inl ⟨_, rfl, WkBlk.refl _⟩), trivial⟩ trivial trivial rfl rfl ⟨⟨_, rfl⟩, ⟨_, rfl⟩, trivial, trivial, trivial, trivial⟩ ⟨(by refine And.intro ?_ ?_; exact trivial; refine And.intro ?_ ?_; exact trivial; exact trivial), (by refine And.intro ?_ ?_; exact trivial; refine And.intro ?_ ?_; exact trivial; exact trivial), trivial⟩) ?_
      refine AW.lenSl 29 rfl fun hmax => ?_
      refine AW.loop (fun m t h => ∃ i : Nat, i ≤ a.l.length ∧ m = a.l.length - i ∧ fitsL (a.l.drop 0) (b.l.drop 0) = fitsL (a.l.drop i) (b.l.drop i) ∧ t = tOfL [(2, .one (.ptr 2 0)), (3, .one (.ptr 3 0)), (29, .one (slOf 2 (tyRows a.l))), (30, .one (.int .i64 ((tyRows a.l).length : Nat))), (31, .one (.int .i64 ((i : Nat) : Int)))] ∧ h = ofL [(2, .obj a.c), (3, .obj b.c)]) a.l.length ⟨0, Nat.zero_le _, rfl, rfl, rfl, rfl⟩ ?_
      rintro m t h ⟨i, hi, rfl, hinv, rfl, rfl⟩
      have hL := tyRows_length a.l
      cases hlt : decide ((i : Int) < ((tyRows a.l).length : Nat)) with
      | false =>
        have hil : i = a.l.length := by simp at hlt; omega
        refine AW.seq ?_; refine AW.region (by kernel_rfl) ?_; refine RunL.val (by exact rfl) (loc_binInt rfl rfl rfl) ?_; refine RunL.nil ?_; refine AW.seq ?_; refine AW.condFa (by exact rfl) (by assumption) ?_; refine AW.exit ?_; refine AW.seq ?_; refine AW.region (by kernel_rfl) ?_; refine RunL.val (by exact rfl) (loc_assignC rfl) ?_; refine RunL.nil ?_; refine AW.ret ?_
        rw [hinv, hil]
        have hr : fitsL (a.l.drop a.l.length) (b.l.drop a.l.length) = true := by rw [List.drop_length, hlen, List.drop_length]; rfl
        rw [hr]
        exact ret_same (.inr rfl) rfl trivial
      | true =>
        have hil : i < a.l.length := by simp at hlt; omega
        have hilb : i < b.l.length := by omega
        have hr1 := tyRows_get hil
        have hr2 := tyRows_get hilb
        refine AW.seq ?_; refine AW.region (by kernel_rfl) ?_; refine RunL.val (by exact rfl) (loc_binInt rfl rfl rfl) ?_; refine RunL.nil ?_; refine AW.seq ?_; refine AW.condTa (by exact rfl) (by assumption) ?_; refine AW.skip ?_; refine AW.seq ?_; refine AW.block ?_; refine AW.seq ?_; refine AW.region (by kernel_rfl) ?_; refine RunL.val (by exact rfl) (loc_moveC rfl) ?_; refine RunL.val (by exact rfl) (loc_assignC rfl) ?_; refine RunL.nil ?_; refine AW.seq ?_; refine AW.regionD (by kernel_rfl) (by kernel_rfl) (by kernel_rfl) ?_; refine RunL.val (by exact rfl) (loc_fieldAddr rfl) ?_; refine RunL.val (by exact rfl) (loc_load rfl rfl rfl) ?_; refine RunL.val (by exact rfl) (loc_moveC rfl) ?_; refine RunL.val (by exact rfl) (loc_indexSl _ rfl rfl rfl (by assumption) rfl) ?_; refine RunL.val (by exact rfl) (loc_loadFA rfl (by exact Cut.all (by exact rfl))) ?_; refine RunL.val (by exact rfl) (loc_fieldAddr rfl) ?_; refine RunL.val (by exact rfl) (loc_load rfl rfl rfl) ?_; refine RunL.val (by exact rfl) (loc_moveC rfl) ?_; refine RunL.val (by exact rfl) (loc_indexSl _ rfl rfl rfl (by assumption) rfl) ?_; refine RunL.val (by exact rfl) (loc_loadFA rfl (by exact Cut.all (by exact rfl))) ?_
        refine RunL.val (by exact rfl) (loc_fun (ih a.l[i] (List.getElem_mem _) b.l[i]) rfl (by refine ⟨_, _, rfl, (by exact LeU.of_eq rfl trivial), (by (refine And.intro ?_ ?_; exact trivial; refine And.intro ?_ ?_; exact trivial; exact trivial)), ?_⟩; refine ⟨_, _, rfl, (by exact LeU.of_eq rfl trivial), (by (refine And.intro ?_ ?_; exact trivial; refine And.intro ?_ ?_; exact trivial; exact trivial)), ?_⟩; exact rfl)) ?_
        have hs := fitsL_drop hil hilb
        cases hq : a.l[i].fits b.l[i] with
        | false =>
          rw [hq, Bool.false_and] at hs
          refine RunL.val (by exact rfl) (loc_not rfl) ?_; refine RunL.nilD (by kernel_rfl) ?_; refine AW.condT (by exact rfl) ?_; refine AW.seq ?_; refine AW.region (by kernel_rfl) ?_; refine RunL.val (by exact rfl) (loc_assignC rfl) ?_; refine RunL.nil ?_; refine AW.ret ?_
          rw [hinv, hs]
          exact ret_same (.inr rfl) rfl trivial
        | true =>
          rw [hq, Bool.true_and] at hs
          refine RunL.val (by exact rfl) (loc_not rfl) ?_; refine RunL.nilD (by kernel_rfl) ?_; refine AW.condF (by exact rfl) ?_; refine AW.skip ?_; refine AW.region (by kernel_rfl) ?_; refine RunL.val (by exact rfl) (loc_inc rfl rfl (by omega)) ?_; refine RunL.val (by exact rfl) (loc_moveC rfl) ?_; refine RunL.nil ?_
          exact ⟨a.l.length - (i + 1), _, _, by omega, (gh_lit [(2, .one (.ptr 2 0)), (3, .one (.ptr 3 0)), (29, .one (slOf 2 (tyRows a.l))), (30, .one (.int .i64 ((tyRows a.l).length : Nat))), (31, .one (.int .i64 ((i + 1 : Nat) : Int)))] [(2, .obj a.c), (3, .obj b.c)] [] [] ⟨(WkU.of_eq rfl trivial), (WkU.of_eq rfl trivial), (by exact WkU.of_eq rfl trivial), (WkU.of_eq rfl trivial), (WkU.of_eq rfl trivial), trivial⟩ ⟨(by exact Or.inl ⟨_, rfl, WkBlk.refl _⟩), (by exact Or.inl ⟨_, rfl, WkBlk.refl _⟩), trivial⟩ trivial trivial rfl rfl ⟨⟨_, rfl⟩, ⟨_, rfl⟩, trivial, trivial, trivial, trivial⟩ ⟨(by refine And.intro ?_ ?_; exact trivial; refine And.intro ?_ ?_; exact trivial; exact trivial), (by refine And.intro ?_ ?_; exact trivial; refine And.intro ?_ ?_; exact trivial; exact trivial), trivial⟩), i + 1, by omega, rfl, by rw [hinv, hs], rfl, rfl⟩

set_option maxHeartbeats 2000000 in
theorem finer_a : ∀ a b : Ty, ACalls Tryd.prog 26 [a.u, b.u] [] (.one (.bool (a.finer b))) [] := by
  intro a
  induction a using Ty.ind' with
  | h a ih =>
  intro b
  refine acalls_of_body Tryd.func26 rfl (by kernel_rfl) (Nat.le_of_ble_eq_true rfl) trivial (by simp [namesL]) ?_
  cases h1 : (b.k == 0) with
  | true =>
    refine AW.seq ?_; refine AW.region (by kernel_rfl) ?_; refine RunL.mem (by exact rfl) (loc_boxD rfl rfl rfl) ?_; refine RunL.mem (by exact rfl) (loc_boxD rfl rfl rfl) ?_; refine RunL.val (by exact rfl) (loc_assignC rfl) ?_; refine RunL.nil ?_; refine AW.seq ?_; refine AW.seq ?_; refine AW.region (by kernel_rfl) ?_; refine RunL.val (by exact rfl) (loc_fieldAddr rfl) ?_; refine RunL.val (by exact rfl) (loc_load rfl rfl rfl) ?_; refine RunL.val (by exact rfl) (loc_binInt rfl rfl rfl) ?_; refine RunL.nil ?_; refine AW.condTa (by exact rfl) (by assumption) ?_; refine AW.seq ?_; refine AW.region (by kernel_rfl) ?_; refine RunL.val (by exact rfl) (loc_assignC rfl) ?_; refine RunL.nil ?_; refine AW.ret ?_
    have hr : a.finer b = true := by rw [finer_eta, h1]; rfl
    rw [hr]
    exact ret_same (.inr rfl) rfl trivial
  | false =>
  cases hk : (a.k != b.k) with
  | true =>
    refine AW.seq ?_; refine AW.region (by kernel_rfl) ?_; refine RunL.mem (by exact rfl) (loc_boxD rfl rfl rfl) ?_; refine RunL.mem (by exact rfl) (loc_boxD rfl rfl rfl) ?_; refine RunL.val (by exact rfl) (loc_assignC rfl) ?_; refine RunL.nil ?_; refine AW.seq ?_; refine AW.seq ?_; refine AW.region (by kernel_rfl) ?_; refine RunL.val (by exact rfl) (loc_fieldAddr rfl) ?_; refine RunL.val (by exact rfl) (loc_load rfl rfl rfl) ?_; refine RunL.val (by exact rfl) (loc_binInt rfl rfl rfl) ?_; refine RunL.nil ?_; refine AW.condFa (by exact rfl) (by assumption) ?_; refine AW.skip ?_; refine AW.seq ?_; refine AW.seq ?_; refine AW.region (by kernel_rfl) ?_; refine RunL.val (by exact rfl) (loc_fieldAddr rfl) ?_; refine RunL.val (by exact rfl) (loc_load rfl rfl rfl) ?_; refine RunL.val (by exact rfl) (loc_fieldAddr rfl) ?_; refine RunL.val (by exact rfl) (loc_load rfl rfl rfl) ?_; refine RunL.val (by exact rfl) (loc_binInt rfl rfl rfl) ?_; refine RunL.val (by exact rfl) (loc_moveC rfl) ?_; refine RunL.skip (.inl ⟨_, _, rfl, rfl, guard_eq true (by assumption) rfl⟩) ?_; refine RunL.skip (.inl ⟨_, _, rfl, rfl, guard_eq true (by assumption) rfl⟩) ?_; refine RunL.skip (.inl ⟨_, _, rfl, rfl, guard_eq true (by assumption) rfl⟩) ?_; refine RunL.skip (.inl ⟨_, _, rfl, rfl, guard_eq true (by assumption) rfl⟩) ?_; refine RunL.skip (.inl ⟨_, _, rfl, rfl, guard_eq true (by assumption) rfl⟩) ?_; refine RunL.skip (.inl ⟨_, _, rfl, rfl, guard_eq true (by assumption) rfl⟩) ?_; refine RunL.skip (.inl ⟨_, _, rfl, rfl, guard_eq true (by assumption) rfl⟩) ?_; refine RunL.val (by exact rfl) (loc_pickI true (by assumption) rfl rfl) ?_; refine RunL.nil ?_; refine AW.condT (by exact rfl) ?_; refine AW.seq ?_; refine AW.region (by kernel_rfl) ?_; refine RunL.val (by exact rfl) (loc_assignC rfl) ?_; refine RunL.nil ?_; refine AW.ret ?_
    have hr : a.finer b = false := by rw [finer_eta]; simp at hk; simp [*]
    rw [hr]
    exact ret_same (.inr rfl) rfl trivial
  | false =>
    have hkk : a.k = b.k := by simpa using hk
    refine AW.seq ?_; refine AW.region (by kernel_rfl) ?_; refine RunL.mem (by exact rfl) (loc_boxD rfl rfl rfl) ?_; refine RunL.mem (by exact rfl) (loc_boxD rfl rfl rfl) ?_; refine RunL.val (by exact rfl) (loc_assignC rfl) ?_; refine RunL.nil ?_; refine AW.seq ?_; refine AW.seq ?_; refine AW.region (by kernel_rfl) ?_; refine RunL.val (by exact rfl) (loc_fieldAddr rfl) ?_; refine RunL.val (by exact rfl) (loc_load rfl rfl rfl) ?_; refine RunL.val (by exact rfl) (loc_binInt rfl rfl rfl) ?_; refine RunL.nil ?_; refine AW.condFa (by exact rfl) (by assumption) ?_; refine AW.skip ?_; refine AW.seq ?_; refine AW.seq ?_; refine AW.region (by kernel_rfl) ?_; refine RunL.val (by exact rfl) (loc_fieldAddr rfl) ?_; refine RunL.val (by exact rfl) (loc_load rfl rfl rfl) ?_; refine RunL.val (by exact rfl) (loc_fieldAddr rfl) ?_; refine RunL.val (by exact rfl) (loc_load rfl rfl rfl) ?_; refine RunL.val (by exact rfl) (loc_binInt rfl rfl rfl) ?_; refine RunL.val (by exact rfl) (loc_moveC rfl) ?_; refine RunL.val (by exact .inl ⟨_, _, rfl, rfl, guard_eq false (by assumption) rfl⟩) (loc_fieldAddr rfl) ?_; refine RunL.val (by exact .inl ⟨_, _, rfl, rfl, guard_eq false (by assumption) rfl⟩) (loc_load rfl rfl rfl) ?_; refine RunL.val (by exact .inl ⟨_, _, rfl, rfl, guard_eq false (by assumption) rfl⟩) (loc_lenSl rfl) ?_; refine RunL.val (by exact .inl ⟨_, _, rfl, rfl, guard_eq false (by assumption) rfl⟩) (loc_fieldAddr rfl) ?_; refine RunL.val (by exact .inl ⟨_, _, rfl, rfl, guard_eq false (by assumption) rfl⟩) (loc_load rfl rfl rfl) ?_; refine RunL.val (by exact .inl ⟨_, _, rfl, rfl, guard_eq false (by assumption) rfl⟩) (loc_lenSl rfl) ?_; refine RunL.val (by exact .inl ⟨_, _, rfl, rfl, guard_eq false (by assumption) rfl⟩) (loc_binInt rfl rfl rfl) ?_; refine RunL.val (by exact rfl) (loc_pickI false (by assumption) rfl rfl) ?_; refine RunL.nil ?_
    refine AW.cond (by exact rfl) (fun hc => ?_) (fun hc => ?_)
    · refine AW.seq ?_; refine AW.region (by kernel_rfl) ?_; refine RunL.val (by exact rfl) (loc_assignC rfl) ?_; refine RunL.nil ?_; refine AW.ret ?_
      have hne : a.l.length ≠ b.l.length := by
        have := int_ne_of hc
        rwa [tyRows_length, tyRows_length] at this
      have hr : a.finer b = false := by rw [finer_eta, finerL_len hne]; simp [*]
      rw [hr]
      exact ret_same (.inr rfl) rfl trivial
    · have hlen : a.l.length = b.l.length := by
        have := int_eq_of hc
        rwa [tyRows_length, tyRows_length] at this
      have hres : a.finer b = finerL (a.l.drop 0) (b.l.drop 0) := by rw [finer_eta]; simp [*]
      rw [hres]
      refine AW.skip ?_; refine AW.seq ?_; refine AW.seq ?_; refine AW.region (by kernel_rfl) ?_; refine RunL.val (by exact rfl) (loc_fieldAddr rfl) ?_; refine RunL.val (by exact rfl) (loc_load rfl rfl rfl) ?_; refine RunL.val (by exact rfl) (loc_lenSl rfl) ?_; refine RunL.val (by exact rfl) (loc_moveC rfl) ?_; refine RunL.nil ?_; refine AW.block ?_
      refine AW.gh (gh_lit [(2, .one (.ptr 2 0)), (3, .one (.ptr 3 0)), (24, .one (slOf 2 (tyRows a.l))), (25, .one (.int .i64 ((tyRows a.l).length : Nat))), (26, .one (.int .i64 ((0 : Nat) : Int)))] [(2, .obj a.c), (3, .obj b.c)] [] [] ⟨(WkU.of_eq rfl trivial), (WkU.of_eq rfl trivial), (by exact WkU.of_eq rfl trivial), (WkU.of_eq rfl trivial), (WkU.of_eq rfl trivial), trivial⟩ ⟨(by exact Or.inl ⟨_, rfl, WkBlk.refl _⟩), (by exact Or.inl ⟨_, rfl, WkBlk.refl _⟩), trivial⟩ trivial trivial rfl rfl ⟨⟨_, rfl⟩, ⟨_, rfl⟩, trivial, trivial, trivial, trivial⟩ ⟨(by refine And.intro ?_ ?_; exact trivial; refine And.intro ?_ ?_; exact trivial; exact trivial), (by refine And.intro ?_ ?_; exact trivial; refine And.intro ?_ ?_; exact trivial; exact trivial), trivial⟩) ?_
      refine AW.lenSl 24 rfl fun hmax => ?_
      refine AW.loop (fun m t h => ∃ i : Nat, i ≤ a.l.length ∧ m = a.l.length - i ∧ finerL (a.l.drop 0) (b.l.drop 0) = finerL (a.l.drop i) (b.l.drop i) ∧ t = tOfL [(2, .one (.ptr 2 0)), (3, .one (.ptr 3 0)), (24, .one (slOf 2 (tyRows a.l))), (25, .one (.int .i64 ((tyRows a.l).length : Nat))), (26, .one (.int .i64 ((i : Nat) : Int)))] ∧ h = ofL [(2, .obj a.c), (3, .obj b.c)]) a.l.length ⟨0, Nat.zero_le _, rfl, rfl, rfl, rfl⟩ ?_
      rintro m t h ⟨i, hi, rfl, hinv, rfl, rfl⟩
      have hL := tyRows_length a.l
      cases hlt : decide ((i : Int) < ((tyRows a.l).length : Nat)) with
      | false =>
        have hil : i = a.l.length := by simp at hlt; omega
        refine AW.seq ?_; refine AW.region (by kernel_rfl) ?_; refine RunL.val (by exact rfl) (loc_binInt rfl rfl rfl) ?_; refine RunL.nil ?_; refine AW.seq ?_; refine AW.condFa (by exact rfl) (by assumption) ?_; refine AW.exit ?_; refine AW.seq ?_; refine AW.region (by kernel_rfl) ?_; refine RunL.val (by exact rfl) (loc_assignC rfl) ?_; refine RunL.nil ?_; refine AW.ret ?_
        rw [hinv, hil]
        have hr : finerL (a.l.drop a.l.length) (b.l.drop a.l.length) = true := by rw [List.drop_length, hlen, List.drop_length]; rfl
        rw [hr]
        exact ret_same (.inr rfl) rfl trivial
      | true =>
        have hil : i < a.l.length := by simp at hlt; omega
        have hilb : i < b.l.length := by omega
        have hr1 := tyRows_get hil
        have hr2 := tyRows_get hilb
        refine AW.seq ?_; refine AW.region (by kernel_rfl) ?_; refine RunL.val (by exact rfl) (loc_binInt rfl rfl rfl) ?_; refine RunL.nil ?_; refine AW.seq ?_; refine AW.condTa (by exact rfl) (by assumption) ?_; refine AW.skip ?_; refine AW.seq ?_; refine AW.block ?_; refine AW.seq ?_; refine AW.region (by kernel_rfl) ?_; refine RunL.val (by exact rfl) (loc_moveC rfl) ?_; refine RunL.val (by exact rfl) (loc_assignC rfl) ?_; refine RunL.nil ?_; refine AW.seq ?_; refine AW.regionD (by kernel_rfl) (by kernel_rfl) (by kernel_rfl) ?_; refine RunL.val (by exact rfl) (loc_fieldAddr rfl) ?_; refine RunL.val (by exact rfl) (loc_load rfl rfl rfl) ?_; refine RunL.val (by exact rfl) (loc_moveC rfl) ?_; refine RunL.val (by exact rfl) (loc_indexSl _ rfl rfl rfl (by assumption) rfl) ?_; refine RunL.val (by exact rfl) (loc_loadFA rfl (by exact Cut.all (by exact rfl))) ?_; refine RunL.val (by exact rfl) (loc_fieldAddr rfl) ?_; refine RunL.val (by exact rfl) (loc_load rfl rfl rfl) ?_; refine RunL.val (by exact rfl) (loc_moveC rfl) ?_; refine RunL.val (by exact rfl) (loc_indexSl _ rfl rfl rfl (by assumption) rfl) ?_; refine RunL.val (by exact rfl) (loc_loadFA rfl (by exact Cut.all (by exact rfl))) ?_
        refine RunL.val (by exact rfl) (loc_fun (ih a.l[i] (List.getElem_mem _) b.l[i]) rfl (by refine ⟨_, _, rfl, (by exact LeU.of_eq rfl trivial), (by (refine And.intro ?_ ?_; exact trivial; refine And.intro ?_ ?_; exact trivial; exact trivial)), ?_⟩; refine ⟨_, _, rfl, (by exact LeU.of_eq rfl trivial), (by (refine And.intro ?_ ?_; exact trivial; refine And.intro ?_ ?_; exact trivial; exact trivial)), ?_⟩; exact rfl)) ?_
        have hs := finerL_drop hil hilb
        cases hq : a.l[i].finer b.l[i] with
        | false =>
          rw [hq, Bool.false_and] at hs
          refine RunL.val (by exact rfl) (loc_not rfl) ?_; refine RunL.nilD (by kernel_rfl) ?_; refine AW.condT (by exact rfl) ?_; refine AW.seq ?_; refine AW.region (by kernel_rfl) ?_; refine RunL.val (by exact rfl) (loc_assignC rfl) ?_; refine RunL.nil ?_; refine AW.ret ?_
          rw [hinv, hs]
          exact ret_same (.inr rfl) rfl trivial
        | true =>
          rw [hq, Bool.true_and] at hs
          refine RunL.val (by exact rfl) (loc_not rfl) ?_; refine RunL.nilD (by kernel_rfl) ?_; refine AW.condF (by exact rfl) ?_; refine AW.skip ?_; refine AW.region (by kernel_rfl) ?_; refine RunL.val (by exact rfl) (loc_inc rfl rfl (by omega)) ?_; refine RunL.val (by exact rfl) (loc_moveC rfl) ?_; refine RunL.nil ?_
          exact ⟨a.l.length - (i + 1), _, _, by omega, (gh_lit [(2, .one (.ptr 2 0)), (3, .one (.ptr 3 0)), (24, .one (slOf 2 (tyRows a.l))), (25, .one (.int .i64 ((tyRows a.l).length : Nat))), (26, .one (.int .i64 ((i + 1 : Nat) : Int)))] [(2, .obj a.c), (3, .obj b.c)] [] [] ⟨(WkU.of_eq rfl trivial), (WkU.of_eq rfl trivial), (by exact WkU.of_eq rfl trivial), (WkU.of_eq rfl trivial), (WkU.of_eq rfl trivial), trivial⟩ ⟨(by exact Or.inl ⟨_, rfl, WkBlk.refl _⟩), (by exact Or.inl ⟨_, rfl, WkBlk.refl _⟩), trivial⟩ trivial trivial rfl rfl ⟨⟨_, rfl⟩, ⟨_, rfl⟩, trivial, trivial, trivial, trivial⟩ ⟨(by refine And.intro ?_ ?_; exact trivial; refine And.intro ?_ ?_; exact trivial; exact trivial), (by refine And.intro ?_ ?_; exact trivial; refine And.intro ?_ ?_; exact trivial; exact trivial), trivial⟩), i + 1, by omega, rfl, by rw [hinv, hs], rfl, rfl⟩
end Go.Proofs.YtnflnbdlgdjfmaaDoor
