/-
  The walks of the reference's functions on types. Conditions: those typed in each theorem.
  The walks of the reference's functions on types. Conditions: those typed in each theorem.
  The walks of stuck, goes, push and seen. Conditions: those typed in each theorem.
  The walk of cast. Conditions: those typed in each theorem.
  The walks of two and enter. Conditions: those typed in each theorem.
  The walk of enter. Conditions: those typed in each theorem.
  The walk of call. Conditions: those typed in each theorem.
  The walk of leave. Conditions: those typed in each theorem.
  The walk of flow. Conditions: those typed in each theorem.
  The walks of begin and Run. Conditions: the term is not too large, its numbers are ints.
  The walk of term.Same. Conditions: none.
  Operations that the reference needs (2): a list of the call's own out of some values; nothing appended. Conditions: those typed in each theorem.
-/
import Derived.Test.YtnflnbdlgdjfmabGreatDoorP2
import Derived.Deep.Upon
namespace Go.Proofs.YtnflnbdlgdjfmabGreatDoor
open Go.RowKit
set_option linter.unusedVariables false
set_option linter.unusedSimpArgs false
set_option maxRecDepth 100000
attribute [local irreducible] RunL AW LocOp ACalls Gh
set_option maxHeartbeats 1000000 in
theorem any0_a : ACalls Tryz.prog 38 [] [] Ty.any.u [] := by
  refine acalls_of_body Tryz.func38 rfl (by kernel_rfl) (Nat.le_of_ble_eq_true rfl) trivial (by simp [namesL]) ?_
  refine AW.seq ?_; refine AW.region (by kernel_rfl) ?_; refine RunL.mem (by exact rfl) (loc_allocD rfl rfl) ?_; refine RunL.nil ?_; refine AW.seq ?_; refine AW.region (by kernel_rfl) ?_; refine RunL.val (by exact rfl) (loc_build (by exact rfl) (by exact Cut.all (by exact rfl)) (by exact rfl)) ?_; refine RunL.eff (by exact rfl) (loc_storeW rfl rfl rfl rfl (by exact rfl) (by exact rfl)) ?_; refine RunL.nil ?_; refine AW.ret ?_
  refine rq ?_
  refine ret_cell (by exact .inr rfl) (by exact rfl) (by exact rfl) (by exact rfl) [] trivial (l' := Ty.any.c) (by exact ⟨.le (.refl _), .le (.nil _), trivial⟩) (by exact ⟨trivial, trivial, trivial⟩) (by exact rfl)
set_option maxHeartbeats 2000000 in
theorem rsame_a : ∀ a b : Ty, ACalls Tryz.prog 27 [a.u, b.u] [] (.one (.bool (a.same b))) [] := by
  intro a
  induction a using Ty.ind' with
  | h a ih =>
  intro b
  have hL := tyRows_length a.l
  have hM := tyRows_length b.l
  refine acalls_of_body Tryz.func27 rfl (by kernel_rfl) (Nat.le_of_ble_eq_true rfl) trivial (by simp [namesL]) ?_
  refine AW.seq ?_
  refine AW.region (by kernel_rfl) ?_
  refine RunL.mem (by exact rfl) (loc_boxD rfl rfl rfl) ?_; refine RunL.mem (by exact rfl) (loc_boxD rfl rfl rfl) ?_; refine RunL.val (by exact rfl) (loc_assignC rfl) ?_; refine RunL.nil ?_
  refine AW.seq ?_
  refine AW.midC (fun t h => t = tOfL [(2, .one (.ptr 2 0)), (3, .one (.ptr 3 0)), (5, .one (.bool (a.k == b.k && (((tyRows a.l).length : Nat) : Int) == ((tyRows b.l).length : Nat))))] ∧ h = ofL [(2, .obj a.c), (3, .obj b.c)]) ?_ ?_
  · cases h1 : (a.k == b.k) with
    | true =>
      refine AW.region (by kernel_rfl) ?_; refine RunL.val (by exact rfl) (loc_fieldAddr rfl) ?_; refine RunL.val (by exact rfl) (loc_load rfl rfl rfl) ?_; refine RunL.val (by exact rfl) (loc_fieldAddr rfl) ?_; refine RunL.val (by exact rfl) (loc_load rfl rfl rfl) ?_; refine RunL.val (by exact rfl) (loc_binInt rfl rfl rfl) ?_; refine RunL.val (by exact rfl) (loc_moveC rfl) ?_; refine RunL.val (by exact .inl ⟨_, _, rfl, rfl, guard_eq true (by assumption) rfl⟩) (loc_fieldAddr rfl) ?_; refine RunL.val (by exact .inl ⟨_, _, rfl, rfl, guard_eq true (by assumption) rfl⟩) (loc_load rfl rfl rfl) ?_; refine RunL.val (by exact .inl ⟨_, _, rfl, rfl, guard_eq true (by assumption) rfl⟩) (loc_lenSl rfl) ?_; refine RunL.val (by exact .inl ⟨_, _, rfl, rfl, guard_eq true (by assumption) rfl⟩) (loc_fieldAddr rfl) ?_; refine RunL.val (by exact .inl ⟨_, _, rfl, rfl, guard_eq true (by assumption) rfl⟩) (loc_load rfl rfl rfl) ?_; refine RunL.val (by exact .inl ⟨_, _, rfl, rfl, guard_eq true (by assumption) rfl⟩) (loc_lenSl rfl) ?_; refine RunL.val (by exact .inl ⟨_, _, rfl, rfl, guard_eq true (by assumption) rfl⟩) (loc_binInt rfl rfl rfl) ?_; refine RunL.val (by exact rfl) (loc_pickI true (by assumption) rfl rfl) ?_; refine RunL.val (by exact rfl) (loc_assignC rfl) ?_; refine RunL.nil ?_
      exact ⟨_, _, (gh_lit [(2, .one (.ptr 2 0)), (3, .one (.ptr 3 0)), (5, .one (.bool ((((tyRows a.l).length : Nat) : Int) == ((tyRows b.l).length : Nat))))] [(2, .obj a.c), (3, .obj b.c)] [] [] ⟨(WkU.of_eq rfl trivial), (WkU.of_eq rfl trivial), (WkU.of_eq rfl trivial), trivial⟩ ⟨(by exact Or.inl ⟨_, rfl, WkBlk.refl _⟩), (by exact Or.inl ⟨_, rfl, WkBlk.refl _⟩), trivial⟩ trivial trivial rfl rfl ⟨⟨_, rfl⟩, ⟨_, rfl⟩, trivial, trivial⟩ ⟨(by refine And.intro ?_ ?_; exact trivial; refine And.intro ?_ ?_; exact trivial; exact trivial), (by refine And.intro ?_ ?_; exact trivial; refine And.intro ?_ ?_; exact trivial; exact trivial), trivial⟩), by simp, rfl⟩
    | false =>
      refine AW.region (by kernel_rfl) ?_; refine RunL.val (by exact rfl) (loc_fieldAddr rfl) ?_; refine RunL.val (by exact rfl) (loc_load rfl rfl rfl) ?_; refine RunL.val (by exact rfl) (loc_fieldAddr rfl) ?_; refine RunL.val (by exact rfl) (loc_load rfl rfl rfl) ?_; refine RunL.val (by exact rfl) (loc_binInt rfl rfl rfl) ?_; refine RunL.val (by exact rfl) (loc_moveC rfl) ?_; refine RunL.skip (.inl ⟨_, _, rfl, rfl, guard_eq false (by assumption) rfl⟩) ?_; refine RunL.skip (.inl ⟨_, _, rfl, rfl, guard_eq false (by assumption) rfl⟩) ?_; refine RunL.skip (.inl ⟨_, _, rfl, rfl, guard_eq false (by assumption) rfl⟩) ?_; refine RunL.skip (.inl ⟨_, _, rfl, rfl, guard_eq false (by assumption) rfl⟩) ?_; refine RunL.skip (.inl ⟨_, _, rfl, rfl, guard_eq false (by assumption) rfl⟩) ?_; refine RunL.skip (.inl ⟨_, _, rfl, rfl, guard_eq false (by assumption) rfl⟩) ?_; refine RunL.skip (.inl ⟨_, _, rfl, rfl, guard_eq false (by assumption) rfl⟩) ?_; refine RunL.val (by exact rfl) (loc_pickI false (by assumption) rfl rfl) ?_; refine RunL.val (by exact rfl) (loc_assignC rfl) ?_; refine RunL.nil ?_
      exact ⟨_, _, (gh_lit [(2, .one (.ptr 2 0)), (3, .one (.ptr 3 0)), (5, .one (.bool false))] [(2, .obj a.c), (3, .obj b.c)] [] [] ⟨(WkU.of_eq rfl trivial), (WkU.of_eq rfl trivial), (WkU.of_eq rfl trivial), trivial⟩ ⟨(by exact Or.inl ⟨_, rfl, WkBlk.refl _⟩), (by exact Or.inl ⟨_, rfl, WkBlk.refl _⟩), trivial⟩ trivial trivial rfl rfl ⟨⟨_, rfl⟩, ⟨_, rfl⟩, trivial, trivial⟩ ⟨(by refine And.intro ?_ ?_; exact trivial; refine And.intro ?_ ?_; exact trivial; exact trivial), (by refine And.intro ?_ ?_; exact trivial; refine And.intro ?_ ?_; exact trivial; exact trivial), trivial⟩), by simp, rfl⟩
  · rintro t h ⟨rfl, rfl⟩
    have h0 : a.same b = ((a.k == b.k && (((tyRows a.l).length : Nat) : Int) == ((tyRows b.l).length : Nat)) && sameL (a.l.drop 0) (b.l.drop 0)) := by
      rw [same_eta, hL, hM, List.drop_zero, List.drop_zero]
      by_cases hl : a.l.length = b.l.length
      · simp [hl]
      · simp [hl, sameL_len hl]
    have hl : (a.k == b.k && (((tyRows a.l).length : Nat) : Int) == ((tyRows b.l).length : Nat)) = true → a.l.length = b.l.length := by
      intro h; rw [hL, hM, Bool.and_eq_true] at h; have := h.2; simp at this; omega
    generalize (a.k == b.k && (((tyRows a.l).length : Nat) : Int) == ((tyRows b.l).length : Nat)) = ok0 at *
    refine AW.seq ?_; refine AW.seq ?_; refine AW.region (by kernel_rfl) ?_; refine RunL.val (by exact rfl) (loc_assignC rfl) ?_; refine RunL.nil ?_; refine AW.block ?_
    refine AW.gh (gh_lit [(2, .one (.ptr 2 0)), (3, .one (.ptr 3 0)), (5, .one (.bool (ok0))), (6, .one (.int .i64 ((0 : Nat) : Int)))] [(2, .obj a.c), (3, .obj b.c)] [] [] ⟨(WkU.of_eq rfl trivial), (WkU.of_eq rfl trivial), (WkU.of_eq rfl trivial), (WkU.of_eq rfl trivial), trivial⟩ ⟨(by exact Or.inl ⟨_, rfl, WkBlk.refl _⟩), (by exact Or.inl ⟨_, rfl, WkBlk.refl _⟩), trivial⟩ trivial trivial rfl rfl ⟨⟨_, rfl⟩, ⟨_, rfl⟩, trivial, trivial, trivial⟩ ⟨(by refine And.intro ?_ ?_; exact trivial; refine And.intro ?_ ?_; exact trivial; exact trivial), (by refine And.intro ?_ ?_; exact trivial; refine And.intro ?_ ?_; exact trivial; exact trivial), trivial⟩) ?_
    refine AW.lenBlk 2 1 rfl rfl fun hmax => ?_
    refine AW.loop (fun m t h => ∃ i : Nat, ∃ ok : Bool, i ≤ a.l.length ∧ m = a.l.length - i ∧ (ok = true → a.l.length = b.l.length) ∧ a.same b = (ok && sameL (a.l.drop i) (b.l.drop i)) ∧ t = tOfL [(2, .one (.ptr 2 0)), (3, .one (.ptr 3 0)), (5, .one (.bool (ok))), (6, .one (.int .i64 ((i : Nat) : Int)))] ∧ h = ofL [(2, .obj a.c), (3, .obj b.c)]) a.l.length ⟨0, ok0, Nat.zero_le _, rfl, hl, h0, rfl, rfl⟩ ?_
    rintro m t h ⟨i, ok, hi, rfl, hlen, hinv, rfl, rfl⟩
    clear hl h0
    cases ok with
    | false =>
      refine AW.seq ?_; refine AW.seq ?_; refine AW.region (by kernel_rfl) ?_; refine RunL.val (by exact rfl) (loc_moveC rfl) ?_; refine RunL.val (by exact rfl) (loc_moveC rfl) ?_; refine RunL.skip (.inl ⟨_, _, rfl, rfl, rfl⟩) ?_; refine RunL.skip (.inl ⟨_, _, rfl, rfl, rfl⟩) ?_; refine RunL.skip (.inl ⟨_, _, rfl, rfl, rfl⟩) ?_; refine RunL.skip (.inl ⟨_, _, rfl, rfl, rfl⟩) ?_; refine RunL.skip (.inl ⟨_, _, rfl, rfl, rfl⟩) ?_; refine RunL.val (by exact rfl) (loc_pickF rfl rfl) ?_; refine RunL.nil ?_; refine AW.condF (by exact rfl) ?_; refine AW.exit ?_; refine AW.seq ?_; refine AW.region (by kernel_rfl) ?_; refine RunL.val (by exact rfl) (loc_moveC rfl) ?_; refine RunL.val (by exact rfl) (loc_assignC rfl) ?_; refine RunL.nil ?_; refine AW.ret ?_
      rw [hinv]
      exact ret_same (.inr rfl) rfl trivial
    | true =>
    have hlen := hlen rfl
    cases hlt : decide ((i : Int) < ((tyRows a.l).length : Nat)) with
    | false =>
      have hil : i = a.l.length := by simp at hlt; omega
      refine AW.seq ?_; refine AW.seq ?_; refine AW.region (by kernel_rfl) ?_; refine RunL.val (by exact rfl) (loc_moveC rfl) ?_; refine RunL.val (by exact rfl) (loc_moveC rfl) ?_; refine RunL.val (by exact .inl ⟨_, _, rfl, rfl, rfl⟩) (loc_moveC rfl) ?_; refine RunL.val (by exact .inl ⟨_, _, rfl, rfl, rfl⟩) (loc_fieldAddr rfl) ?_; refine RunL.val (by exact .inl ⟨_, _, rfl, rfl, rfl⟩) (loc_load rfl rfl rfl) ?_; refine RunL.val (by exact .inl ⟨_, _, rfl, rfl, rfl⟩) (loc_lenSl rfl) ?_; refine RunL.val (by exact .inl ⟨_, _, rfl, rfl, rfl⟩) (loc_binInt rfl rfl rfl) ?_; refine RunL.val (by exact rfl) (loc_pickT rfl rfl) ?_; refine RunL.nil ?_; refine AW.condFa (by exact rfl) (by assumption) ?_; refine AW.exit ?_; refine AW.seq ?_; refine AW.region (by kernel_rfl) ?_; refine RunL.val (by exact rfl) (loc_moveC rfl) ?_; refine RunL.val (by exact rfl) (loc_assignC rfl) ?_; refine RunL.nil ?_; refine AW.ret ?_
      rw [hinv, hil, show sameL (a.l.drop a.l.length) (b.l.drop a.l.length) = true by rw [List.drop_length, hlen, List.drop_length]; rfl]
      exact ret_same (.inr rfl) rfl trivial
    | true =>
      have hil : i < a.l.length := by simp at hlt; omega
      have hilb : i < b.l.length := by omega
      have hr1 := tyRows_get hil
      have hr2 := tyRows_get hilb
      have hs := sameL_drop hil hilb
      refine AW.seq ?_; refine AW.seq ?_; refine AW.region (by kernel_rfl) ?_; refine RunL.val (by exact rfl) (loc_moveC rfl) ?_; refine RunL.val (by exact rfl) (loc_moveC rfl) ?_; refine RunL.val (by exact .inl ⟨_, _, rfl, rfl, rfl⟩) (loc_moveC rfl) ?_; refine RunL.val (by exact .inl ⟨_, _, rfl, rfl, rfl⟩) (loc_fieldAddr rfl) ?_; refine RunL.val (by exact .inl ⟨_, _, rfl, rfl, rfl⟩) (loc_load rfl rfl rfl) ?_; refine RunL.val (by exact .inl ⟨_, _, rfl, rfl, rfl⟩) (loc_lenSl rfl) ?_; refine RunL.val (by exact .inl ⟨_, _, rfl, rfl, rfl⟩) (loc_binInt rfl rfl rfl) ?_; refine RunL.val (by exact rfl) (loc_pickT rfl rfl) ?_; refine RunL.nil ?_; refine AW.condTa (by exact rfl) (by assumption) ?_; refine AW.skip ?_; refine AW.seq ?_; refine AW.block ?_; refine AW.regionD (by kernel_rfl) (by kernel_rfl) (by kernel_rfl) ?_; refine RunL.val (by exact rfl) (loc_fieldAddr rfl) ?_; refine RunL.val (by exact rfl) (loc_load rfl rfl rfl) ?_; refine RunL.val (by exact rfl) (loc_moveC rfl) ?_; refine RunL.val (by exact rfl) (loc_indexSl _ rfl rfl rfl (by assumption) rfl) ?_; refine RunL.val (by exact rfl) (loc_loadFA rfl (by exact Cut.all (by exact rfl))) ?_; refine RunL.val (by exact rfl) (loc_fieldAddr rfl) ?_; refine RunL.val (by exact rfl) (loc_load rfl rfl rfl) ?_; refine RunL.val (by exact rfl) (loc_moveC rfl) ?_; refine RunL.val (by exact rfl) (loc_indexSl _ rfl rfl rfl (by assumption) rfl) ?_; refine RunL.val (by exact rfl) (loc_loadFA rfl (by exact Cut.all (by exact rfl))) ?_
      refine RunL.val (by exact rfl) (loc_fun (ih a.l[i] (List.getElem_mem _) b.l[i]) rfl (by refine ⟨_, _, rfl, (by exact LeU.of_eq rfl trivial), (by (refine And.intro ?_ ?_; exact trivial; refine And.intro ?_ ?_; exact trivial; exact trivial; done)), ?_⟩; refine ⟨_, _, rfl, (by exact LeU.of_eq rfl trivial), (by (refine And.intro ?_ ?_; exact trivial; refine And.intro ?_ ?_; exact trivial; exact trivial; done)), ?_⟩; exact rfl)) ?_
      refine RunL.val (by exact rfl) (loc_assignC rfl) ?_; refine RunL.nilD (by kernel_rfl) ?_; refine AW.region (by kernel_rfl) ?_; refine RunL.val (by exact rfl) (loc_moveC rfl) ?_; refine RunL.val (by exact rfl) (loc_inc rfl rfl (by omega)) ?_; refine RunL.val (by exact rfl) (loc_assignC rfl) ?_; refine RunL.nil ?_
      exact ⟨a.l.length - (i + 1), _, _, by omega, (gh_lit [(2, .one (.ptr 2 0)), (3, .one (.ptr 3 0)), (5, .one (.bool (a.l[i].same b.l[i]))), (6, .one (.int .i64 (((i + 1) : Nat) : Int)))] [(2, .obj a.c), (3, .obj b.c)] [] [] ⟨(WkU.of_eq rfl trivial), (WkU.of_eq rfl trivial), (WkU.of_eq rfl trivial), (WkU.of_eq rfl trivial), trivial⟩ ⟨(by exact Or.inl ⟨_, rfl, WkBlk.refl _⟩), (by exact Or.inl ⟨_, rfl, WkBlk.refl _⟩), trivial⟩ trivial trivial rfl rfl ⟨⟨_, rfl⟩, ⟨_, rfl⟩, trivial, trivial, trivial⟩ ⟨(by refine And.intro ?_ ?_; exact trivial; refine And.intro ?_ ?_; exact trivial; exact trivial), (by refine And.intro ?_ ?_; exact trivial; refine And.intro ?_ ?_; exact trivial; exact trivial), trivial⟩), i + 1, _, by omega, rfl, fun _ => hlen, by rw [hinv, hs]; rfl, rfl, rfl⟩
theorem okk_eq (a : Ty) : a.okk = ((decide (a.k ≥ 0) && decide (a.k ≤ 2) && (((tyRows a.l).length : Nat) : Int) == 0) || (a.k == 3 && (((tyRows a.l).length : Nat) : Int) == 2)) := by
  rw [tyRows_length]
  have e1 : (((a.l.length : Nat) : Int) == 0) = (a.l.length == 0) := by rw [Bool.eq_iff_iff]; simp
  have e2 : (((a.l.length : Nat) : Int) == 2) = (a.l.length == 2) := by rw [Bool.eq_iff_iff]; simp; omega
  rw [e1, e2]
  rfl
set_option maxHeartbeats 4000000 in
theorem isRight_a : ∀ a : Ty, ACalls Tryz.prog 109 [a.u] [] (.one (.bool a.right)) [] := by
  intro a
  induction a using Ty.ind' with
  | h a ih =>
  have hL := tyRows_length a.l
  refine acalls_of_body Tryz.func109 rfl (by kernel_rfl) (Nat.le_of_ble_eq_true rfl) trivial (by simp [namesL]) ?_
  refine AW.seq ?_
  refine AW.region (by kernel_rfl) ?_
  refine RunL.mem (by exact rfl) (loc_boxD rfl rfl rfl) ?_; refine RunL.val (by exact rfl) (loc_assignC rfl) ?_; refine RunL.nil ?_
  refine AW.seq ?_
  refine AW.midC (fun t h => t = tOfL [(1, .one (.ptr 1 0)), (3, .one (.bool (((decide (a.k ≥ 0) && decide (a.k ≤ 2) && (((tyRows a.l).length : Nat) : Int) == 0) || (a.k == 3 && (((tyRows a.l).length : Nat) : Int) == 2)))))] ∧ h = ofL [(1, .obj a.c)]) ?_ ?_
  · cases h0 : decide (a.k ≥ 0) with
    | false =>
      cases h3 : (a.k == 3) with
      | false =>
        refine AW.region (by kernel_rfl) ?_; refine RunL.val (by exact rfl) (loc_fieldAddr rfl) ?_; refine RunL.val (by exact rfl) (loc_load rfl rfl rfl) ?_; refine RunL.val (by exact rfl) (loc_binInt rfl rfl rfl) ?_; refine RunL.val (by exact rfl) (loc_moveC rfl) ?_; refine RunL.skip (.inl ⟨_, _, rfl, rfl, guard_eq false (by assumption) rfl⟩) ?_; refine RunL.skip (.inl ⟨_, _, rfl, rfl, guard_eq false (by assumption) rfl⟩) ?_; refine RunL.skip (.inl ⟨_, _, rfl, rfl, guard_eq false (by assumption) rfl⟩) ?_; refine RunL.val (by exact rfl) (loc_pickI false (by assumption) rfl rfl) ?_; refine RunL.val (by exact rfl) (loc_moveC rfl) ?_; refine RunL.skip (.inl ⟨_, _, rfl, rfl, rfl⟩) ?_; refine RunL.skip (.inl ⟨_, _, rfl, rfl, rfl⟩) ?_; refine RunL.skip (.inl ⟨_, _, rfl, rfl, rfl⟩) ?_; refine RunL.skip (.inl ⟨_, _, rfl, rfl, rfl⟩) ?_; refine RunL.val (by exact rfl) (loc_pickF rfl rfl) ?_; refine RunL.val (by exact rfl) (loc_moveC rfl) ?_; refine RunL.val (by exact .inl ⟨_, _, rfl, rfl, rfl⟩) (loc_fieldAddr rfl) ?_; refine RunL.val (by exact .inl ⟨_, _, rfl, rfl, rfl⟩) (loc_load rfl rfl rfl) ?_; refine RunL.val (by exact .inl ⟨_, _, rfl, rfl, rfl⟩) (loc_binInt rfl rfl rfl) ?_; refine RunL.val (by exact .inl ⟨_, _, rfl, rfl, rfl⟩) (loc_moveC rfl) ?_; refine RunL.skip (.inl ⟨_, _, rfl, rfl, guard_eq false (by assumption) rfl⟩) ?_; refine RunL.skip (.inl ⟨_, _, rfl, rfl, guard_eq false (by assumption) rfl⟩) ?_; refine RunL.skip (.inl ⟨_, _, rfl, rfl, guard_eq false (by assumption) rfl⟩) ?_; refine RunL.skip (.inl ⟨_, _, rfl, rfl, guard_eq false (by assumption) rfl⟩) ?_; refine RunL.val (by exact .inl ⟨_, _, rfl, rfl, rfl⟩) (loc_pickI false (by assumption) rfl rfl) ?_; refine RunL.val (by exact rfl) (loc_pickF rfl rfl) ?_; refine RunL.val (by exact rfl) (loc_assignC rfl) ?_; refine RunL.nil ?_
        exact ⟨_, _, (gh_lit [(1, .one (.ptr 1 0)), (3, .one (.bool (false)))] [(1, .obj a.c)] [] [] ⟨(WkU.of_eq rfl trivial), (WkU.of_eq rfl trivial), trivial⟩ ⟨(by exact Or.inl ⟨_, rfl, WkBlk.refl _⟩), trivial⟩ trivial trivial rfl rfl ⟨⟨_, rfl⟩, trivial, trivial⟩ ⟨(by refine And.intro ?_ ?_; exact trivial; refine And.intro ?_ ?_; exact trivial; exact trivial), trivial⟩), by simp, rfl⟩
      | true =>
        refine AW.region (by kernel_rfl) ?_; refine RunL.val (by exact rfl) (loc_fieldAddr rfl) ?_; refine RunL.val (by exact rfl) (loc_load rfl rfl rfl) ?_; refine RunL.val (by exact rfl) (loc_binInt rfl rfl rfl) ?_; refine RunL.val (by exact rfl) (loc_moveC rfl) ?_; refine RunL.skip (.inl ⟨_, _, rfl, rfl, guard_eq false (by assumption) rfl⟩) ?_; refine RunL.skip (.inl ⟨_, _, rfl, rfl, guard_eq false (by assumption) rfl⟩) ?_; refine RunL.skip (.inl ⟨_, _, rfl, rfl, guard_eq false (by assumption) rfl⟩) ?_; refine RunL.val (by exact rfl) (loc_pickI false (by assumption) rfl rfl) ?_; refine RunL.val (by exact rfl) (loc_moveC rfl) ?_; refine RunL.skip (.inl ⟨_, _, rfl, rfl, rfl⟩) ?_; refine RunL.skip (.inl ⟨_, _, rfl, rfl, rfl⟩) ?_; refine RunL.skip (.inl ⟨_, _, rfl, rfl, rfl⟩) ?_; refine RunL.skip (.inl ⟨_, _, rfl, rfl, rfl⟩) ?_; refine RunL.val (by exact rfl) (loc_pickF rfl rfl) ?_; refine RunL.val (by exact rfl) (loc_moveC rfl) ?_; refine RunL.val (by exact .inl ⟨_, _, rfl, rfl, rfl⟩) (loc_fieldAddr rfl) ?_; refine RunL.val (by exact .inl ⟨_, _, rfl, rfl, rfl⟩) (loc_load rfl rfl rfl) ?_; refine RunL.val (by exact .inl ⟨_, _, rfl, rfl, rfl⟩) (loc_binInt rfl rfl rfl) ?_; refine RunL.val (by exact .inl ⟨_, _, rfl, rfl, rfl⟩) (loc_moveC rfl) ?_; refine RunL.val (by exact .inl ⟨_, _, rfl, rfl, guard_eq true (by assumption) rfl⟩) (loc_fieldAddr rfl) ?_; refine RunL.val (by exact .inl ⟨_, _, rfl, rfl, guard_eq true (by assumption) rfl⟩) (loc_load rfl rfl rfl) ?_; refine RunL.val (by exact .inl ⟨_, _, rfl, rfl, guard_eq true (by assumption) rfl⟩) (loc_lenSl rfl) ?_; refine RunL.val (by exact .inl ⟨_, _, rfl, rfl, guard_eq true (by assumption) rfl⟩) (loc_binInt rfl rfl rfl) ?_; refine RunL.val (by exact .inl ⟨_, _, rfl, rfl, rfl⟩) (loc_pickI true (by assumption) rfl rfl) ?_; refine RunL.val (by exact rfl) (loc_pickF rfl rfl) ?_; refine RunL.val (by exact rfl) (loc_assignC rfl) ?_; refine RunL.nil ?_
        exact ⟨_, _, (gh_lit [(1, .one (.ptr 1 0)), (3, .one (.bool ((((tyRows a.l).length : Nat) : Int) == 2)))] [(1, .obj a.c)] [] [] ⟨(WkU.of_eq rfl trivial), (WkU.of_eq rfl trivial), trivial⟩ ⟨(by exact Or.inl ⟨_, rfl, WkBlk.refl _⟩), trivial⟩ trivial trivial rfl rfl ⟨⟨_, rfl⟩, trivial, trivial⟩ ⟨(by refine And.intro ?_ ?_; exact trivial; refine And.intro ?_ ?_; exact trivial; exact trivial), trivial⟩), by simp, rfl⟩
    | true =>
    cases h2 : decide (a.k ≤ 2) with
    | false =>
      cases h3 : (a.k == 3) with
      | false =>
        refine AW.region (by kernel_rfl) ?_; refine RunL.val (by exact rfl) (loc_fieldAddr rfl) ?_; refine RunL.val (by exact rfl) (loc_load rfl rfl rfl) ?_; refine RunL.val (by exact rfl) (loc_binInt rfl rfl rfl) ?_; refine RunL.val (by exact rfl) (loc_moveC rfl) ?_; refine RunL.val (by exact .inl ⟨_, _, rfl, rfl, guard_eq true (by assumption) rfl⟩) (loc_fieldAddr rfl) ?_; refine RunL.val (by exact .inl ⟨_, _, rfl, rfl, guard_eq true (by assumption) rfl⟩) (loc_load rfl rfl rfl) ?_; refine RunL.val (by exact .inl ⟨_, _, rfl, rfl, guard_eq true (by assumption) rfl⟩) (loc_binInt rfl rfl rfl) ?_; refine RunL.val (by exact rfl) (loc_pickI true (by assumption) rfl rfl) ?_; refine RunL.val (by exact rfl) (loc_moveC rfl) ?_; refine RunL.skip (.inl ⟨_, _, rfl, rfl, guard_eq false (by assumption) rfl⟩) ?_; refine RunL.skip (.inl ⟨_, _, rfl, rfl, guard_eq false (by assumption) rfl⟩) ?_; refine RunL.skip (.inl ⟨_, _, rfl, rfl, guard_eq false (by assumption) rfl⟩) ?_; refine RunL.skip (.inl ⟨_, _, rfl, rfl, guard_eq false (by assumption) rfl⟩) ?_; refine RunL.val (by exact rfl) (loc_pickI false (by assumption) rfl rfl) ?_; refine RunL.val (by exact rfl) (loc_moveC rfl) ?_; refine RunL.val (by exact .inl ⟨_, _, rfl, rfl, rfl⟩) (loc_fieldAddr rfl) ?_; refine RunL.val (by exact .inl ⟨_, _, rfl, rfl, rfl⟩) (loc_load rfl rfl rfl) ?_; refine RunL.val (by exact .inl ⟨_, _, rfl, rfl, rfl⟩) (loc_binInt rfl rfl rfl) ?_; refine RunL.val (by exact .inl ⟨_, _, rfl, rfl, rfl⟩) (loc_moveC rfl) ?_; refine RunL.skip (.inl ⟨_, _, rfl, rfl, guard_eq false (by assumption) rfl⟩) ?_; refine RunL.skip (.inl ⟨_, _, rfl, rfl, guard_eq false (by assumption) rfl⟩) ?_; refine RunL.skip (.inl ⟨_, _, rfl, rfl, guard_eq false (by assumption) rfl⟩) ?_; refine RunL.skip (.inl ⟨_, _, rfl, rfl, guard_eq false (by assumption) rfl⟩) ?_; refine RunL.val (by exact .inl ⟨_, _, rfl, rfl, rfl⟩) (loc_pickI false (by assumption) rfl rfl) ?_; refine RunL.val (by exact rfl) (loc_pickF rfl rfl) ?_; refine RunL.val (by exact rfl) (loc_assignC rfl) ?_; refine RunL.nil ?_
        exact ⟨_, _, (gh_lit [(1, .one (.ptr 1 0)), (3, .one (.bool (false)))] [(1, .obj a.c)] [] [] ⟨(WkU.of_eq rfl trivial), (WkU.of_eq rfl trivial), trivial⟩ ⟨(by exact Or.inl ⟨_, rfl, WkBlk.refl _⟩), trivial⟩ trivial trivial rfl rfl ⟨⟨_, rfl⟩, trivial, trivial⟩ ⟨(by refine And.intro ?_ ?_; exact trivial; refine And.intro ?_ ?_; exact trivial; exact trivial), trivial⟩), by simp, rfl⟩
      | true =>
        refine AW.region (by kernel_rfl) ?_; refine RunL.val (by exact rfl) (loc_fieldAddr rfl) ?_; refine RunL.val (by exact rfl) (loc_load rfl rfl rfl) ?_; refine RunL.val (by exact rfl) (loc_binInt rfl rfl rfl) ?_; refine RunL.val (by exact rfl) (loc_moveC rfl) ?_; refine RunL.val (by exact .inl ⟨_, _, rfl, rfl, guard_eq true (by assumption) rfl⟩) (loc_fieldAddr rfl) ?_; refine RunL.val (by exact .inl ⟨_, _, rfl, rfl, guard_eq true (by assumption) rfl⟩) (loc_load rfl rfl rfl) ?_; refine RunL.val (by exact .inl ⟨_, _, rfl, rfl, guard_eq true (by assumption) rfl⟩) (loc_binInt rfl rfl rfl) ?_; refine RunL.val (by exact rfl) (loc_pickI true (by assumption) rfl rfl) ?_; refine RunL.val (by exact rfl) (loc_moveC rfl) ?_; refine RunL.skip (.inl ⟨_, _, rfl, rfl, guard_eq false (by assumption) rfl⟩) ?_; refine RunL.skip (.inl ⟨_, _, rfl, rfl, guard_eq false (by assumption) rfl⟩) ?_; refine RunL.skip (.inl ⟨_, _, rfl, rfl, guard_eq false (by assumption) rfl⟩) ?_; refine RunL.skip (.inl ⟨_, _, rfl, rfl, guard_eq false (by assumption) rfl⟩) ?_; refine RunL.val (by exact rfl) (loc_pickI false (by assumption) rfl rfl) ?_; refine RunL.val (by exact rfl) (loc_moveC rfl) ?_; refine RunL.val (by exact .inl ⟨_, _, rfl, rfl, rfl⟩) (loc_fieldAddr rfl) ?_; refine RunL.val (by exact .inl ⟨_, _, rfl, rfl, rfl⟩) (loc_load rfl rfl rfl) ?_; refine RunL.val (by exact .inl ⟨_, _, rfl, rfl, rfl⟩) (loc_binInt rfl rfl rfl) ?_; refine RunL.val (by exact .inl ⟨_, _, rfl, rfl, rfl⟩) (loc_moveC rfl) ?_; refine RunL.val (by exact .inl ⟨_, _, rfl, rfl, guard_eq true (by assumption) rfl⟩) (loc_fieldAddr rfl) ?_; refine RunL.val (by exact .inl ⟨_, _, rfl, rfl, guard_eq true (by assumption) rfl⟩) (loc_load rfl rfl rfl) ?_; refine RunL.val (by exact .inl ⟨_, _, rfl, rfl, guard_eq true (by assumption) rfl⟩) (loc_lenSl rfl) ?_; refine RunL.val (by exact .inl ⟨_, _, rfl, rfl, guard_eq true (by assumption) rfl⟩) (loc_binInt rfl rfl rfl) ?_; refine RunL.val (by exact .inl ⟨_, _, rfl, rfl, rfl⟩) (loc_pickI true (by assumption) rfl rfl) ?_; refine RunL.val (by exact rfl) (loc_pickF rfl rfl) ?_; refine RunL.val (by exact rfl) (loc_assignC rfl) ?_; refine RunL.nil ?_
        exact ⟨_, _, (gh_lit [(1, .one (.ptr 1 0)), (3, .one (.bool ((((tyRows a.l).length : Nat) : Int) == 2)))] [(1, .obj a.c)] [] [] ⟨(WkU.of_eq rfl trivial), (WkU.of_eq rfl trivial), trivial⟩ ⟨(by exact Or.inl ⟨_, rfl, WkBlk.refl _⟩), trivial⟩ trivial trivial rfl rfl ⟨⟨_, rfl⟩, trivial, trivial⟩ ⟨(by refine And.intro ?_ ?_; exact trivial; refine And.intro ?_ ?_; exact trivial; exact trivial), trivial⟩), by simp, rfl⟩
    | true =>
    cases e0 : ((((tyRows a.l).length : Nat) : Int) == 0) with
    | false =>
      cases h3 : (a.k == 3) with
      | false =>
        refine AW.region (by kernel_rfl) ?_; refine RunL.val (by exact rfl) (loc_fieldAddr rfl) ?_; refine RunL.val (by exact rfl) (loc_load rfl rfl rfl) ?_; refine RunL.val (by exact rfl) (loc_binInt rfl rfl rfl) ?_; refine RunL.val (by exact rfl) (loc_moveC rfl) ?_; refine RunL.val (by exact .inl ⟨_, _, rfl, rfl, guard_eq true (by assumption) rfl⟩) (loc_fieldAddr rfl) ?_; refine RunL.val (by exact .inl ⟨_, _, rfl, rfl, guard_eq true (by assumption) rfl⟩) (loc_load rfl rfl rfl) ?_; refine RunL.val (by exact .inl ⟨_, _, rfl, rfl, guard_eq true (by assumption) rfl⟩) (loc_binInt rfl rfl rfl) ?_; refine RunL.val (by exact rfl) (loc_pickI true (by assumption) rfl rfl) ?_; refine RunL.val (by exact rfl) (loc_moveC rfl) ?_; refine RunL.val (by exact .inl ⟨_, _, rfl, rfl, guard_eq true (by assumption) rfl⟩) (loc_fieldAddr rfl) ?_; refine RunL.val (by exact .inl ⟨_, _, rfl, rfl, guard_eq true (by assumption) rfl⟩) (loc_load rfl rfl rfl) ?_; refine RunL.val (by exact .inl ⟨_, _, rfl, rfl, guard_eq true (by assumption) rfl⟩) (loc_lenSl rfl) ?_; refine RunL.val (by exact .inl ⟨_, _, rfl, rfl, guard_eq true (by assumption) rfl⟩) (loc_binInt rfl rfl rfl) ?_; refine RunL.val (by exact rfl) (loc_pickI true (by assumption) rfl rfl) ?_; refine RunL.val (by exact rfl) (loc_moveC rfl) ?_; refine RunL.val (by exact .inl ⟨_, _, rfl, rfl, guard_eq false (by assumption) rfl⟩) (loc_fieldAddr rfl) ?_; refine RunL.val (by exact .inl ⟨_, _, rfl, rfl, guard_eq false (by assumption) rfl⟩) (loc_load rfl rfl rfl) ?_; refine RunL.val (by exact .inl ⟨_, _, rfl, rfl, guard_eq false (by assumption) rfl⟩) (loc_binInt rfl rfl rfl) ?_; refine RunL.val (by exact .inl ⟨_, _, rfl, rfl, guard_eq false (by assumption) rfl⟩) (loc_moveC rfl) ?_; refine RunL.skip (.inl ⟨_, _, rfl, rfl, guard_eq false (by assumption) rfl⟩) ?_; refine RunL.skip (.inl ⟨_, _, rfl, rfl, guard_eq false (by assumption) rfl⟩) ?_; refine RunL.skip (.inl ⟨_, _, rfl, rfl, guard_eq false (by assumption) rfl⟩) ?_; refine RunL.skip (.inl ⟨_, _, rfl, rfl, guard_eq false (by assumption) rfl⟩) ?_; refine RunL.val (by exact .inl ⟨_, _, rfl, rfl, guard_eq false (by assumption) rfl⟩) (loc_pickI false (by assumption) rfl rfl) ?_; refine RunL.val (by exact rfl) (loc_pickI false (by assumption) rfl rfl) ?_; refine RunL.val (by exact rfl) (loc_assignC rfl) ?_; refine RunL.nil ?_
        exact ⟨_, _, (gh_lit [(1, .one (.ptr 1 0)), (3, .one (.bool (false)))] [(1, .obj a.c)] [] [] ⟨(WkU.of_eq rfl trivial), (WkU.of_eq rfl trivial), trivial⟩ ⟨(by exact Or.inl ⟨_, rfl, WkBlk.refl _⟩), trivial⟩ trivial trivial rfl rfl ⟨⟨_, rfl⟩, trivial, trivial⟩ ⟨(by refine And.intro ?_ ?_; exact trivial; refine And.intro ?_ ?_; exact trivial; exact trivial), trivial⟩), by simp, rfl⟩
      | true =>
        refine AW.region (by kernel_rfl) ?_; refine RunL.val (by exact rfl) (loc_fieldAddr rfl) ?_; refine RunL.val (by exact rfl) (loc_load rfl rfl rfl) ?_; refine RunL.val (by exact rfl) (loc_binInt rfl rfl rfl) ?_; refine RunL.val (by exact rfl) (loc_moveC rfl) ?_; refine RunL.val (by exact .inl ⟨_, _, rfl, rfl, guard_eq true (by assumption) rfl⟩) (loc_fieldAddr rfl) ?_; refine RunL.val (by exact .inl ⟨_, _, rfl, rfl, guard_eq true (by assumption) rfl⟩) (loc_load rfl rfl rfl) ?_; refine RunL.val (by exact .inl ⟨_, _, rfl, rfl, guard_eq true (by assumption) rfl⟩) (loc_binInt rfl rfl rfl) ?_; refine RunL.val (by exact rfl) (loc_pickI true (by assumption) rfl rfl) ?_; refine RunL.val (by exact rfl) (loc_moveC rfl) ?_; refine RunL.val (by exact .inl ⟨_, _, rfl, rfl, guard_eq true (by assumption) rfl⟩) (loc_fieldAddr rfl) ?_; refine RunL.val (by exact .inl ⟨_, _, rfl, rfl, guard_eq true (by assumption) rfl⟩) (loc_load rfl rfl rfl) ?_; refine RunL.val (by exact .inl ⟨_, _, rfl, rfl, guard_eq true (by assumption) rfl⟩) (loc_lenSl rfl) ?_; refine RunL.val (by exact .inl ⟨_, _, rfl, rfl, guard_eq true (by assumption) rfl⟩) (loc_binInt rfl rfl rfl) ?_; refine RunL.val (by exact rfl) (loc_pickI true (by assumption) rfl rfl) ?_; refine RunL.val (by exact rfl) (loc_moveC rfl) ?_; refine RunL.val (by exact .inl ⟨_, _, rfl, rfl, guard_eq false (by assumption) rfl⟩) (loc_fieldAddr rfl) ?_; refine RunL.val (by exact .inl ⟨_, _, rfl, rfl, guard_eq false (by assumption) rfl⟩) (loc_load rfl rfl rfl) ?_; refine RunL.val (by exact .inl ⟨_, _, rfl, rfl, guard_eq false (by assumption) rfl⟩) (loc_binInt rfl rfl rfl) ?_; refine RunL.val (by exact .inl ⟨_, _, rfl, rfl, guard_eq false (by assumption) rfl⟩) (loc_moveC rfl) ?_; refine RunL.val (by exact .inl ⟨_, _, rfl, rfl, guard_eq true (by assumption) rfl⟩) (loc_fieldAddr rfl) ?_; refine RunL.val (by exact .inl ⟨_, _, rfl, rfl, guard_eq true (by assumption) rfl⟩) (loc_load rfl rfl rfl) ?_; refine RunL.val (by exact .inl ⟨_, _, rfl, rfl, guard_eq true (by assumption) rfl⟩) (loc_lenSl rfl) ?_; refine RunL.val (by exact .inl ⟨_, _, rfl, rfl, guard_eq true (by assumption) rfl⟩) (loc_binInt rfl rfl rfl) ?_; refine RunL.val (by exact .inl ⟨_, _, rfl, rfl, guard_eq false (by assumption) rfl⟩) (loc_pickI true (by assumption) rfl rfl) ?_; refine RunL.val (by exact rfl) (loc_pickI false (by assumption) rfl rfl) ?_; refine RunL.val (by exact rfl) (loc_assignC rfl) ?_; refine RunL.nil ?_
        exact ⟨_, _, (gh_lit [(1, .one (.ptr 1 0)), (3, .one (.bool ((((tyRows a.l).length : Nat) : Int) == 2)))] [(1, .obj a.c)] [] [] ⟨(WkU.of_eq rfl trivial), (WkU.of_eq rfl trivial), trivial⟩ ⟨(by exact Or.inl ⟨_, rfl, WkBlk.refl _⟩), trivial⟩ trivial trivial rfl rfl ⟨⟨_, rfl⟩, trivial, trivial⟩ ⟨(by refine And.intro ?_ ?_; exact trivial; refine And.intro ?_ ?_; exact trivial; exact trivial), trivial⟩), by simp, rfl⟩
    | true =>
      refine AW.region (by kernel_rfl) ?_; refine RunL.val (by exact rfl) (loc_fieldAddr rfl) ?_; refine RunL.val (by exact rfl) (loc_load rfl rfl rfl) ?_; refine RunL.val (by exact rfl) (loc_binInt rfl rfl rfl) ?_; refine RunL.val (by exact rfl) (loc_moveC rfl) ?_; refine RunL.val (by exact .inl ⟨_, _, rfl, rfl, guard_eq true (by assumption) rfl⟩) (loc_fieldAddr rfl) ?_; refine RunL.val (by exact .inl ⟨_, _, rfl, rfl, guard_eq true (by assumption) rfl⟩) (loc_load rfl rfl rfl) ?_; refine RunL.val (by exact .inl ⟨_, _, rfl, rfl, guard_eq true (by assumption) rfl⟩) (loc_binInt rfl rfl rfl) ?_; refine RunL.val (by exact rfl) (loc_pickI true (by assumption) rfl rfl) ?_; refine RunL.val (by exact rfl) (loc_moveC rfl) ?_; refine RunL.val (by exact .inl ⟨_, _, rfl, rfl, guard_eq true (by assumption) rfl⟩) (loc_fieldAddr rfl) ?_; refine RunL.val (by exact .inl ⟨_, _, rfl, rfl, guard_eq true (by assumption) rfl⟩) (loc_load rfl rfl rfl) ?_; refine RunL.val (by exact .inl ⟨_, _, rfl, rfl, guard_eq true (by assumption) rfl⟩) (loc_lenSl rfl) ?_; refine RunL.val (by exact .inl ⟨_, _, rfl, rfl, guard_eq true (by assumption) rfl⟩) (loc_binInt rfl rfl rfl) ?_; refine RunL.val (by exact rfl) (loc_pickI true (by assumption) rfl rfl) ?_; refine RunL.val (by exact rfl) (loc_moveC rfl) ?_; refine RunL.skip (.inl ⟨_, _, rfl, rfl, guard_eq true (by assumption) rfl⟩) ?_; refine RunL.skip (.inl ⟨_, _, rfl, rfl, guard_eq true (by assumption) rfl⟩) ?_; refine RunL.skip (.inl ⟨_, _, rfl, rfl, guard_eq true (by assumption) rfl⟩) ?_; refine RunL.skip (.inl ⟨_, _, rfl, rfl, guard_eq true (by assumption) rfl⟩) ?_; refine RunL.skip (.inr ⟨rfl, _, rfl, rfl⟩) ?_; refine RunL.skip (.inr ⟨rfl, _, rfl, rfl⟩) ?_; refine RunL.skip (.inr ⟨rfl, _, rfl, rfl⟩) ?_; refine RunL.skip (.inr ⟨rfl, _, rfl, rfl⟩) ?_; refine RunL.skip (.inl ⟨_, _, rfl, rfl, guard_eq true (by assumption) rfl⟩) ?_; refine RunL.val (by exact rfl) (loc_pickI true (by assumption) rfl rfl) ?_; refine RunL.val (by exact rfl) (loc_assignC rfl) ?_; refine RunL.nil ?_
      exact ⟨_, _, (gh_lit [(1, .one (.ptr 1 0)), (3, .one (.bool (true)))] [(1, .obj a.c)] [] [] ⟨(WkU.of_eq rfl trivial), (WkU.of_eq rfl trivial), trivial⟩ ⟨(by exact Or.inl ⟨_, rfl, WkBlk.refl _⟩), trivial⟩ trivial trivial rfl rfl ⟨⟨_, rfl⟩, trivial, trivial⟩ ⟨(by refine And.intro ?_ ?_; exact trivial; refine And.intro ?_ ?_; exact trivial; exact trivial), trivial⟩), by simp, rfl⟩
  · rintro t h ⟨rfl, rfl⟩
    have h0 : a.right = (a.okk && rightL (a.l.drop 0)) := right_eta a
    rw [← okk_eq]
    generalize a.okk = ok0 at *
    refine AW.seq ?_; refine AW.seq ?_; refine AW.region (by kernel_rfl) ?_; refine RunL.val (by exact rfl) (loc_fieldAddr rfl) ?_; refine RunL.val (by exact rfl) (loc_load rfl rfl rfl) ?_; refine RunL.val (by exact rfl) (loc_lenSl rfl) ?_; refine RunL.val (by exact rfl) (loc_moveC rfl) ?_; refine RunL.nil ?_; refine AW.block ?_
    refine AW.gh (gh_lit [(1, .one (.ptr 1 0)), (3, .one (.bool (ok0))), (32, .one (slOf 2 (tyRows a.l))), (33, .one (.int .i64 ((tyRows a.l).length : Nat))), (34, .one (.int .i64 ((0 : Nat) : Int)))] [(1, .obj a.c)] [] [] ⟨(WkU.of_eq rfl trivial), (WkU.of_eq rfl trivial), (by exact WkU.of_eq rfl trivial), (WkU.of_eq rfl trivial), (WkU.of_eq rfl trivial), trivial⟩ ⟨(by exact Or.inl ⟨_, rfl, WkBlk.refl _⟩), trivial⟩ trivial trivial rfl rfl ⟨⟨_, rfl⟩, trivial, trivial, trivial, trivial, trivial⟩ ⟨(by refine And.intro ?_ ?_; exact trivial; refine And.intro ?_ ?_; exact trivial; exact trivial), trivial⟩) ?_
    refine AW.lenSl 32 rfl fun hmax => ?_
    refine AW.loop (fun m t h => ∃ i : Nat, ∃ ok : Bool, i ≤ a.l.length ∧ m = a.l.length - i ∧ a.right = (ok && rightL (a.l.drop i)) ∧ t = tOfL [(1, .one (.ptr 1 0)), (3, .one (.bool (ok))), (32, .one (slOf 2 (tyRows a.l))), (33, .one (.int .i64 ((tyRows a.l).length : Nat))), (34, .one (.int .i64 ((i : Nat) : Int)))] ∧ h = ofL [(1, .obj a.c)]) a.l.length ⟨0, ok0, Nat.zero_le _, rfl, h0, rfl, rfl⟩ ?_
    rintro m t h ⟨i, ok, hi, rfl, hinv, rfl, rfl⟩
    clear h0
    cases hlt : decide ((i : Int) < ((tyRows a.l).length : Nat)) with
    | false =>
      have hil : i = a.l.length := by simp at hlt; omega
      refine AW.seq ?_; refine AW.region (by kernel_rfl) ?_; refine RunL.val (by exact rfl) (loc_binInt rfl rfl rfl) ?_; refine RunL.nil ?_; refine AW.seq ?_; refine AW.condFa (by exact rfl) (by assumption) ?_; refine AW.exit ?_; refine AW.seq ?_; refine AW.region (by kernel_rfl) ?_; refine RunL.val (by exact rfl) (loc_moveC rfl) ?_; refine RunL.val (by exact rfl) (loc_assignC rfl) ?_; refine RunL.nil ?_; refine AW.ret ?_
      rw [hinv, hil, List.drop_length, show rightL [] = true from rfl, Bool.and_true]
      exact ret_same (.inr rfl) rfl trivial
    | true =>
      have hil : i < a.l.length := by simp at hlt; omega
      have hr1 := tyRows_get hil
      have hs := rightL_drop hil
      cases ok with
      | false =>
        refine AW.seq ?_; refine AW.region (by kernel_rfl) ?_; refine RunL.val (by exact rfl) (loc_binInt rfl rfl rfl) ?_; refine RunL.nil ?_; refine AW.seq ?_; refine AW.condTa (by exact rfl) (by assumption) ?_; refine AW.skip ?_; refine AW.seq ?_; refine AW.block ?_; refine AW.seq ?_; refine AW.region (by kernel_rfl) ?_; refine RunL.val (by exact rfl) (loc_indexSl _ rfl rfl rfl (by assumption) rfl) ?_; refine RunL.val (by exact rfl) (loc_loadFA rfl (by exact Cut.all (by exact rfl))) ?_; refine RunL.mem (by exact rfl) (loc_allocD rfl rfl) ?_; refine RunL.eff (by exact rfl) (loc_storeW rfl rfl rfl rfl (by exact rfl) (by exact rfl)) ?_; refine RunL.nil ?_; refine AW.region (by kernel_rfl) ?_; refine RunL.val (by exact rfl) (loc_moveC rfl) ?_; refine RunL.val (by exact rfl) (loc_moveC rfl) ?_; refine RunL.skip (.inl ⟨_, _, rfl, rfl, rfl⟩) ?_; refine RunL.skip (.inl ⟨_, _, rfl, rfl, rfl⟩) ?_; refine RunL.val (by exact rfl) (loc_pickF rfl rfl) ?_; refine RunL.val (by exact rfl) (loc_assignC rfl) ?_; refine RunL.nil ?_; refine AW.region (by kernel_rfl) ?_; refine RunL.val (by exact rfl) (loc_inc rfl rfl (by omega)) ?_; refine RunL.val (by exact rfl) (loc_moveC rfl) ?_; refine RunL.nil ?_
        exact ⟨a.l.length - (i + 1), _, _, by omega, (gh_lit [(1, .one (.ptr 1 0)), (3, .one (.bool (false))), (32, .one (slOf 2 (tyRows a.l))), (33, .one (.int .i64 ((tyRows a.l).length : Nat))), (34, .one (.int .i64 (((i + 1) : Nat) : Int)))] [(1, .obj a.c)] [] [] ⟨(WkU.of_eq rfl trivial), (WkU.of_eq rfl trivial), (by exact WkU.of_eq rfl trivial), (WkU.of_eq rfl trivial), (WkU.of_eq rfl trivial), trivial⟩ ⟨(by exact Or.inl ⟨_, rfl, WkBlk.refl _⟩), trivial⟩ trivial trivial rfl rfl ⟨⟨_, rfl⟩, trivial, trivial, trivial, trivial, trivial⟩ ⟨(by refine And.intro ?_ ?_; exact trivial; refine And.intro ?_ ?_; exact trivial; exact trivial), trivial⟩), i + 1, _, by omega, rfl, by rw [hinv]; rfl, rfl, rfl⟩
      | true =>
        refine AW.seq ?_; refine AW.region (by kernel_rfl) ?_; refine RunL.val (by exact rfl) (loc_binInt rfl rfl rfl) ?_; refine RunL.nil ?_; refine AW.seq ?_; refine AW.condTa (by exact rfl) (by assumption) ?_; refine AW.skip ?_; refine AW.seq ?_; refine AW.block ?_; refine AW.seq ?_; refine AW.region (by kernel_rfl) ?_; refine RunL.val (by exact rfl) (loc_indexSl _ rfl rfl rfl (by assumption) rfl) ?_; refine RunL.val (by exact rfl) (loc_loadFA rfl (by exact Cut.all (by exact rfl))) ?_; refine RunL.mem (by exact rfl) (loc_allocD rfl rfl) ?_; refine RunL.eff (by exact rfl) (loc_storeW rfl rfl rfl rfl (by exact rfl) (by exact rfl)) ?_; refine RunL.nil ?_; refine AW.region (by kernel_rfl) ?_; refine RunL.val (by exact rfl) (loc_moveC rfl) ?_; refine RunL.val (by exact rfl) (loc_moveC rfl) ?_; refine RunL.val (by exact .inl ⟨_, _, rfl, rfl, rfl⟩) (loc_loadA rfl rfl (by exact Cut.all (by exact rfl))) ?_
        refine RunL.val (by exact .inl ⟨_, _, rfl, rfl, rfl⟩) (loc_fun (ih a.l[i] (List.getElem_mem _)) rfl (by refine ⟨_, _, rfl, (by exact LeU.of_eq rfl trivial), (by (refine And.intro ?_ ?_; exact trivial; refine And.intro ?_ ?_; exact trivial; exact trivial; done)), ?_⟩; exact rfl)) ?_
        refine RunL.val (by exact rfl) (loc_pickT rfl rfl) ?_; refine RunL.val (by exact rfl) (loc_assignC rfl) ?_; refine RunL.nil ?_; refine AW.region (by kernel_rfl) ?_; refine RunL.val (by exact rfl) (loc_inc rfl rfl (by omega)) ?_; refine RunL.val (by exact rfl) (loc_moveC rfl) ?_; refine RunL.nil ?_
        exact ⟨a.l.length - (i + 1), _, _, by omega, (gh_lit [(1, .one (.ptr 1 0)), (3, .one (.bool (a.l[i].right))), (32, .one (slOf 2 (tyRows a.l))), (33, .one (.int .i64 ((tyRows a.l).length : Nat))), (34, .one (.int .i64 (((i + 1) : Nat) : Int)))] [(1, .obj a.c)] [] [] ⟨(WkU.of_eq rfl trivial), (WkU.of_eq rfl trivial), (by exact WkU.of_eq rfl trivial), (WkU.of_eq rfl trivial), (WkU.of_eq rfl trivial), trivial⟩ ⟨(by exact Or.inl ⟨_, rfl, WkBlk.refl _⟩), trivial⟩ trivial trivial rfl rfl ⟨⟨_, rfl⟩, trivial, trivial, trivial, trivial, trivial⟩ ⟨(by refine And.intro ?_ ?_; exact trivial; refine And.intro ?_ ?_; exact trivial; exact trivial), trivial⟩), i + 1, _, by omega, rfl, by rw [hinv, hs]; rfl, rfl, rfl⟩
set_option maxHeartbeats 2000000 in
theorem deepOf_a : ∀ a : Ty, a.deep ≤ 1048576 → ACalls Tryz.prog 110 [a.u] [] (.one (.int .i64 ((a.deep : Nat) : Int))) [] := by
  intro a
  induction a using Ty.ind' with
  | h a ih =>
  intro hd
  have hL := tyRows_length a.l
  have he := deep_eta a
  refine acalls_of_body Tryz.func110 rfl (by kernel_rfl) (Nat.le_of_ble_eq_true rfl) trivial (by simp [namesL]) ?_
  refine AW.seq ?_; refine AW.region (by kernel_rfl) ?_; refine RunL.mem (by exact rfl) (loc_boxD rfl rfl rfl) ?_; refine RunL.val (by exact rfl) (loc_assignC rfl) ?_; refine RunL.nil ?_; refine AW.seq ?_; refine AW.region (by kernel_rfl) ?_; refine RunL.val (by exact rfl) (loc_assignC rfl) ?_; refine RunL.nil ?_; refine AW.seq ?_; refine AW.seq ?_; refine AW.region (by kernel_rfl) ?_; refine RunL.val (by exact rfl) (loc_fieldAddr rfl) ?_; refine RunL.val (by exact rfl) (loc_load rfl rfl rfl) ?_; refine RunL.val (by exact rfl) (loc_lenSl rfl) ?_; refine RunL.val (by exact rfl) (loc_moveC rfl) ?_; refine RunL.nil ?_; refine AW.block ?_
  refine AW.gh (gh_lit [(3, .one (.int .i64 ((deepL (a.l.take (0)) : Nat) : Int))), (7, .one (slOf 2 (tyRows a.l))), (8, .one (.int .i64 ((tyRows a.l).length : Nat))), (9, .one (.int .i64 ((0 : Nat) : Int)))] [] [] [] ⟨(WkU.of_eq rfl trivial), (by exact WkU.of_eq rfl trivial), (WkU.of_eq rfl trivial), (WkU.of_eq rfl trivial), trivial⟩ trivial trivial trivial rfl rfl ⟨trivial, trivial, trivial, trivial, trivial⟩ trivial) ?_
  refine AW.lenSl 7 rfl fun hmax => ?_
  refine AW.loop (fun m t h => ∃ i : Nat, i ≤ a.l.length ∧ m = a.l.length - i ∧ t = tOfL [(3, .one (.int .i64 ((deepL (a.l.take (i)) : Nat) : Int))), (7, .one (slOf 2 (tyRows a.l))), (8, .one (.int .i64 ((tyRows a.l).length : Nat))), (9, .one (.int .i64 ((i : Nat) : Int)))] ∧ h = ofL []) a.l.length ⟨0, Nat.zero_le _, rfl, rfl, rfl⟩ ?_
  rintro m t h ⟨i, hi, rfl, rfl, rfl⟩
  cases hlt : decide ((i : Int) < ((tyRows a.l).length : Nat)) with
  | false =>
    have hil : i = a.l.length := by simp at hlt; omega
    subst hil
    have e1 : deepL (a.l.take a.l.length) + 1 = a.deep := by rw [List.take_length]; omega
    refine AW.seq ?_; refine AW.region (by kernel_rfl) ?_; refine RunL.val (by exact rfl) (loc_binInt rfl rfl rfl) ?_; refine RunL.nil ?_; refine AW.seq ?_; refine AW.condFa (by exact rfl) (by assumption) ?_; refine AW.exit ?_; refine AW.seq ?_; refine AW.region (by kernel_rfl) ?_; refine RunL.val (by exact rfl) (loc_moveC rfl) ?_; refine RunL.val (by exact rfl) (loc_inc rfl rfl (by omega)) ?_; refine RunL.val (by exact rfl) (loc_assignC rfl) ?_; refine RunL.nil ?_; refine AW.ret ?_
    rw [e1]
    exact ret_same (.inr rfl) rfl trivial
  | true =>
    have hil : i < a.l.length := by simp at hlt; omega
    have hr1 := tyRows_get hil
    have hm := deepL_mem (List.getElem_mem hil)
    have hs : max ((deepL (a.l.take i) : Nat) : Int) ((a.l[i].deep : Nat) : Int) = ((deepL (a.l.take (i + 1)) : Nat) : Int) := by rw [deepL_take hil]; omega
    refine AW.seq ?_; refine AW.region (by kernel_rfl) ?_; refine RunL.val (by exact rfl) (loc_binInt rfl rfl rfl) ?_; refine RunL.nil ?_; refine AW.seq ?_; refine AW.condTa (by exact rfl) (by assumption) ?_; refine AW.skip ?_; refine AW.seq ?_; refine AW.block ?_; refine AW.seq ?_; refine AW.region (by kernel_rfl) ?_; refine RunL.val (by exact rfl) (loc_indexSl _ rfl rfl rfl (by assumption) rfl) ?_; refine RunL.val (by exact rfl) (loc_loadFA rfl (by exact Cut.all (by exact rfl))) ?_; refine RunL.mem (by exact rfl) (loc_allocD rfl rfl) ?_; refine RunL.eff (by exact rfl) (loc_storeW rfl rfl rfl rfl (by exact rfl) (by exact rfl)) ?_; refine RunL.nil ?_; refine AW.region (by kernel_rfl) ?_; refine RunL.val (by exact rfl) (loc_moveC rfl) ?_; refine RunL.val (by exact rfl) (loc_loadA rfl rfl (by exact Cut.all (by exact rfl))) ?_
    refine RunL.val (by exact rfl) (loc_fun (ih a.l[i] (List.getElem_mem _) (by omega)) rfl (by refine ⟨_, _, rfl, (by exact LeU.of_eq rfl trivial), (by (refine And.intro ?_ ?_; exact trivial; refine And.intro ?_ ?_; exact trivial; exact trivial; done)), ?_⟩; exact rfl)) ?_
    refine RunL.val (by exact rfl) (loc_max2 (by exact rfl) (by exact rfl)) ?_
    rw [hs]
    refine RunL.val (by exact rfl) (loc_assignC rfl) ?_; refine RunL.nil ?_; refine AW.region (by kernel_rfl) ?_; refine RunL.val (by exact rfl) (loc_inc rfl rfl (by omega)) ?_; refine RunL.val (by exact rfl) (loc_moveC rfl) ?_; refine RunL.nil ?_
    exact ⟨a.l.length - (i + 1), _, _, by omega, (gh_lit [(3, .one (.int .i64 ((deepL (a.l.take ((i + 1))) : Nat) : Int))), (7, .one (slOf 2 (tyRows a.l))), (8, .one (.int .i64 ((tyRows a.l).length : Nat))), (9, .one (.int .i64 (((i + 1) : Nat) : Int)))] [] [] [] ⟨(WkU.of_eq rfl trivial), (by exact WkU.of_eq rfl trivial), (WkU.of_eq rfl trivial), (WkU.of_eq rfl trivial), trivial⟩ trivial trivial trivial rfl rfl ⟨trivial, trivial, trivial, trivial, trivial⟩ trivial), i + 1, by omega, rfl, rfl, rfl⟩
set_option maxHeartbeats 1000000 in
theorem isType_a (a : Ty) (hd : a.deep ≤ 1048576) : ACalls Tryz.prog 77 [a.u] [] (.one (.bool (a.good 4))) [] := by
  have hr := isRight_a a
  rw [good_rd 4 a]
  refine acalls_of_body Tryz.func77 rfl (by kernel_rfl) (Nat.le_of_ble_eq_true rfl) trivial (by simp [namesL]) ?_
  refine AW.seq ?_; refine AW.region (by kernel_rfl) ?_; refine RunL.mem (by exact rfl) (loc_boxD rfl rfl rfl) ?_; refine RunL.val (by exact rfl) (loc_assignC rfl) ?_; refine RunL.nil ?_; refine AW.seq ?_; refine AW.region (by kernel_rfl) ?_; refine RunL.val (by exact rfl) (loc_loadA rfl rfl (by exact Cut.all (by exact rfl))) ?_
  refine RunL.val (by exact rfl) (loc_fun hr rfl (by refine ⟨_, _, rfl, (by exact LeU.of_eq rfl trivial), (by (refine And.intro ?_ ?_; exact trivial; refine And.intro ?_ ?_; exact trivial; exact trivial; done)), ?_⟩; exact rfl)) ?_
  cases h1 : a.right with
  | false =>
    refine RunL.val (by exact rfl) (loc_moveC rfl) ?_; refine RunL.skip (.inl ⟨_, _, rfl, rfl, rfl⟩) ?_; refine RunL.skip (.inl ⟨_, _, rfl, rfl, rfl⟩) ?_; refine RunL.skip (.inl ⟨_, _, rfl, rfl, rfl⟩) ?_; refine RunL.val (by exact rfl) (loc_pickF rfl rfl) ?_; refine RunL.val (by exact rfl) (loc_assignC rfl) ?_; refine RunL.nil ?_; refine AW.ret ?_
    exact ret_same (.inr rfl) rfl trivial
  | true =>
    refine RunL.val (by exact rfl) (loc_moveC rfl) ?_; refine RunL.val (by exact .inl ⟨_, _, rfl, rfl, rfl⟩) (loc_loadA rfl rfl (by exact Cut.all (by exact rfl))) ?_
    refine RunL.val (by exact .inl ⟨_, _, rfl, rfl, rfl⟩) (loc_fun (deepOf_a a hd) rfl (by refine ⟨_, _, rfl, (by exact LeU.of_eq rfl trivial), (by (refine And.intro ?_ ?_; exact trivial; refine And.intro ?_ ?_; exact trivial; exact trivial; done)), ?_⟩; exact rfl)) ?_
    refine RunL.val (by exact .inl ⟨_, _, rfl, rfl, rfl⟩) (loc_binInt rfl rfl rfl) ?_; refine RunL.val (by exact rfl) (loc_pickT rfl rfl) ?_; refine RunL.val (by exact rfl) (loc_assignC rfl) ?_; refine RunL.nil ?_; refine AW.ret ?_
    rw [show decide (((a.deep : Nat) : Int) < 5) = (true && decide (a.deep ≤ 4)) by rw [Bool.true_and]; exact decide_eq_decide.2 (by omega)]
    exact ret_same (.inr rfl) rfl trivial
end Go.Proofs.YtnflnbdlgdjfmabGreatDoor
namespace Go.Proofs.YtnflnbdlgdjfmabGreatDoor
open Go.RowKit
set_option linter.unusedVariables false
set_option linter.unusedSimpArgs false
set_option maxRecDepth 100000
attribute [local irreducible] RunL AW LocOp ACalls Gh
set_option maxHeartbeats 1000000 in
theorem fun_a (a b : Ty) : ACalls Tryz.prog 69 [a.u, b.u] [] (.to a b : Ty).u [] := by
  refine acalls_of_body Tryz.func69 rfl (by kernel_rfl) (Nat.le_of_ble_eq_true rfl) trivial (by simp [namesL]) ?_
  refine AW.seq ?_; refine AW.region (by kernel_rfl) ?_; refine RunL.mem (by exact rfl) (loc_boxD rfl rfl rfl) ?_; refine RunL.mem (by exact rfl) (loc_boxD rfl rfl rfl) ?_; refine RunL.mem (by exact rfl) (loc_allocD rfl rfl) ?_; refine RunL.nil ?_; refine AW.seq ?_; refine AW.region (by kernel_rfl) ?_; refine RunL.val (by exact rfl) (loc_loadA rfl rfl (by exact Cut.all (by exact rfl))) ?_; refine RunL.val (by exact rfl) (loc_loadA rfl rfl (by exact Cut.all (by exact rfl))) ?_; refine RunL.val (by exact rfl) (loc_sliceLit (by exact rfl) (by exact rfl) (by decide) (by decide) (by exact RowsOf.cons (by exact rfl) (RowsOf.cons (by exact rfl) RowsOf.nil)) (by exact AllP.cons (by exact rfl) (AllP.cons (by exact rfl) AllP.nil)) (by exact rfl)) ?_; refine RunL.val (by exact rfl) (loc_build (by exact rfl) (by exact Cut.all (by exact rfl)) (by exact rfl)) ?_; refine RunL.eff (by exact rfl) (loc_storeW rfl rfl rfl rfl (by exact rfl) (by exact rfl)) ?_; refine RunL.nil ?_; refine AW.ret ?_
  refine rq ?_
  refine ret_cell (by exact .inr rfl) (by exact rfl) (by exact rfl) (by exact rfl) [] trivial (l' := [.int .i64 3, slOf 2 (tyRows [a, b])]) (by exact ⟨.le (.refl _), .le (LeC.slF (by simp only [tyRows, Ty.cells_c]; exact LeRows.refl _)), trivial⟩) (by exact ⟨trivial, trivial, trivial⟩) (by exact rfl)
end Go.Proofs.YtnflnbdlgdjfmabGreatDoor
namespace Go.Proofs.YtnflnbdlgdjfmabGreatDoor
open Go.RowKit
set_option linter.unusedVariables false
set_option linter.unusedSimpArgs false
set_option maxRecDepth 100000
attribute [local irreducible] RunL AW LocOp ACalls Gh
theorem closed_envC : ∀ env : List V, closedC (envC env) = true
  | [] => rfl
  | _ :: _ => rfl
/-- A stack: its frames in a row of the call's own; behind them may lie what was there. -/
structure StkOk (s : List Fr) (n : Nat) (rows : List (List C)) : Prop where
  len : n = s.length
  le : n ≤ rows.length
  top : rows.take n = frRows s
  cl : closedRows rows = true
  k16 : ∀ r ∈ rows, r.length = 16
/-- The machine's cells. -/
def mCells (t : Tm) (env : List V) (v : C) (vv n F : Nat) : List C := [.int .i64 t.k, .int .i64 t.n, .int .i64 t.t.k, slOf 2 (tyRows t.t.l), .int .i64 t.f.k, slOf 2 (tyRows t.f.l), slOf 7 (tmRows t.l), envC env, v, .own 1001 vv n, .int .i64 F]
theorem frRows_cons (f : Fr) (s : List Fr) : frRows (f :: s) = frRows s ++ [f.c] := by simp [frRows]
theorem closedRows_append {l m : List (List C)} : closedRows (l ++ m) = (closedRows l && closedRows m) := by
  induction l with
  | nil => simp [closedRows]
  | cons a l ih => simp only [List.cons_append, closedRows, ih, Bool.and_assoc]
theorem closedRows_take {l : List (List C)} (h : closedRows l = true) (n : Nat) : closedRows (l.take n) = true := by
  have := closedRows_append (l := l.take n) (m := l.drop n)
  rw [List.take_append_drop, h] at this
  simp only [Bool.true_eq, Bool.and_eq_true] at this
  exact this.1
theorem fr_closed (f : Fr) : closedRow f.c = true := by
  cases f with
  | term t env => simp only [Fr.c, closedRow, closed_envC]; rfl
  | _ => rfl
theorem fr_len (f : Fr) : f.c.length = 16 := by cases f <;> rfl
theorem StkOk.push {s : List Fr} {n : Nat} {rows : List (List C)} (h : StkOk s n rows) (f : Fr) : StkOk (f :: s) (n + 1) (rows.take n ++ [f.c]) where
  len := by simp [h.len]
  le := by simp [List.length_take, h.le]
  top := by rw [List.take_of_length_le (by simp [List.length_take, h.le]), h.top, frRows_cons]
  cl := by rw [closedRows_append, closedRows_take h.cl]; simp [closedRows, fr_closed]
  k16 := fun r hr => by
    rcases List.mem_append.1 hr with hr | hr
    · exact h.k16 r (List.mem_of_mem_take hr)
    · rw [List.mem_singleton.1 hr]; exact fr_len f
end Go.Proofs.YtnflnbdlgdjfmabGreatDoor
namespace Go.Proofs.YtnflnbdlgdjfmabGreatDoor
open Go.RowKit
set_option linter.unusedVariables false
set_option linter.unusedSimpArgs false
set_option maxRecDepth 100000
attribute [local irreducible] RunL AW LocOp ACalls Gh
end Go.Proofs.YtnflnbdlgdjfmabGreatDoor
namespace Go.Proofs.YtnflnbdlgdjfmabGreatDoor
open Go.RowKit
set_option linter.unusedVariables false
set_option linter.unusedSimpArgs false
set_option maxRecDepth 100000
attribute [local irreducible] RunL AW LocOp ACalls Gh
end Go.Proofs.YtnflnbdlgdjfmabGreatDoor
namespace Go.Proofs.YtnflnbdlgdjfmabGreatDoor
open Go.RowKit
set_option linter.unusedVariables false
set_option linter.unusedSimpArgs false
set_option maxRecDepth 100000
attribute [local irreducible] RunL AW LocOp ACalls Gh
end Go.Proofs.YtnflnbdlgdjfmabGreatDoor
namespace Go.Proofs.YtnflnbdlgdjfmabGreatDoor
open Go.RowKit
set_option linter.unusedVariables false
set_option linter.unusedSimpArgs false
set_option maxRecDepth 100000
attribute [local irreducible] RunL AW LocOp ACalls Gh
end Go.Proofs.YtnflnbdlgdjfmabGreatDoor
namespace Go.Proofs.YtnflnbdlgdjfmabGreatDoor
open Go.RowKit
set_option linter.unusedVariables false
set_option linter.unusedSimpArgs false
set_option maxRecDepth 100000
attribute [local irreducible] RunL AW LocOp ACalls Gh
end Go.Proofs.YtnflnbdlgdjfmabGreatDoor
namespace Go.Proofs.YtnflnbdlgdjfmabGreatDoor
open Go.RowKit
set_option linter.unusedVariables false
set_option linter.unusedSimpArgs false
set_option maxRecDepth 100000
attribute [local irreducible] RunL AW LocOp ACalls Gh
/-- The machine in memory. -/
structure MS where
  t : Tm
  env : List V
  c : C
  vv : Nat
  n : Nat
  F : Nat
  rows : List (List C)
def MS.O (s : MS) : List (Nat × Blk) := [(1000, .obj (mCells s.t s.env s.c s.vv s.n s.F)), (1001, .row 118 16 s.vv s.rows)]
structure MS.Ok (s : MS) : Prop where
  c : closedC s.c = true
  cl : closedRows s.rows = true
  le : s.n ≤ s.rows.length
  lim : s.n ≤ 100000000010
structure MS.Ok2 (s : MS) : Prop where
  c : closedC s.c = true
  cl : closedRows s.rows = true
theorem MS.Ok.ok2 {s : MS} (h : s.Ok) : s.Ok2 := ⟨h.c, h.cl⟩
def goesU : U := .tup [Out.zero.u, .one (.bool false)]
def overU (o : Out) : U := .tup [o.u, .one (.bool true)]
/-- How it goes, call by call. -/
inductive Path (o : Out) (fin : MS) : Nat → MS → Prop
  | enter {k : Nat} {s s' : MS} (ok : s.Ok) (hc : s.c = .nilp) (hv : s.vv ≤ s'.vv) (h : ACalls Tryz.prog 64 [.one (.ptr 1000 0)] s.O goesU s'.O) (hp : Path o fin k s') : Path o fin (k + 1) s
  | enterO {s : MS} (ok : s.Ok) (okf : fin.Ok2) (hc : s.c = .nilp) (hv : s.vv ≤ fin.vv) (h : ACalls Tryz.prog 64 [.one (.ptr 1000 0)] s.O (overU o) fin.O) : Path o fin 0 s
  | leave {k n0 : Nat} {s s' : MS} {v : V} {f : Fr} (ok : s.Ok) (hc : s.c = v.p) (hn : s.n = n0 + 1) (hf : s.rows[n0]? = some f.c) (hv : s.vv ≤ s'.vv) (h : ACalls Tryz.prog 66 [.one (.ptr 1000 0), .agg f.c] ({ s with n := n0 } : MS).O goesU s'.O) (hp : Path o fin k s') : Path o fin (k + 1) s
  | leaveO {n0 : Nat} {s : MS} {v : V} {f : Fr} (ok : s.Ok) (okf : fin.Ok2) (hc : s.c = v.p) (hn : s.n = n0 + 1) (hf : s.rows[n0]? = some f.c) (hv : s.vv ≤ fin.vv) (h : ACalls Tryz.prog 66 [.one (.ptr 1000 0), .agg f.c] ({ s with n := n0 } : MS).O (overU o) fin.O) : Path o fin 0 s
  | seen {v : V} (ok : fin.Ok) (hc : fin.c = v.p) (hn : fin.n = 0) (ho : o = v.seen) : Path o fin 0 fin
theorem Path.vv {o : Out} {fin : MS} {k : Nat} {s : MS} (h : Path o fin k s) : s.vv ≤ fin.vv := by
  induction h with
  | enter _ _ hv _ _ ih => exact Nat.le_trans hv ih
  | enterO _ _ _ hv _ => exact hv
  | leave _ _ _ _ hv _ _ ih => exact Nat.le_trans hv ih
  | leaveO _ _ _ _ _ hv _ => exact hv
  | seen _ _ _ _ => exact Nat.le_refl _
theorem Path.okf {o : Out} {fin : MS} {k : Nat} {s : MS} (h : Path o fin k s) : fin.Ok2 := by
  induction h with
  | enter _ _ _ _ _ ih => exact ih
  | enterO _ okf _ _ _ => exact okf
  | leave _ _ _ _ _ _ _ ih => exact ih
  | leaveO _ okf _ _ _ _ _ => exact okf
  | seen ok _ _ _ => exact ok.ok2
theorem Path.ok {o : Out} {fin : MS} {k : Nat} {s : MS} (h : Path o fin k s) : s.Ok := by
  cases h <;> assumption
theorem StkOk.ok {s : List Fr} {n : Nat} {rows : List (List C)} (h : StkOk s n rows) {t : Tm} {env : List V} {c : C} {vv F : Nat} (hc : closedC c = true) (hl : s.length ≤ 100000000000) : MS.Ok ⟨t, env, c, vv, n, F, rows⟩ :=
  ⟨hc, h.cl, h.le, by show n ≤ _; have := h.len; omega⟩
end Go.Proofs.YtnflnbdlgdjfmabGreatDoor
namespace Go.Proofs.YtnflnbdlgdjfmabGreatDoor
open Go.RowKit
set_option linter.unusedVariables false
set_option linter.unusedSimpArgs false
set_option maxRecDepth 100000
attribute [local irreducible] RunL AW LocOp ACalls Gh
end Go.Proofs.YtnflnbdlgdjfmabGreatDoor
namespace Go.Proofs.YtnflnbdlgdjfmabGreatDoor
open Go.RowKit
set_option linter.unusedVariables false
set_option linter.unusedSimpArgs false
set_option maxRecDepth 100000
attribute [local irreducible] RunL AW LocOp ACalls Gh
end Go.Proofs.YtnflnbdlgdjfmabGreatDoor
namespace Go.Proofs.YtnflnbdlgdjfmabGreatDoor
open Go.RowKit
set_option linter.unusedVariables false
set_option linter.unusedSimpArgs false
section ops
variable {P : Program} {s : St} {dst : Option Tmp} {rt : TypeId} {pos : String} {after : Array Edge} {guard : Option (Nat × Bool)}
theorem loc_buildOwn {t e : TypeId} {len k bytes : Nat} {parts : Array (Nat × Operand)} {rows : List (List C)} (nm : Nat) [T : TElem P t e k bytes] (hparts : parts.toList = ((parts.toList.map (·.2)).zipIdx 0).map fun x => (x.2, x.1)) (hlen : (parts.toList.map (·.2)).length = len) (h0 : 0 < len) (hsmall : len * k ≤ 16777216)
    (hrows : RowsOf ((parts.toList.map (·.2)).map (opU s.t)) rows) (hk : AllP (fun l => l.length = k) rows) (hcl : closedRows rows = true) (hn : s.h nm = none) (hd : (s.d.contains nm) = false) :
    LocOp P ⟨dst, .buildSlice t len parts, rt, pos, after, guard⟩ s [] [(nm, some (.row e k 0 rows))] (.one (.own nm 0 len)) := by
  generalize hxs : parts.toList.map (·.2) = xs at hparts hlen hrows
  generalize hus : xs.map (opU s.t) = us at hrows
  have hrows := hrows.rows
  have hk := allP_iff.1 hk
  intro F ρ h w a Q H hR hx
  have hn : h nm = none := (hR nm (.inr (by simp [namesP]))).trans hn
  have hx := opU_rel H hx
  obtain ⟨i, z, t1, t2, t3, t4, t5, t6, t7⟩ := T.spec
  obtain ⟨r1, r2⟩ := rowsU_get hrows
  have hmem : ∀ x ∈ xs, x ∈ (⟨dst, .buildSlice t len parts, rt, pos, after, guard⟩ : Oper).op.operands := fun x hxm => by
    obtain ⟨j, hj, hje⟩ := List.getElem_of_mem hxm
    have h1 : (j, x) ∈ parts.toList := by
      rw [hparts]
      refine List.mem_map.2 ⟨(x, j), ?_, rfl⟩
      rw [List.mem_zipIdx_iff_getElem?]
      simp [hj, hje]
    show x ∈ ((parts.toList.map (·.2)).toArray : Array Operand)
    rw [List.mem_toArray]
    exact List.mem_map.2 ⟨(j, x), h1, rfl⟩
  have hval : ∀ (j : Nat) x, xs[j]? = some x → ∃ l, rows[j]? = some l ∧ All2 (relC F ρ w) l (a.eval x).cells.toList ∧ (∀ c ∈ l, okC h c) ∧ l.length = k := fun j x hjx => by
    have hu : us[j]? = some (opU s.t x) := by rw [← hus]; simp [hjx]
    obtain ⟨l, h1, h2⟩ := r2 j _ hu
    have hr := hx x (hmem x (List.mem_of_getElem? hjx))
    obtain ⟨vs, hvs, hall, hokl⟩ := cellsU_rel h2 hr.1 hr.2
    exact ⟨l, h1, by rw [hvs]; exact hall, hokl, hk l (List.mem_of_getElem? h1)⟩
  let vs := xs.map a.eval
  have hvk : ∀ v ∈ vs, v.cells.toList.length = k := fun v hv => by
    obtain ⟨x, hxm, rfl⟩ := List.mem_map.1 hv
    obtain ⟨j, hj, hje⟩ := List.getElem_of_mem hxm
    obtain ⟨l, _, h2, _, h3⟩ := hval j x (by rw [List.getElem?_eq_getElem hj, hje])
    rw [← h2.length, h3]
  have hlk : len * i.size = len * k := by rw [t3]
  obtain ⟨cs', g1, g2, _, g4⟩ := fill_rows k vs 0 ((Array.range (len * i.size)).map (z.cells[· % z.cells.size]!)) hvk (by simp [vs, hlen, hlk])
  have hpv : (parts.map fun p => (p.1, a.eval p.2)).toList = (vs.zipIdx 0).map fun x => (x.2, x.1) := by
    rw [Array.toList_map, hparts, List.map_map, List.zipIdx_map, List.map_map]
    rfl
  have hrun := run_buildSlice (P := P) w t e len (parts.map fun p => (p.1, a.eval p.2)) cs' i z t1 t2 t6 (by rw [hlk]; omega) (by rw [hlk]; have := Nat.mul_pos h0 t5; omega) (by rw [hpv, t3]; rw [t3] at g1; exact g1)
  have hexec : (execOp a.eval (⟨dst, .buildSlice t len parts, rt, pos, after, guard⟩ : Oper)).run P w = .ok (.value (.slice (some ⟨w.heap.size, 0, none⟩) len len)) (w.alloc (.cells cs' e)) := by
    show (do pure (Next.value (← Instr.buildSlice t len (parts.map fun p => (p.1, a.eval p.2)))) : Sem Next).run P w = _
    rw [Sem.run_bind, hrun]
    rfl
  unfold Oper.wp
  rw [hexec]
  have hd' : nm ∉ s.d := by simpa using hd
  have hsz : (w.alloc (Obj.cells cs' e)).heap.size = w.heap.size + 1 := by simp
  have hrl : rows.length = len := by rw [r1, ← hus, List.length_map, hlen]
  have hlm : len ≤ maxLen := by have : len ≤ len * k := Nat.le_mul_of_pos_right _ t5; unfold maxLen; omega
  have hcs : cs'.size = len * k := by rw [g2]; simp [hlk]
  refine ⟨_, F, upd ρ nm ⟨some w.heap.size, len, 0⟩, rfl, moves_patch H nm _ (fun c hc => upd_ne _ _ hc) (.inl ⟨hn, hd'⟩) (fun _ h => h) (fun _ h => .inl h) (fun k hk => by rw [hsz]; exact Nat.lt_succ_of_lt (H.lt k hk)) (fun k hk _ => Below.heap_alloc w _ k hk) rfl rfl rfl (by rw [hsz]; omega) (fun hrel => ?_) (fun g hg => ?_) (fun g hg hf => ?_) (fun hokm => fun r hr c hc => ?_), ?_, ?_⟩
  · refine ⟨by rw [upd_same], t5, .inr ⟨w.heap.size, cs', by rw [upd_same], heap_alloc_new w _, by rw [upd_same]; exact hcs, by rw [upd_same, hrl]; exact Nat.le_refl _, by rw [upd_same]; exact hlm, fun q row hq => ?_⟩⟩
    have hql : q < rows.length := (List.getElem?_eq_some_iff.1 hq).1
    have hxq : xs[q]? = some xs[q] := by simp [hlen, ← hrl, hql]
    obtain ⟨l, h1, h2, h3, h4⟩ := hval q _ hxq
    obtain rfl : row = l := Option.some.inj (hq.symm.trans h1)
    refine ⟨h4, fun j c hc => ?_⟩
    have hj : j < k := by rw [← h4]; exact (List.getElem?_eq_some_iff.1 hc).1
    have hcell := g4 q (a.eval xs[q]) (by simp [vs, hlen, ← hrl, hql]) j hj
    obtain ⟨u, hu, hru⟩ := h2.get j c hc
    refine ⟨u, by rw [Nat.zero_add] at hcell; rw [hcell]; exact hu, hrel c u (h3 c (List.mem_of_getElem? hc)) hru⟩
  · rw [upd_same] at hg; cases hg; exact .inr (Nat.le_refl _)
  · rw [upd_same] at hg; cases hg; exact absurd (H.lt _ hf) (Nat.lt_irrefl _)
  · exact hokm c (closed_okC (closedRows_mem hcl hr hc))
  · exact ⟨rfl, fun _ => .inr ⟨w.heap.size, by rw [upd_same], by rw [upd_same]⟩⟩
  · exact ⟨e, k, 0, _, upd_same .., Nat.le_refl _⟩
theorem loc_buildOwnD {t e : TypeId} {len k bytes : Nat} {parts : Array (Nat × Operand)} {rows : List (List C)} {x0 : Tmp} [T : TElem P t e k bytes] (hparts : parts.toList = ((parts.toList.map (·.2)).zipIdx 0).map fun x => (x.2, x.1)) (hlen : (parts.toList.map (·.2)).length = len) (h0 : 0 < len) (hsmall : len * k ≤ 16777216)
    (hrows : RowsOf ((parts.toList.map (·.2)).map (opU s.t)) rows) (hk : AllP (fun l => l.length = k) rows) (hcl : closedRows rows = true) (hn : s.h x0 = none) (hd : (s.d.contains x0) = false) :
    LocOp P ⟨some x0, .buildSlice t len parts, rt, pos, after, guard⟩ s [] [(x0, some (.row e k 0 rows))] (.one (.own x0 0 len)) := loc_buildOwn x0 hparts hlen h0 hsmall hrows hk hcl hn hd
end ops
end Go.Proofs.YtnflnbdlgdjfmabGreatDoor
