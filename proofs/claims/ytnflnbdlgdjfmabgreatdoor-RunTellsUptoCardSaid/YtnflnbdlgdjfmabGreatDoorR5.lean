/-
  Merged texts of the proof. Conditions: those typed in each theorem.
-/
import Derived.Test.YtnflnbdlgdjfmabGreatDoorR4
import Derived.Deep.Upon
namespace Go.Proofs.YtnflnbdlgdjfmabGreatDoor
open Go.RowKit
set_option linter.unusedVariables false
set_option linter.unusedSimpArgs false
set_option maxRecDepth 100000
attribute [local irreducible] RunL AW LocOp ACalls Gh
set_option maxHeartbeats 1000000 in
theorem any0_a : ACalls Tryz.prog 38 [] [] Ty.any.u [] := by
  refine acalls_of_body Tryz.func38 rfl (by kernel_rfl) (Nat.le_of_ble_eq_true rfl) zo (by simp [namesL]) ?_
  refine zQ ?_;refine zM lah ?_;refine zn ?_;refine zQ ?_;refine zV laq ?_;refine zE laf ?_;refine zn ?_;refine zre ?_
  refine rq ?_
  refine ret_cell (by exact .inr rfl) (by exact rfl) (by exact rfl) (by exact rfl) [] trivial (l' := Ty.any.c) (by exact ⟨.le (.refl _), .le (.nil _), zo⟩) (by exact ⟨zo, zo, zo⟩) (by exact rfl)
set_option maxHeartbeats 2000000 in
theorem rsame_a : ∀ a b : Ty, ACalls Tryz.prog 27 [a.u, b.u] [] (.one (.bool (a.same b))) [] := by
  intro a
  induction a using Ty.ind' with
  | h a ih =>
  intro b
  have hL := tyRows_length a.l
  have hM := tyRows_length b.l
  refine acalls_of_body Tryz.func27 rfl (by kernel_rfl) (Nat.le_of_ble_eq_true rfl) zo (by simp [namesL]) ?_
  refine zq ?_
  refine zR ?_
  refine zM lan ?_;refine zM lan ?_;refine zV lab ?_;refine zn ?_
  refine zq ?_
  refine AW.midC (fun t h => t = tOfL [(2, .one (.ptr 2 0)), (3, .one (.ptr 3 0)), (5, .one (.bool (a.k == b.k && (((tyRows a.l).length : Nat) : Int) == ((tyRows b.l).length : Nat))))] ∧ h = ofL [(2, .obj a.c), (3, .obj b.c)]) ?_ ?_
  · cases h1 : (a.k == b.k) with
    | true =>
      refine zR ?_;refine zV lad ?_;refine zV lae ?_;refine zV lad ?_;refine zV lae ?_;refine zV lac ?_;refine zV laa ?_;refine zT lad ?_;refine zT lae ?_;refine zT lay ?_;refine zT lad ?_;refine zT lae ?_;refine zT lay ?_;refine zT lac ?_;refine zV (lam true) ?_;refine zV lab ?_;refine zn ?_
      exact ⟨_, _, (gh_lit [(2, .one (.ptr 2 0)), (3, .one (.ptr 3 0)), (5, .one (.bool ((((tyRows a.l).length : Nat) : Int) == ((tyRows b.l).length : Nat))))] [(2, .obj a.c), (3, .obj b.c)] [] [] ⟨(zw rfl zo), (zw rfl zo), (zw rfl zo), zo⟩ ⟨(by exact zb rfl), (by exact zb rfl), zo⟩ trivial zo rfl rfl ⟨⟨_, rfl⟩, ⟨_, rfl⟩, zo, zo⟩ ⟨(by exact ⟨zo, zo, zo⟩), (by exact ⟨zo, zo, zo⟩), zo⟩), by simp, rfl⟩
    | false =>
      refine zR ?_;refine zV lad ?_;refine zV lae ?_;refine zV lad ?_;refine zV lae ?_;refine zV lac ?_;refine zV laa ?_;refine zf ?_;refine zf ?_;refine zf ?_;refine zf ?_;refine zf ?_;refine zf ?_;refine zf ?_;refine zV (lam false) ?_;refine zV lab ?_;refine zn ?_
      exact ⟨_, _, (gh_lit [(2, .one (.ptr 2 0)), (3, .one (.ptr 3 0)), (5, .one (.bool false))] [(2, .obj a.c), (3, .obj b.c)] [] [] ⟨(zw rfl zo), (zw rfl zo), (zw rfl zo), zo⟩ ⟨(by exact zb rfl), (by exact zb rfl), zo⟩ trivial zo rfl rfl ⟨⟨_, rfl⟩, ⟨_, rfl⟩, zo, zo⟩ ⟨(by exact ⟨zo, zo, zo⟩), (by exact ⟨zo, zo, zo⟩), zo⟩), by simp, rfl⟩
  · rintro t h ⟨rfl, rfl⟩
    have h0 : a.same b = ((a.k == b.k && (((tyRows a.l).length : Nat) : Int) == ((tyRows b.l).length : Nat)) && sameL (a.l.drop 0) (b.l.drop 0)) := by
      rw [same_eta, hL, hM, List.drop_zero, List.drop_zero]
      by_cases hl : a.l.length = b.l.length
      · simp [hl]
      · simp [hl, sameL_len hl]
    have hl : (a.k == b.k && (((tyRows a.l).length : Nat) : Int) == ((tyRows b.l).length : Nat)) = true → a.l.length = b.l.length := by
      intro h; rw [hL, hM, Bool.and_eq_true] at h; have := h.2; simp at this; omega
    generalize (a.k == b.k && (((tyRows a.l).length : Nat) : Int) == ((tyRows b.l).length : Nat)) = ok0 at *
    refine zq ?_;refine zQ ?_;refine zV lab ?_;refine zn ?_;refine zbl ?_
    refine AW.gh (gh_lit [(2, .one (.ptr 2 0)), (3, .one (.ptr 3 0)), (5, .one (.bool (ok0))), (6, .one (.int .i64 ((0 : Nat) : Int)))] [(2, .obj a.c), (3, .obj b.c)] [] [] ⟨(zw rfl zo), (zw rfl zo), (zw rfl zo), (zw rfl zo), zo⟩ ⟨(by exact zb rfl), (by exact zb rfl), zo⟩ trivial zo rfl rfl ⟨⟨_, rfl⟩, ⟨_, rfl⟩, zo, zo, zo⟩ ⟨(by exact ⟨zo, zo, zo⟩), (by exact ⟨zo, zo, zo⟩), zo⟩) ?_
    refine AW.lenBlk 2 1 rfl rfl fun hmax => ?_
    refine AW.loop (fun m t h => ∃ i : Nat, ∃ ok : Bool, i ≤ a.l.length ∧ m = a.l.length - i ∧ (ok = true → a.l.length = b.l.length) ∧ a.same b = (ok && sameL (a.l.drop i) (b.l.drop i)) ∧ t = tOfL [(2, .one (.ptr 2 0)), (3, .one (.ptr 3 0)), (5, .one (.bool (ok))), (6, .one (.int .i64 ((i : Nat) : Int)))] ∧ h = ofL [(2, .obj a.c), (3, .obj b.c)]) a.l.length ⟨0, ok0, Nat.zero_le _, rfl, hl, h0, rfl, rfl⟩ ?_
    rintro m t h ⟨i, ok, hi, rfl, hlen, hinv, rfl, rfl⟩
    clear hl h0
    cases ok with
    | false =>
      refine zq ?_;refine zQ ?_;refine zV laa ?_;refine zV laa ?_;refine zs ?_;refine zs ?_;refine zs ?_;refine zs ?_;refine zs ?_;refine zV lax ?_;refine zn ?_;refine zcF ?_;refine zex ?_;refine zQ ?_;refine zV laa ?_;refine zV lab ?_;refine zn ?_;refine zre ?_
      rw [hinv]
      exact ret_same (.inr rfl) rfl zo
    | true =>
    have hlen := hlen rfl
    cases hlt : decide ((i : Int) < ((tyRows a.l).length : Nat)) with
    | false =>
      have hil : i = a.l.length := by simp at hlt; omega
      refine zq ?_;refine zQ ?_;refine zV laa ?_;refine zV laa ?_;refine zI laa ?_;refine zI lad ?_;refine zI lae ?_;refine zI lay ?_;refine zI lac ?_;refine zV laA ?_;refine zn ?_;refine zaF ?_;refine zex ?_;refine zQ ?_;refine zV laa ?_;refine zV lab ?_;refine zn ?_;refine zre ?_
      rw [hinv, hil, show sameL (a.l.drop a.l.length) (b.l.drop a.l.length) = true by rw [List.drop_length, hlen, List.drop_length]; rfl]
      exact ret_same (.inr rfl) rfl zo
    | true =>
      have hil : i < a.l.length := by simp at hlt; omega
      have hilb : i < b.l.length := by omega
      have hr1 := tyRows_get hil
      have hr2 := tyRows_get hilb
      have hs := sameL_drop hil hilb
      refine zq ?_;refine zQ ?_;refine zV laa ?_;refine zV laa ?_;refine zI laa ?_;refine zI lad ?_;refine zI lae ?_;refine zI lay ?_;refine zI lac ?_;refine zV laA ?_;refine zn ?_;refine zaT ?_;refine zsk ?_;refine zq ?_;refine zbl ?_;refine zRD ?_;refine zV lad ?_;refine zV lae ?_;refine zV laa ?_;refine zV (lap _) ?_;refine zV lao ?_;refine zV lad ?_;refine zV lae ?_;refine zV laa ?_;refine zV (lap _) ?_;refine zV lao ?_
      refine zV (lal (ih a.l[i] (List.getElem_mem _) b.l[i]) rfl (by refine zC2 ?_;refine zC2 ?_;exact rfl)) ?_
      refine zV lab ?_;refine znD ?_;refine zR ?_;refine zV laa ?_;refine zV laB ?_;refine zV lab ?_;refine zn ?_
      exact ⟨a.l.length - (i + 1), _, _, by omega, (gh_lit [(2, .one (.ptr 2 0)), (3, .one (.ptr 3 0)), (5, .one (.bool (a.l[i].same b.l[i]))), (6, .one (.int .i64 (((i + 1) : Nat) : Int)))] [(2, .obj a.c), (3, .obj b.c)] [] [] ⟨(zw rfl zo), (zw rfl zo), (zw rfl zo), (zw rfl zo), zo⟩ ⟨(by exact zb rfl), (by exact zb rfl), zo⟩ trivial zo rfl rfl ⟨⟨_, rfl⟩, ⟨_, rfl⟩, zo, zo, zo⟩ ⟨(by exact ⟨zo, zo, zo⟩), (by exact ⟨zo, zo, zo⟩), zo⟩), i + 1, _, by omega, rfl, fun _ => hlen, by rw [hinv, hs]; rfl, rfl, rfl⟩
theorem right_mem {a t : Ty} (h : a.right = true) (ht : t ∈ a.l) : t.right = true := by
  rw [right_eta, Bool.and_eq_true] at h
  obtain ⟨i, hi, rfl⟩ := List.getElem_of_mem ht
  have : ∀ (l : List Ty), rightL l = true → ∀ x ∈ l, x.right = true := by
    intro l
    induction l with
    | nil => intro _ x hx; cases hx
    | cons b l ih =>
      intro h x hx
      simp only [rightL, Bool.and_eq_true] at h
      rcases List.mem_cons.1 hx with rfl | hx
      · exact h.1
      · exact ih h.2 x hx
  exact this _ h.2 _ ht
theorem right_cases {a : Ty} (h : a.right = true) : (∃ k, a = .mk k [] ∧ 0 ≤ k ∧ k ≤ 2) ∨ ∃ p q, a = .mk 3 [p, q] ∧ p.right = true ∧ q.right = true := by
  obtain ⟨k, l⟩ := a
  have h2 := h
  rw [right_eta, Bool.and_eq_true] at h
  simp only [Ty.okk, Ty.k_mk, Ty.l_mk, Bool.or_eq_true, Bool.and_eq_true, beq_iff_eq] at h
  rcases h.1 with ⟨⟨h0, h1⟩, hl⟩ | ⟨rfl, hl⟩
  · exact .inl ⟨k, by rw [List.length_eq_zero_iff.1 hl], of_decide_eq_true h0, of_decide_eq_true h1⟩
  · match l, hl with
    | [p, q], _ => exact .inr ⟨p, q, rfl, right_mem h2 (by simp), right_mem h2 (by simp)⟩
theorem okk_eq (a : Ty) : a.okk = ((decide (a.k ≥ 0) && decide (a.k ≤ 2) && (((tyRows a.l).length : Nat) : Int) == 0) || (a.k == 3 && (((tyRows a.l).length : Nat) : Int) == 2)) := by
  rw [tyRows_length]
  have e1 : (((a.l.length : Nat) : Int) == 0) = (a.l.length == 0) := by rw [Bool.eq_iff_iff]; simp
  have e2 : (((a.l.length : Nat) : Int) == 2) = (a.l.length == 2) := by rw [Bool.eq_iff_iff]; simp; omega
  rw [e1, e2]
  rfl
set_option maxHeartbeats 4000000 in
theorem isRight_a : ∀ a : Ty, ACalls Tryz.prog 109 [a.u] [] (.one (.bool a.right)) [] := by
  intro a
  induction a using Ty.ind' with
  | h a ih =>
  have hL := tyRows_length a.l
  refine acalls_of_body Tryz.func109 rfl (by kernel_rfl) (Nat.le_of_ble_eq_true rfl) zo (by simp [namesL]) ?_
  refine zq ?_
  refine zR ?_
  refine zM lan ?_;refine zV lab ?_;refine zn ?_
  refine zq ?_
  refine AW.midC (fun t h => t = tOfL [(1, .one (.ptr 1 0)), (3, .one (.bool (((decide (a.k ≥ 0) && decide (a.k ≤ 2) && (((tyRows a.l).length : Nat) : Int) == 0) || (a.k == 3 && (((tyRows a.l).length : Nat) : Int) == 2)))))] ∧ h = ofL [(1, .obj a.c)]) ?_ ?_
  · cases h0 : decide (a.k ≥ 0) with
    | false =>
      cases h3 : (a.k == 3) with
      | false =>
        refine zR ?_;refine zV lad ?_;refine zV lae ?_;refine zV lac ?_;refine zV laa ?_;refine zf ?_;refine zf ?_;refine zf ?_;refine zV (lam false) ?_;refine zV laa ?_;refine zs ?_;refine zs ?_;refine zs ?_;refine zs ?_;refine zV lax ?_;refine zV laa ?_;refine zI lad ?_;refine zI lae ?_;refine zI lac ?_;refine zI laa ?_;refine zf ?_;refine zf ?_;refine zf ?_;refine zf ?_;refine zI (lam false) ?_;refine zV lax ?_;refine zV lab ?_;refine zn ?_
        exact ⟨_, _, (gh_lit [(1, .one (.ptr 1 0)), (3, .one (.bool (false)))] [(1, .obj a.c)] [] [] ⟨(zw rfl zo), (zw rfl zo), zo⟩ ⟨(by exact zb rfl), zo⟩ trivial zo rfl rfl ⟨⟨_, rfl⟩, zo, zo⟩ ⟨(by exact ⟨zo, zo, zo⟩), zo⟩), by simp, rfl⟩
      | true =>
        refine zR ?_;refine zV lad ?_;refine zV lae ?_;refine zV lac ?_;refine zV laa ?_;refine zf ?_;refine zf ?_;refine zf ?_;refine zV (lam false) ?_;refine zV laa ?_;refine zs ?_;refine zs ?_;refine zs ?_;refine zs ?_;refine zV lax ?_;refine zV laa ?_;refine zI lad ?_;refine zI lae ?_;refine zI lac ?_;refine zI laa ?_;refine zT lad ?_;refine zT lae ?_;refine zT lay ?_;refine zT lac ?_;refine zI (lam true) ?_;refine zV lax ?_;refine zV lab ?_;refine zn ?_
        exact ⟨_, _, (gh_lit [(1, .one (.ptr 1 0)), (3, .one (.bool ((((tyRows a.l).length : Nat) : Int) == 2)))] [(1, .obj a.c)] [] [] ⟨(zw rfl zo), (zw rfl zo), zo⟩ ⟨(by exact zb rfl), zo⟩ trivial zo rfl rfl ⟨⟨_, rfl⟩, zo, zo⟩ ⟨(by exact ⟨zo, zo, zo⟩), zo⟩), by simp, rfl⟩
    | true =>
    cases h2 : decide (a.k ≤ 2) with
    | false =>
      cases h3 : (a.k == 3) with
      | false =>
        refine zR ?_;refine zV lad ?_;refine zV lae ?_;refine zV lac ?_;refine zV laa ?_;refine zT lad ?_;refine zT lae ?_;refine zT lac ?_;refine zV (lam true) ?_;refine zV laa ?_;refine zf ?_;refine zf ?_;refine zf ?_;refine zf ?_;refine zV (lam false) ?_;refine zV laa ?_;refine zI lad ?_;refine zI lae ?_;refine zI lac ?_;refine zI laa ?_;refine zf ?_;refine zf ?_;refine zf ?_;refine zf ?_;refine zI (lam false) ?_;refine zV lax ?_;refine zV lab ?_;refine zn ?_
        exact ⟨_, _, (gh_lit [(1, .one (.ptr 1 0)), (3, .one (.bool (false)))] [(1, .obj a.c)] [] [] ⟨(zw rfl zo), (zw rfl zo), zo⟩ ⟨(by exact zb rfl), zo⟩ trivial zo rfl rfl ⟨⟨_, rfl⟩, zo, zo⟩ ⟨(by exact ⟨zo, zo, zo⟩), zo⟩), by simp, rfl⟩
      | true =>
        refine zR ?_;refine zV lad ?_;refine zV lae ?_;refine zV lac ?_;refine zV laa ?_;refine zT lad ?_;refine zT lae ?_;refine zT lac ?_;refine zV (lam true) ?_;refine zV laa ?_;refine zf ?_;refine zf ?_;refine zf ?_;refine zf ?_;refine zV (lam false) ?_;refine zV laa ?_;refine zI lad ?_;refine zI lae ?_;refine zI lac ?_;refine zI laa ?_;refine zT lad ?_;refine zT lae ?_;refine zT lay ?_;refine zT lac ?_;refine zI (lam true) ?_;refine zV lax ?_;refine zV lab ?_;refine zn ?_
        exact ⟨_, _, (gh_lit [(1, .one (.ptr 1 0)), (3, .one (.bool ((((tyRows a.l).length : Nat) : Int) == 2)))] [(1, .obj a.c)] [] [] ⟨(zw rfl zo), (zw rfl zo), zo⟩ ⟨(by exact zb rfl), zo⟩ trivial zo rfl rfl ⟨⟨_, rfl⟩, zo, zo⟩ ⟨(by exact ⟨zo, zo, zo⟩), zo⟩), by simp, rfl⟩
    | true =>
    cases e0 : ((((tyRows a.l).length : Nat) : Int) == 0) with
    | false =>
      cases h3 : (a.k == 3) with
      | false =>
        refine zR ?_;refine zV lad ?_;refine zV lae ?_;refine zV lac ?_;refine zV laa ?_;refine zT lad ?_;refine zT lae ?_;refine zT lac ?_;refine zV (lam true) ?_;refine zV laa ?_;refine zT lad ?_;refine zT lae ?_;refine zT lay ?_;refine zT lac ?_;refine zV (lam true) ?_;refine zV laa ?_;refine zF lad ?_;refine zF lae ?_;refine zF lac ?_;refine zF laa ?_;refine zf ?_;refine zf ?_;refine zf ?_;refine zf ?_;refine zF (lam false) ?_;refine zV (lam false) ?_;refine zV lab ?_;refine zn ?_
        exact ⟨_, _, (gh_lit [(1, .one (.ptr 1 0)), (3, .one (.bool (false)))] [(1, .obj a.c)] [] [] ⟨(zw rfl zo), (zw rfl zo), zo⟩ ⟨(by exact zb rfl), zo⟩ trivial zo rfl rfl ⟨⟨_, rfl⟩, zo, zo⟩ ⟨(by exact ⟨zo, zo, zo⟩), zo⟩), by simp, rfl⟩
      | true =>
        refine zR ?_;refine zV lad ?_;refine zV lae ?_;refine zV lac ?_;refine zV laa ?_;refine zT lad ?_;refine zT lae ?_;refine zT lac ?_;refine zV (lam true) ?_;refine zV laa ?_;refine zT lad ?_;refine zT lae ?_;refine zT lay ?_;refine zT lac ?_;refine zV (lam true) ?_;refine zV laa ?_;refine zF lad ?_;refine zF lae ?_;refine zF lac ?_;refine zF laa ?_;refine zT lad ?_;refine zT lae ?_;refine zT lay ?_;refine zT lac ?_;refine zF (lam true) ?_;refine zV (lam false) ?_;refine zV lab ?_;refine zn ?_
        exact ⟨_, _, (gh_lit [(1, .one (.ptr 1 0)), (3, .one (.bool ((((tyRows a.l).length : Nat) : Int) == 2)))] [(1, .obj a.c)] [] [] ⟨(zw rfl zo), (zw rfl zo), zo⟩ ⟨(by exact zb rfl), zo⟩ trivial zo rfl rfl ⟨⟨_, rfl⟩, zo, zo⟩ ⟨(by exact ⟨zo, zo, zo⟩), zo⟩), by simp, rfl⟩
    | true =>
      refine zR ?_;refine zV lad ?_;refine zV lae ?_;refine zV lac ?_;refine zV laa ?_;refine zT lad ?_;refine zT lae ?_;refine zT lac ?_;refine zV (lam true) ?_;refine zV laa ?_;refine zT lad ?_;refine zT lae ?_;refine zT lay ?_;refine zT lac ?_;refine zV (lam true) ?_;refine zV laa ?_;refine zt ?_;refine zt ?_;refine zt ?_;refine zt ?_;refine RunL.skip (.inr ⟨rfl, _, rfl, rfl⟩) ?_;refine RunL.skip (.inr ⟨rfl, _, rfl, rfl⟩) ?_;refine RunL.skip (.inr ⟨rfl, _, rfl, rfl⟩) ?_;refine RunL.skip (.inr ⟨rfl, _, rfl, rfl⟩) ?_;refine zt ?_;refine zV (lam true) ?_;refine zV lab ?_;refine zn ?_
      exact ⟨_, _, (gh_lit [(1, .one (.ptr 1 0)), (3, .one (.bool (true)))] [(1, .obj a.c)] [] [] ⟨(zw rfl zo), (zw rfl zo), zo⟩ ⟨(by exact zb rfl), zo⟩ trivial zo rfl rfl ⟨⟨_, rfl⟩, zo, zo⟩ ⟨(by exact ⟨zo, zo, zo⟩), zo⟩), by simp, rfl⟩
  · rintro t h ⟨rfl, rfl⟩
    have h0 : a.right = (a.okk && rightL (a.l.drop 0)) := right_eta a
    rw [← okk_eq]
    generalize a.okk = ok0 at *
    refine zq ?_;refine zQ ?_;refine zV lad ?_;refine zV lae ?_;refine zV lay ?_;refine zV laa ?_;refine zn ?_;refine zbl ?_
    refine AW.gh (gh_lit [(1, .one (.ptr 1 0)), (3, .one (.bool (ok0))), (32, .one (slOf 2 (tyRows a.l))), (33, .one (.int .i64 ((tyRows a.l).length : Nat))), (34, .one (.int .i64 ((0 : Nat) : Int)))] [(1, .obj a.c)] [] [] ⟨(zw rfl zo), (zw rfl zo), (by exact WkU.of_eq rfl zo), (zw rfl zo), (zw rfl zo), zo⟩ ⟨(by exact zb rfl), zo⟩ trivial zo rfl rfl ⟨⟨_, rfl⟩, zo, zo, zo, zo, zo⟩ ⟨(by exact ⟨zo, zo, zo⟩), zo⟩) ?_
    refine AW.lenSl 32 rfl fun hmax => ?_
    refine AW.loop (fun m t h => ∃ i : Nat, ∃ ok : Bool, i ≤ a.l.length ∧ m = a.l.length - i ∧ a.right = (ok && rightL (a.l.drop i)) ∧ t = tOfL [(1, .one (.ptr 1 0)), (3, .one (.bool (ok))), (32, .one (slOf 2 (tyRows a.l))), (33, .one (.int .i64 ((tyRows a.l).length : Nat))), (34, .one (.int .i64 ((i : Nat) : Int)))] ∧ h = ofL [(1, .obj a.c)]) a.l.length ⟨0, ok0, Nat.zero_le _, rfl, h0, rfl, rfl⟩ ?_
    rintro m t h ⟨i, ok, hi, rfl, hinv, rfl, rfl⟩
    clear h0
    cases hlt : decide ((i : Int) < ((tyRows a.l).length : Nat)) with
    | false =>
      have hil : i = a.l.length := by simp at hlt; omega
      refine zQ ?_;refine zV lac ?_;refine zn ?_;refine zq ?_;refine zaF ?_;refine zex ?_;refine zQ ?_;refine zV laa ?_;refine zV lab ?_;refine zn ?_;refine zre ?_
      rw [hinv, hil, List.drop_length, show rightL [] = true from rfl, Bool.and_true]
      exact ret_same (.inr rfl) rfl zo
    | true =>
      have hil : i < a.l.length := by simp at hlt; omega
      have hr1 := tyRows_get hil
      have hs := rightL_drop hil
      cases ok with
      | false =>
        refine zQ ?_;refine zV lac ?_;refine zn ?_;refine zq ?_;refine zaT ?_;refine zsk ?_;refine zq ?_;refine zbl ?_;refine zQ ?_;refine zV (lap _) ?_;refine zV lao ?_;refine zM lah ?_;refine zE laf ?_;refine zn ?_;refine zR ?_;refine zV laa ?_;refine zV laa ?_;refine zs ?_;refine zs ?_;refine zV lax ?_;refine zV lab ?_;refine zn ?_;refine zR ?_;refine zV laB ?_;refine zV laa ?_;refine zn ?_
        exact ⟨a.l.length - (i + 1), _, _, by omega, (gh_lit [(1, .one (.ptr 1 0)), (3, .one (.bool (false))), (32, .one (slOf 2 (tyRows a.l))), (33, .one (.int .i64 ((tyRows a.l).length : Nat))), (34, .one (.int .i64 (((i + 1) : Nat) : Int)))] [(1, .obj a.c)] [] [] ⟨(zw rfl zo), (zw rfl zo), (by exact WkU.of_eq rfl zo), (zw rfl zo), (zw rfl zo), zo⟩ ⟨(by exact zb rfl), zo⟩ trivial zo rfl rfl ⟨⟨_, rfl⟩, zo, zo, zo, zo, zo⟩ ⟨(by exact ⟨zo, zo, zo⟩), zo⟩), i + 1, _, by omega, rfl, by rw [hinv]; rfl, rfl, rfl⟩
      | true =>
        refine zQ ?_;refine zV lac ?_;refine zn ?_;refine zq ?_;refine zaT ?_;refine zsk ?_;refine zq ?_;refine zbl ?_;refine zQ ?_;refine zV (lap _) ?_;refine zV lao ?_;refine zM lah ?_;refine zE laf ?_;refine zn ?_;refine zR ?_;refine zV laa ?_;refine zV laa ?_;refine zI lai ?_
        refine zI (lal (ih a.l[i] (List.getElem_mem _)) rfl (by refine zC2 ?_;exact rfl)) ?_
        refine zV laA ?_;refine zV lab ?_;refine zn ?_;refine zR ?_;refine zV laB ?_;refine zV laa ?_;refine zn ?_
        exact ⟨a.l.length - (i + 1), _, _, by omega, (gh_lit [(1, .one (.ptr 1 0)), (3, .one (.bool (a.l[i].right))), (32, .one (slOf 2 (tyRows a.l))), (33, .one (.int .i64 ((tyRows a.l).length : Nat))), (34, .one (.int .i64 (((i + 1) : Nat) : Int)))] [(1, .obj a.c)] [] [] ⟨(zw rfl zo), (zw rfl zo), (by exact WkU.of_eq rfl zo), (zw rfl zo), (zw rfl zo), zo⟩ ⟨(by exact zb rfl), zo⟩ trivial zo rfl rfl ⟨⟨_, rfl⟩, zo, zo, zo, zo, zo⟩ ⟨(by exact ⟨zo, zo, zo⟩), zo⟩), i + 1, _, by omega, rfl, by rw [hinv, hs]; rfl, rfl, rfl⟩
set_option maxHeartbeats 2000000 in
theorem deepOf_a : ∀ a : Ty, a.deep ≤ 1048576 → ACalls Tryz.prog 110 [a.u] [] (.one (.int .i64 ((a.deep : Nat) : Int))) [] := by
  intro a
  induction a using Ty.ind' with
  | h a ih =>
  intro hd
  have hL := tyRows_length a.l
  have he := deep_eta a
  refine acalls_of_body Tryz.func110 rfl (by kernel_rfl) (Nat.le_of_ble_eq_true rfl) zo (by simp [namesL]) ?_
  refine zQ ?_;refine zM lan ?_;refine zV lab ?_;refine zn ?_;refine zQ ?_;refine zV lab ?_;refine zn ?_;refine zq ?_;refine zQ ?_;refine zV lad ?_;refine zV lae ?_;refine zV lay ?_;refine zV laa ?_;refine zn ?_;refine zbl ?_
  refine AW.gh (gh_lit [(3, .one (.int .i64 ((deepL (a.l.take (0)) : Nat) : Int))), (7, .one (slOf 2 (tyRows a.l))), (8, .one (.int .i64 ((tyRows a.l).length : Nat))), (9, .one (.int .i64 ((0 : Nat) : Int)))] [] [] [] ⟨(zw rfl zo), (by exact WkU.of_eq rfl zo), (zw rfl zo), (zw rfl zo), zo⟩ trivial zo zo rfl rfl ⟨zo, zo, zo, zo, zo⟩ trivial) ?_
  refine AW.lenSl 7 rfl fun hmax => ?_
  refine AW.loop (fun m t h => ∃ i : Nat, i ≤ a.l.length ∧ m = a.l.length - i ∧ t = tOfL [(3, .one (.int .i64 ((deepL (a.l.take (i)) : Nat) : Int))), (7, .one (slOf 2 (tyRows a.l))), (8, .one (.int .i64 ((tyRows a.l).length : Nat))), (9, .one (.int .i64 ((i : Nat) : Int)))] ∧ h = ofL []) a.l.length ⟨0, Nat.zero_le _, rfl, rfl, rfl⟩ ?_
  rintro m t h ⟨i, hi, rfl, rfl, rfl⟩
  cases hlt : decide ((i : Int) < ((tyRows a.l).length : Nat)) with
  | false =>
    have hil : i = a.l.length := by simp at hlt; omega
    subst hil
    have e1 : deepL (a.l.take a.l.length) + 1 = a.deep := by rw [List.take_length]; omega
    refine zQ ?_;refine zV lac ?_;refine zn ?_;refine zq ?_;refine zaF ?_;refine zex ?_;refine zQ ?_;refine zV laa ?_;refine zV laB ?_;refine zV lab ?_;refine zn ?_;refine zre ?_
    rw [e1]
    exact ret_same (.inr rfl) rfl zo
  | true =>
    have hil : i < a.l.length := by simp at hlt; omega
    have hr1 := tyRows_get hil
    have hm := deepL_mem (List.getElem_mem hil)
    have hs : max ((deepL (a.l.take i) : Nat) : Int) ((a.l[i].deep : Nat) : Int) = ((deepL (a.l.take (i + 1)) : Nat) : Int) := by rw [deepL_take hil]; omega
    refine zQ ?_;refine zV lac ?_;refine zn ?_;refine zq ?_;refine zaT ?_;refine zsk ?_;refine zq ?_;refine zbl ?_;refine zQ ?_;refine zV (lap _) ?_;refine zV lao ?_;refine zM lah ?_;refine zE laf ?_;refine zn ?_;refine zR ?_;refine zV laa ?_;refine zV lai ?_
    refine zV (lal (ih a.l[i] (List.getElem_mem _) (by omega)) rfl (by refine zC2 ?_;exact rfl)) ?_
    refine zV (loc_max2 (by exact rfl) (by exact rfl)) ?_
    rw [hs]
    refine zV lab ?_;refine zn ?_;refine zR ?_;refine zV laB ?_;refine zV laa ?_;refine zn ?_
    exact ⟨a.l.length - (i + 1), _, _, by omega, (gh_lit [(3, .one (.int .i64 ((deepL (a.l.take ((i + 1))) : Nat) : Int))), (7, .one (slOf 2 (tyRows a.l))), (8, .one (.int .i64 ((tyRows a.l).length : Nat))), (9, .one (.int .i64 (((i + 1) : Nat) : Int)))] [] [] [] ⟨(zw rfl zo), (by exact WkU.of_eq rfl zo), (zw rfl zo), (zw rfl zo), zo⟩ trivial zo zo rfl rfl ⟨zo, zo, zo, zo, zo⟩ trivial), i + 1, by omega, rfl, rfl, rfl⟩
set_option maxHeartbeats 1000000 in
theorem isType_a (a : Ty) (hd : a.deep ≤ 1048576) : ACalls Tryz.prog 77 [a.u] [] (.one (.bool (a.good 4))) [] := by
  have hr := isRight_a a
  rw [good_rd 4 a]
  refine acalls_of_body Tryz.func77 rfl (by kernel_rfl) (Nat.le_of_ble_eq_true rfl) zo (by simp [namesL]) ?_
  refine zQ ?_;refine zM lan ?_;refine zV lab ?_;refine zn ?_;refine zQ ?_;refine zV lai ?_
  refine zV (lal hr rfl (by refine zC2 ?_;exact rfl)) ?_
  cases h1 : a.right with
  | false =>
    refine zV laa ?_;refine zs ?_;refine zs ?_;refine zs ?_;refine zV lax ?_;refine zV lab ?_;refine zn ?_;refine zre ?_
    exact ret_same (.inr rfl) rfl zo
  | true =>
    refine zV laa ?_;refine zI lai ?_
    refine zI (lal (deepOf_a a hd) rfl (by refine zC2 ?_;exact rfl)) ?_
    refine zI lac ?_;refine zV laA ?_;refine zV lab ?_;refine zn ?_;refine zre ?_
    rw [show decide (((a.deep : Nat) : Int) < 5) = (true && decide (a.deep ≤ 4)) by rw [Bool.true_and]; exact decide_eq_decide.2 (by omega)]
    exact ret_same (.inr rfl) rfl zo
set_option maxHeartbeats 2000000 in
theorem copyT_a : ∀ a : Ty, Thin a → ACalls Tryz.prog 18 [a.u] [] a.u [] := by
  intro a
  induction a using Ty.ind' with
  | h a ih =>
  intro hthin
  have hthl := hthin.len'
  have hL := tyRows_length a.l
  refine acalls_of_body Tryz.func18 rfl (by kernel_rfl) (Nat.le_of_ble_eq_true rfl) zo (by simp [namesL]) ?_
  refine zQ ?_;refine zM lan ?_;refine zM lah ?_;refine zn ?_;refine zQ ?_;refine zV lad ?_;refine zV lae ?_;refine zV lab ?_;refine zn ?_;refine zQ ?_;refine zV lad ?_;refine zE lav ?_;refine zn ?_;refine zq ?_;refine zQ ?_;refine zV laa ?_;refine zV lay ?_;refine zV laa ?_;refine zn ?_;refine zbl ?_
  refine AW.gh (gh_lit [(1, .one (.ptr 1 0)), (2, .one (.ptr 2 0)), (9, .one (slOf 2 (tyRows a.l))), (10, .one (.int .i64 ((tyRows a.l).length : Nat))), (11, .one (.int .i64 ((0 : Nat) : Int)))] [(1, .obj [.int .i64 a.k, .own 105 (0) (0)]), (2, .obj [.int .i64 0, .nilsl]), (105, .row 24 2 (0) ([]))] [] [105] ⟨(zw rfl zo), (zw rfl zo), (by exact WkU.of_eq rfl zo), (zw rfl zo), (zw rfl zo), zo⟩ ⟨(by (refine Or.inl ⟨_, rfl, ?_⟩; show All2 _ _ _;exact ⟨WkC.le (LeC.refl _), WkC.nil (List.mem_cons_self ..), zo⟩)), (by exact zb rfl), (by exact Or.inr ⟨rfl, List.mem_cons_self .., _, _, by decide, rfl⟩), zo⟩ trivial ⟨rfl, zo⟩ rfl rfl ⟨⟨_, rfl⟩, ⟨_, rfl⟩, zo, zo, zo, zo⟩ ⟨(by exact ⟨zo, ⟨_, _, _, _, rfl, Nat.le_refl _⟩, zo⟩), (by exact ⟨zo, zo, zo⟩), (okRows_closed (by exact rfl)), zo⟩) ?_
  refine AW.lenSl 9 rfl fun hmax => ?_
  refine AW.loop (fun m t h => ∃ i : Nat, i ≤ a.l.length ∧ m = a.l.length - i ∧ t = tOfL [(1, .one (.ptr 1 0)), (2, .one (.ptr 2 0)), (9, .one (slOf 2 (tyRows a.l))), (10, .one (.int .i64 ((tyRows a.l).length : Nat))), (11, .one (.int .i64 ((i : Nat) : Int)))] ∧ h = ofL [(1, .obj [.int .i64 a.k, .own 105 (i) (i)]), (2, .obj [.int .i64 0, .nilsl]), (105, .row 24 2 (i) (tyRows (a.l.take (i))))]) a.l.length ⟨0, Nat.zero_le _, rfl, rfl, rfl⟩ ?_
  rintro m t h ⟨i, hi, rfl, rfl, rfl⟩
  have htk : (tyRows (a.l.take i)).length = i := by rw [tyRows_length, List.length_take]; omega
  cases hlt : decide ((i : Int) < ((tyRows a.l).length : Nat)) with
  | false =>
    have hil : i = a.l.length := by simp at hlt; omega
    refine zQ ?_;refine zV lac ?_;refine zn ?_;refine zq ?_;refine zaF ?_;refine zex ?_;refine zQ ?_;refine zV lai ?_;refine zE laf ?_;refine zn ?_;refine zre ?_
    refine rq ?_
    refine ret_cell (by exact .inr rfl) (by exact rfl) (by exact rfl) (by exact rfl) [105] (by exact ⟨⟨_, rfl, closed_tyRows _⟩, zo⟩) (l' := a.c) (by exact ⟨.le (.refl _), .row (List.mem_cons_self ..) rfl htk (by rw [hil, List.take_length];exact LeRows.refl _), zo⟩) (by exact ⟨zo, zo, zo⟩) (by exact rfl)
  | true =>
    have hil : i < a.l.length := by simp at hlt; omega
    have hr1 := tyRows_get hil
    refine zQ ?_;refine zV lac ?_;refine zn ?_;refine zq ?_;refine zaT ?_;refine zsk ?_;refine zq ?_;refine zbl ?_;refine zQ ?_;refine zV (lap _) ?_;refine zV lao ?_;refine zM lah ?_;refine zE laf ?_;refine zn ?_;refine zRD ?_;refine zV lad ?_;refine zV lae ?_;refine zV lai ?_
    refine zV (lal (ih a.l[i] (List.getElem_mem _) (hthin.part' _ (List.getElem_mem _))) rfl (by refine zC2 ?_;exact rfl)) ?_
    refine zV laF ?_
    refine zM (laK (by exact rfl) (by exact rfl) (by exact rfl) (by exact .inl rfl) (by exact htk) (by exact ⟨rfl, zo⟩) (by simp only [List.length_cons, List.length_nil]; omega)) ?_
    have hrows : tyRows (a.l.take i) ++ [a.l[i].c] = tyRows (a.l.take (i + 1)) := by
      rw [List.take_add_one, List.getElem?_eq_getElem hil, Option.toList_some, tyRows_append]; simp [tyRows, Ty.cells_c]
    rw [hrows]
    refine zV lad ?_;refine zE lav ?_;refine znD ?_;refine zR ?_;refine zV laB ?_;refine zV laa ?_;refine zn ?_
    exact ⟨a.l.length - (i + 1), _, _, by omega, (gh_lit [(1, .one (.ptr 1 0)), (2, .one (.ptr 2 0)), (9, .one (slOf 2 (tyRows a.l))), (10, .one (.int .i64 ((tyRows a.l).length : Nat))), (11, .one (.int .i64 (((i + 1) : Nat) : Int)))] [(1, .obj [.int .i64 a.k, .own 105 ((i + 1)) ((i + 1))]), (2, .obj [.int .i64 0, .nilsl]), (105, .row 24 2 ((i + 1)) (tyRows (a.l.take (i + 1))))] [] [] ⟨(zw rfl zo), (zw rfl zo), (by exact WkU.of_eq rfl zo), (zw rfl zo), (zw rfl zo), zo⟩ ⟨(by exact zb rfl), (by exact zb rfl), (by exact zb rfl), zo⟩ trivial zo rfl rfl ⟨⟨_, rfl⟩, ⟨_, rfl⟩, zo, zo, zo, zo⟩ ⟨(by exact ⟨zo, ⟨_, _, _, _, rfl, Nat.le_refl _⟩, zo⟩), (by exact ⟨zo, zo, zo⟩), (okRows_closed (by exact closed_tyRows _)), zo⟩), i + 1, by omega, rfl, rfl, rfl⟩
theorem mul_zero_iff (x y : Int) : (x * y == 0) = (x == 0 || y == 0) := by
  rw [Bool.eq_iff_iff]; simp [Int.mul_eq_zero]
end Go.Proofs.YtnflnbdlgdjfmabGreatDoor
namespace Go.Proofs.YtnflnbdlgdjfmabGreatDoor
open Go.RowKit
set_option linter.unusedVariables false
set_option linter.unusedSimpArgs false
set_option maxRecDepth 100000
attribute [local irreducible] RunL AW LocOp ACalls Gh
set_option maxHeartbeats 1000000 in
theorem fun_a (a b : Ty) : ACalls Tryz.prog 69 [a.u, b.u] [] (.to a b : Ty).u [] := by
  refine acalls_of_body Tryz.func69 rfl (by kernel_rfl) (Nat.le_of_ble_eq_true rfl) zo (by simp [namesL]) ?_
  refine zQ ?_;refine zM lan ?_;refine zM lan ?_;refine zM lah ?_;refine zn ?_;refine zQ ?_;refine zV lai ?_;refine zV lai ?_;refine zV (laF (by exact rfl) (by exact rfl) (by decide) (by decide) (by exact RowsOf.cons (by exact rfl) (RowsOf.cons (by exact rfl) RowsOf.nil)) (by exact AllP.cons (by exact rfl) (AllP.cons (by exact rfl) AllP.nil))) ?_;refine zV laq ?_;refine zE laf ?_;refine zn ?_;refine zre ?_
  refine rq ?_
  refine ret_cell (by exact .inr rfl) (by exact rfl) (by exact rfl) (by exact rfl) [] trivial (l' := [.int .i64 3, slOf 2 (tyRows [a, b])]) (by exact ⟨.le (.refl _), .le (LeC.slF (by simp only [tyRows, Ty.cells_c];exact LeRows.refl _)), zo⟩) (by exact ⟨zo, zo, zo⟩) (by exact rfl)
set_option maxHeartbeats 2000000 in
theorem fitsOf_a : ∀ a b : Ty, a.right = true → b.right = true → ACalls Tryz.prog 67 [a.u, b.u] [] (.one (.bool (a.fits b))) [] := by
  intro a
  induction a using Ty.ind' with
  | h a ih =>
  intro b ha hb
  have hL := tyRows_length a.l
  have hM := tyRows_length b.l
  have hka := ((right_iff a).1 ha).kle
  have hkb := ((right_iff b).1 hb).kle
  have hmul : -9223372036854775808 ≤ a.k * b.k ∧ a.k * b.k ≤ 9223372036854775807 := by
    have h1 : 0 ≤ a.k * b.k := Int.mul_nonneg hka.1 hkb.1
    have h2 : a.k * b.k ≤ 3 * 3 := Int.mul_le_mul hka.2 hkb.2 hkb.1 (by decide)
    omega
  have hw : IntKind.i64.wrap (a.k * b.k) = a.k * b.k := wrap_in hmul.1 hmul.2
  refine acalls_of_body Tryz.func67 rfl (by kernel_rfl) (Nat.le_of_ble_eq_true rfl) zo (by simp [namesL]) ?_
  cases hz : (IntKind.i64.wrap (a.k * b.k) == 0) with
  | true =>
    refine zQ ?_;refine zM lan ?_;refine zM lan ?_;refine zV lab ?_;refine zn ?_;refine zq ?_;refine zQ ?_;refine zV lad ?_;refine zV lae ?_;refine zV lad ?_;refine zV lae ?_;refine zV lac ?_;refine zV lac ?_;refine zn ?_;refine zaT ?_;refine zQ ?_;refine zV lab ?_;refine zn ?_;refine zre ?_
    rw [show a.fits b = true by rw [hw, mul_zero_iff] at hz; rw [fits_eta, hz]; rfl]
    exact ret_same (.inr rfl) rfl zo
  | false =>
  have hz' : (a.k == 0 || b.k == 0) = false := by rw [← mul_zero_iff, ← hw]; exact hz
  refine zq ?_
  refine zR ?_
  refine zM lan ?_;refine zM lan ?_;refine zV lab ?_;refine zn ?_
  refine zq ?_
  refine zq ?_
  refine zR ?_
  refine zV lad ?_;refine zV lae ?_;refine zV lad ?_;refine zV lae ?_;refine zV lac ?_;refine zV lac ?_;refine zn ?_
  refine zaF ?_
  refine zsk ?_
  refine zq ?_
  refine AW.midC (fun t h => t = tOfL [(2, .one (.ptr 2 0)), (3, .one (.ptr 3 0)), (5, .one (.bool (a.k == b.k && (((tyRows a.l).length : Nat) : Int) == ((tyRows b.l).length : Nat))))] ∧ h = ofL [(2, .obj a.c), (3, .obj b.c)]) ?_ ?_
  · cases h1 : (a.k == b.k) with
    | true =>
      refine zR ?_;refine zV lad ?_;refine zV lae ?_;refine zV lad ?_;refine zV lae ?_;refine zV lac ?_;refine zV laa ?_;refine zT lad ?_;refine zT lae ?_;refine zT lay ?_;refine zT lad ?_;refine zT lae ?_;refine zT lay ?_;refine zT lac ?_;refine zV (lam true) ?_;refine zV lab ?_;refine zn ?_
      exact ⟨_, _, (gh_lit [(2, .one (.ptr 2 0)), (3, .one (.ptr 3 0)), (5, .one (.bool ((((tyRows a.l).length : Nat) : Int) == ((tyRows b.l).length : Nat))))] [(2, .obj a.c), (3, .obj b.c)] [] [] ⟨(zw rfl zo), (zw rfl zo), (zw rfl zo), zo⟩ ⟨(by exact zb rfl), (by exact zb rfl), zo⟩ trivial zo rfl rfl ⟨⟨_, rfl⟩, ⟨_, rfl⟩, zo, zo⟩ ⟨(by exact ⟨zo, zo, zo⟩), (by exact ⟨zo, zo, zo⟩), zo⟩), by simp, rfl⟩
    | false =>
      refine zR ?_;refine zV lad ?_;refine zV lae ?_;refine zV lad ?_;refine zV lae ?_;refine zV lac ?_;refine zV laa ?_;refine zf ?_;refine zf ?_;refine zf ?_;refine zf ?_;refine zf ?_;refine zf ?_;refine zf ?_;refine zV (lam false) ?_;refine zV lab ?_;refine zn ?_
      exact ⟨_, _, (gh_lit [(2, .one (.ptr 2 0)), (3, .one (.ptr 3 0)), (5, .one (.bool false))] [(2, .obj a.c), (3, .obj b.c)] [] [] ⟨(zw rfl zo), (zw rfl zo), (zw rfl zo), zo⟩ ⟨(by exact zb rfl), (by exact zb rfl), zo⟩ trivial zo rfl rfl ⟨⟨_, rfl⟩, ⟨_, rfl⟩, zo, zo⟩ ⟨(by exact ⟨zo, zo, zo⟩), (by exact ⟨zo, zo, zo⟩), zo⟩), by simp, rfl⟩
  · rintro t h ⟨rfl, rfl⟩
    have h0 : a.fits b = ((a.k == b.k && (((tyRows a.l).length : Nat) : Int) == ((tyRows b.l).length : Nat)) && fitsL (a.l.drop 0) (b.l.drop 0)) := by
      rw [fits_eta, hz', hL, hM, List.drop_zero, List.drop_zero]
      by_cases hl : a.l.length = b.l.length
      · simp [hl]
      · simp [hl, fitsL_len hl]
    have hl : (a.k == b.k && (((tyRows a.l).length : Nat) : Int) == ((tyRows b.l).length : Nat)) = true → a.l.length = b.l.length := by
      intro h; rw [hL, hM, Bool.and_eq_true] at h; have := h.2; simp at this; omega
    generalize (a.k == b.k && (((tyRows a.l).length : Nat) : Int) == ((tyRows b.l).length : Nat)) = ok0 at *
    refine zq ?_;refine zQ ?_;refine zV lab ?_;refine zn ?_;refine zbl ?_
    refine AW.gh (gh_lit [(2, .one (.ptr 2 0)), (3, .one (.ptr 3 0)), (5, .one (.bool (ok0))), (6, .one (.int .i64 ((0 : Nat) : Int)))] [(2, .obj a.c), (3, .obj b.c)] [] [] ⟨(zw rfl zo), (zw rfl zo), (zw rfl zo), (zw rfl zo), zo⟩ ⟨(by exact zb rfl), (by exact zb rfl), zo⟩ trivial zo rfl rfl ⟨⟨_, rfl⟩, ⟨_, rfl⟩, zo, zo, zo⟩ ⟨(by exact ⟨zo, zo, zo⟩), (by exact ⟨zo, zo, zo⟩), zo⟩) ?_
    refine AW.lenBlk 2 1 rfl rfl fun hmax => ?_
    refine AW.loop (fun m t h => ∃ i : Nat, ∃ ok : Bool, i ≤ a.l.length ∧ m = a.l.length - i ∧ (ok = true → a.l.length = b.l.length) ∧ a.fits b = (ok && fitsL (a.l.drop i) (b.l.drop i)) ∧ t = tOfL [(2, .one (.ptr 2 0)), (3, .one (.ptr 3 0)), (5, .one (.bool (ok))), (6, .one (.int .i64 ((i : Nat) : Int)))] ∧ h = ofL [(2, .obj a.c), (3, .obj b.c)]) a.l.length ⟨0, ok0, Nat.zero_le _, rfl, hl, h0, rfl, rfl⟩ ?_
    rintro m t h ⟨i, ok, hi, rfl, hlen, hinv, rfl, rfl⟩
    clear hl h0
    cases ok with
    | false =>
      refine zq ?_;refine zQ ?_;refine zV laa ?_;refine zV laa ?_;refine zs ?_;refine zs ?_;refine zs ?_;refine zs ?_;refine zs ?_;refine zV lax ?_;refine zn ?_;refine zcF ?_;refine zex ?_;refine zQ ?_;refine zV laa ?_;refine zV lab ?_;refine zn ?_;refine zre ?_
      rw [hinv]
      exact ret_same (.inr rfl) rfl zo
    | true =>
    have hlen := hlen rfl
    cases hlt : decide ((i : Int) < ((tyRows a.l).length : Nat)) with
    | false =>
      have hil : i = a.l.length := by simp at hlt; omega
      refine zq ?_;refine zQ ?_;refine zV laa ?_;refine zV laa ?_;refine zI laa ?_;refine zI lad ?_;refine zI lae ?_;refine zI lay ?_;refine zI lac ?_;refine zV laA ?_;refine zn ?_;refine zaF ?_;refine zex ?_;refine zQ ?_;refine zV laa ?_;refine zV lab ?_;refine zn ?_;refine zre ?_
      rw [hinv, hil, show fitsL (a.l.drop a.l.length) (b.l.drop a.l.length) = true by rw [List.drop_length, hlen, List.drop_length]; rfl]
      exact ret_same (.inr rfl) rfl zo
    | true =>
      have hil : i < a.l.length := by simp at hlt; omega
      have hilb : i < b.l.length := by omega
      have hr1 := tyRows_get hil
      have hr2 := tyRows_get hilb
      have hs := fitsL_drop hil hilb
      refine zq ?_;refine zQ ?_;refine zV laa ?_;refine zV laa ?_;refine zI laa ?_;refine zI lad ?_;refine zI lae ?_;refine zI lay ?_;refine zI lac ?_;refine zV laA ?_;refine zn ?_;refine zaT ?_;refine zsk ?_;refine zq ?_;refine zbl ?_;refine zRD ?_;refine zV lad ?_;refine zV lae ?_;refine zV laa ?_;refine zV (lap _) ?_;refine zV lao ?_;refine zV lad ?_;refine zV lae ?_;refine zV laa ?_;refine zV (lap _) ?_;refine zV lao ?_
      refine zV (lal (ih a.l[i] (List.getElem_mem _) b.l[i] (right_mem ha (List.getElem_mem _)) (right_mem hb (List.getElem_mem _))) rfl (by refine zC2 ?_;refine zC2 ?_;exact rfl)) ?_
      refine zV lab ?_;refine znD ?_;refine zR ?_;refine zV laa ?_;refine zV laB ?_;refine zV lab ?_;refine zn ?_
      exact ⟨a.l.length - (i + 1), _, _, by omega, (gh_lit [(2, .one (.ptr 2 0)), (3, .one (.ptr 3 0)), (5, .one (.bool (a.l[i].fits b.l[i]))), (6, .one (.int .i64 (((i + 1) : Nat) : Int)))] [(2, .obj a.c), (3, .obj b.c)] [] [] ⟨(zw rfl zo), (zw rfl zo), (zw rfl zo), (zw rfl zo), zo⟩ ⟨(by exact zb rfl), (by exact zb rfl), zo⟩ trivial zo rfl rfl ⟨⟨_, rfl⟩, ⟨_, rfl⟩, zo, zo, zo⟩ ⟨(by exact ⟨zo, zo, zo⟩), (by exact ⟨zo, zo, zo⟩), zo⟩), i + 1, _, by omega, rfl, fun _ => hlen, by rw [hinv, hs]; rfl, rfl, rfl⟩
set_option maxHeartbeats 4000000 in
theorem joinOf_a : ∀ a b : Ty, a.right = true → b.right = true → ACalls Tryz.prog 68 [a.u, b.u] [] (a.join b).u [] := by
  intro a
  induction a using Ty.ind' with
  | h a ih =>
  intro b ha hb
  refine acalls_of_body Tryz.func68 rfl (by kernel_rfl) (Nat.le_of_ble_eq_true rfl) zo (by simp [namesL]) ?_
  rcases right_cases ha with ⟨k, rfl, k0, k2⟩ | ⟨p, q, rfl, hp, hq⟩ <;> rcases right_cases hb with ⟨k', rfl, k0', k2'⟩ | ⟨p', q', rfl, hp', hq'⟩
  · cases hk : (k != k') with
    | true =>
      rw [show (Ty.mk k []).join (.mk k' []) = .any by simp at hk; simp [Ty.join, hk, Ty.any]]
      refine zQ ?_;refine zM lan ?_;refine zM lan ?_;refine zM lah ?_;refine zn ?_;refine zq ?_;refine zbl ?_;refine zQ ?_;refine zV lad ?_;refine zV lae ?_;refine zV lad ?_;refine zV lae ?_;refine zV lac ?_;refine zV laa ?_;refine zt ?_;refine zt ?_;refine zt ?_;refine zt ?_;refine zt ?_;refine zt ?_;refine zt ?_;refine zV (lam true) ?_;refine zV lab ?_;refine zn ?_;refine zcT ?_;refine zQ ?_
      refine zV (lal any0_a) ?_
      refine zE laf ?_;refine zn ?_;refine zre ?_
      refine rq ?_
      exact ret_cell (by exact .inr rfl) (by exact rfl) (by exact rfl) (by exact rfl) [] trivial (l' := Ty.any.c) (by exact ⟨.le (.refl _), .le (.refl _), zo⟩) (by exact ⟨zo, zo, zo⟩) (by exact rfl)
    | false =>
      rw [show (Ty.mk k []).join (.mk k' []) = .mk k [] by simp at hk; simp [Ty.join, hk, joinL]]
      refine zQ ?_;refine zM lan ?_;refine zM lan ?_;refine zM lah ?_;refine zn ?_;refine zq ?_;refine zbl ?_;refine zQ ?_;refine zV lad ?_;refine zV lae ?_;refine zV lad ?_;refine zV lae ?_;refine zV lac ?_;refine zV laa ?_;refine zF lad ?_;refine zF lae ?_;refine zF lay ?_;refine zF lad ?_;refine zF lae ?_;refine zF lay ?_;refine zF lac ?_;refine zV (lam false) ?_;refine zV lab ?_;refine zn ?_;refine zcF ?_;refine zQ ?_;refine zV lad ?_;refine zV lae ?_;refine zV lay ?_;refine zV lac ?_;refine zV lab ?_;refine zn ?_;refine zcF ?_;refine zsk ?_;refine zQ ?_;refine zV lad ?_;refine zV lae ?_;refine zV laq ?_;refine zE laf ?_;refine zn ?_;refine zre ?_
      refine rq ?_
      refine ret_cell (by exact .inr rfl) (by exact rfl) (by exact rfl) (by exact rfl) [] trivial (l' := (Ty.mk k []).c) (by exact ⟨.le (.refl _), .le (.nil _), zo⟩) (by exact ⟨zo, zo, zo⟩) (by exact rfl)
  · have hk : (k != 3) = true := by simp; omega
    rw [show (Ty.mk k []).join (.mk 3 [p', q']) = .any by simp [Ty.join, Ty.any]]
    refine zQ ?_;refine zM lan ?_;refine zM lan ?_;refine zM lah ?_;refine zn ?_;refine zq ?_;refine zbl ?_;refine zQ ?_;refine zV lad ?_;refine zV lae ?_;refine zV lad ?_;refine zV lae ?_;refine zV lac ?_;refine zV laa ?_;refine zt ?_;refine zt ?_;refine zt ?_;refine zt ?_;refine zt ?_;refine zt ?_;refine zt ?_;refine zV (lam true) ?_;refine zV lab ?_;refine zn ?_;refine zcT ?_;refine zQ ?_
    refine zV (lal any0_a) ?_
    refine zE laf ?_;refine zn ?_;refine zre ?_
    refine rq ?_
    exact ret_cell (by exact .inr rfl) (by exact rfl) (by exact rfl) (by exact rfl) [] trivial (l' := Ty.any.c) (by exact ⟨.le (.refl _), .le (.refl _), zo⟩) (by exact ⟨zo, zo, zo⟩) (by exact rfl)
  · have hk : (3 != k') = true := by simp; omega
    rw [show (Ty.mk 3 [p, q]).join (.mk k' []) = .any by simp [Ty.join, Ty.any]]
    refine zQ ?_;refine zM lan ?_;refine zM lan ?_;refine zM lah ?_;refine zn ?_;refine zq ?_;refine zbl ?_;refine zQ ?_;refine zV lad ?_;refine zV lae ?_;refine zV lad ?_;refine zV lae ?_;refine zV lac ?_;refine zV laa ?_;refine zt ?_;refine zt ?_;refine zt ?_;refine zt ?_;refine zt ?_;refine zt ?_;refine zt ?_;refine zV (lam true) ?_;refine zV lab ?_;refine zn ?_;refine zcT ?_;refine zQ ?_
    refine zV (lal any0_a) ?_
    refine zE laf ?_;refine zn ?_;refine zre ?_
    refine rq ?_
    exact ret_cell (by exact .inr rfl) (by exact rfl) (by exact rfl) (by exact rfl) [] trivial (l' := Ty.any.c) (by exact ⟨.le (.refl _), .le (.refl _), zo⟩) (by exact ⟨zo, zo, zo⟩) (by exact rfl)
  · rw [show (Ty.mk 3 [p, q]).join (.mk 3 [p', q']) = .mk 3 [p.join p', q.join q'] by simp [Ty.join, joinL]]
    have r1 : (tyRows (Ty.mk 3 [p, q]).l)[0]? = some p.c := tyRows_get (l := [p, q]) (i := 0) (by simp)
    have r2 : (tyRows (Ty.mk 3 [p, q]).l)[1]? = some q.c := tyRows_get (l := [p, q]) (i := 1) (by simp)
    have r3 : (tyRows (Ty.mk 3 [p', q']).l)[0]? = some p'.c := tyRows_get (l := [p', q']) (i := 0) (by simp)
    have r4 : (tyRows (Ty.mk 3 [p', q']).l)[1]? = some q'.c := tyRows_get (l := [p', q']) (i := 1) (by simp)
    refine zQ ?_;refine zM lan ?_;refine zM lan ?_;refine zM lah ?_;refine zn ?_;refine zq ?_;refine zbl ?_;refine zQ ?_;refine zV lad ?_;refine zV lae ?_;refine zV lad ?_;refine zV lae ?_;refine zV lac ?_;refine zV laa ?_;refine zI lad ?_;refine zI lae ?_;refine zI lay ?_;refine zI lad ?_;refine zI lae ?_;refine zI lay ?_;refine zI lac ?_;refine zV lax ?_;refine zV lab ?_;refine zn ?_;refine zcF ?_;refine zQ ?_;refine zV lad ?_;refine zV lae ?_;refine zV lay ?_;refine zV lac ?_;refine zV lab ?_;refine zn ?_;refine zcT ?_;refine zq ?_;refine zRD ?_;refine zV lad ?_;refine zV lae ?_;refine zV lad ?_;refine zV lae ?_;refine zV (lap _) ?_;refine zV lao ?_;refine zV lad ?_;refine zV lae ?_;refine zV (lap _) ?_;refine zV lao ?_
    refine zV (lal (ih p (by simp) p' hp hp') rfl (by refine zC2 ?_;refine zC2 ?_;exact rfl)) ?_
    refine zV lad ?_;refine zV lae ?_;refine zV (lap _) ?_;refine zV lao ?_;refine zV lad ?_;refine zV lae ?_;refine zV (lap _) ?_;refine zV lao ?_
    refine zV (lal (ih q (by simp) q' hq hq') rfl (by refine zC2 ?_;refine zC2 ?_;exact rfl)) ?_
    refine zV (laF (by exact rfl) (by exact rfl) (by decide) (by decide) (by exact RowsOf.cons (by exact rfl) (RowsOf.cons (by exact rfl) RowsOf.nil)) (by exact AllP.cons (by exact rfl) (AllP.cons (by exact rfl) AllP.nil))) ?_;refine zV laq ?_;refine zE laf ?_;refine znD ?_;refine zre ?_
    refine rq ?_
    refine ret_cell (by exact .inr rfl) (by exact rfl) (by exact rfl) (by exact rfl) [] trivial (l' := (Ty.mk 3 [p.join p', q.join q']).c) (by exact ⟨.le (.refl _), .le (LeC.slF (by simp only [Ty.l_mk, tyRows, Ty.cells_c];exact LeRows.refl _)), zo⟩) (by exact ⟨zo, zo, zo⟩) (by exact rfl)
end Go.Proofs.YtnflnbdlgdjfmabGreatDoor
namespace Go.Proofs.YtnflnbdlgdjfmabGreatDoor
open Go.RowKit
set_option linter.unusedVariables false
set_option linter.unusedSimpArgs false
set_option maxRecDepth 100000
attribute [local irreducible] RunL AW LocOp ACalls Gh
set_option maxHeartbeats 1000000 in
theorem groundOf_a (a : Ty) : ACalls Tryz.prog 107 [a.u] [] a.ground.u [] := by
  refine acalls_of_body Tryz.func107 rfl (by kernel_rfl) (Nat.le_of_ble_eq_true rfl) zo (by simp [namesL]) ?_
  cases hk : (a.k == 3) with
  | true =>
    refine zQ ?_;refine zM lan ?_;refine zM lah ?_;refine zn ?_;refine zq ?_;refine zQ ?_;refine zV lad ?_;refine zV lae ?_;refine zV lac ?_;refine zn ?_;refine zaT ?_;refine zQ ?_
    refine zV (lal any0_a) ?_
    refine zV (lal any0_a) ?_
    refine zV (lal (fun_a .any .any) rfl (by refine zC2 ?_;refine zC2 ?_;exact rfl)) ?_
    refine zE laf ?_;refine zn ?_;refine zre ?_
    rw [show a.ground = .to .any .any by unfold Ty.ground; rw [hk]; rfl]
    refine rq ?_
    refine ret_cell (by exact .inr rfl) (by exact rfl) (by exact rfl) (by exact rfl) [] trivial (l' := (.to .any .any : Ty).c) (by exact ⟨.le (.refl _), .le (.refl _), zo⟩) (by exact ⟨zo, zo, zo⟩) (by exact rfl)
  | false =>
    refine zQ ?_;refine zM lan ?_;refine zM lah ?_;refine zn ?_;refine zq ?_;refine zQ ?_;refine zV lad ?_;refine zV lae ?_;refine zV lac ?_;refine zn ?_;refine zaF ?_;refine zsk ?_;refine zQ ?_;refine zV lad ?_;refine zV lae ?_;refine zV laq ?_;refine zE laf ?_;refine zn ?_;refine zre ?_
    rw [show a.ground = .mk a.k [] by unfold Ty.ground; rw [hk]; rfl]
    refine rq ?_
    refine ret_cell (by exact .inr rfl) (by exact rfl) (by exact rfl) (by exact rfl) [] trivial (l' := (Ty.mk a.k []).c) (by exact ⟨.le (.refl _), .le (.nil _), zo⟩) (by exact ⟨zo, zo, zo⟩) (by exact rfl)
end Go.Proofs.YtnflnbdlgdjfmabGreatDoor
namespace Go.Proofs.YtnflnbdlgdjfmabGreatDoor
open Go.RowKit
set_option linter.unusedVariables false
set_option linter.unusedSimpArgs false
section ops
variable {P : Program} {s : St} {dst : Option Tmp} {rt : TypeId} {pos : String} {after : Array Edge} {guard : Option (Nat × Bool)}
theorem loc_appendNone {t e : TypeId} {k bytes : Nat} {x y : Operand} {rows : List (List C)} {c c0 : C} [T : TElem P t e k bytes] (hx' : opU s.t x = .one c0) (hy' : opU s.t y = .one c) (hc0 : SrcC k rows c0) (hsrc : SrcC k [] c) (hk0 : ∀ r ∈ rows, r.length = k) :
    LocOp P ⟨dst, .call ⟨.builtin .append, #[x, y], #[t, t]⟩, rt, pos, after, guard⟩ s [] [] (.one c0) :=
  laD fun F ρ h w ev H hx => by
    have h1 := hx x (by simp [Op.operands, Call.operands])
    have h2 := (hx y (by simp [Op.operands, Call.operands])).1
    rw [hx'] at h1
    rw [hy'] at h2
    obtain ⟨h1, ho⟩ := h1
    obtain ⟨i, z, t1, t2, t3, t4, t5, t6, t7⟩ := T.spec
    obtain ⟨nv, hs, hnl, _⟩ := src_of (P := P) T hsrc (fun r hr => by cases hr) h2
    obtain ⟨ov, _, _, ⟨a, cap, hv, hle⟩, _⟩ := src_of (P := P) T hc0 hk0 h1
    have hnv : nv = [] := List.eq_nil_of_length_eq_zero (by rw [hnl]; simp)
    subst hnv
    exact ⟨ev x, exec_append rfl (by rw [hv]; exact run_append_nothing w t t rt e i t1 t2 a rows.length cap hle _ (by rw [t3]; exact hs)), h1, ho⟩
theorem loc_buildOwn {t e : TypeId} {len k bytes : Nat} {parts : Array (Nat × Operand)} {rows : List (List C)} (nm : Nat) [T : TElem P t e k bytes] (hparts : parts.toList = ((parts.toList.map (·.2)).zipIdx 0).map fun x => (x.2, x.1)) (hlen : (parts.toList.map (·.2)).length = len) (h0 : 0 < len) (hsmall : len * k ≤ 16777216)
    (hrows : RowsOf ((parts.toList.map (·.2)).map (opU s.t)) rows) (hk : AllP (fun l => l.length = k) rows) (hcl : closedRows rows = true) (hn : s.h nm = none) (hd : (s.d.contains nm) = false) :
    LocOp P ⟨dst, .buildSlice t len parts, rt, pos, after, guard⟩ s [] [(nm, some (.row e k 0 rows))] (.one (.own nm 0 len)) := by
  generalize hxs : parts.toList.map (·.2) = xs at hparts hlen hrows
  generalize hus : xs.map (opU s.t) = us at hrows
  have hrows := hrows.rows
  have hk := allP_iff.1 hk
  intro F ρ h w a Q H hR hx
  have hn : h nm = none := (hR nm (.inr (by simp [namesP]))).trans hn
  have hx := opU_rel H hx
  obtain ⟨i, z, t1, t2, t3, t4, t5, t6, t7⟩ := T.spec
  obtain ⟨r1, r2⟩ := rowsU_get hrows
  have hmem : ∀ x ∈ xs, x ∈ (⟨dst, .buildSlice t len parts, rt, pos, after, guard⟩ : Oper).op.operands := fun x hxm => by
    obtain ⟨j, hj, hje⟩ := List.getElem_of_mem hxm
    have h1 : (j, x) ∈ parts.toList := by
      rw [hparts]
      refine List.mem_map.2 ⟨(x, j), ?_, rfl⟩
      rw [List.mem_zipIdx_iff_getElem?]
      simp [hj, hje]
    show x ∈ ((parts.toList.map (·.2)).toArray : Array Operand)
    rw [List.mem_toArray]
    exact List.mem_map.2 ⟨(j, x), h1, rfl⟩
  have hval : ∀ (j : Nat) x, xs[j]? = some x → ∃ l, rows[j]? = some l ∧ All2 (relC F ρ w) l (a.eval x).cells.toList ∧ (∀ c ∈ l, okC h c) ∧ l.length = k := fun j x hjx => by
    have hu : us[j]? = some (opU s.t x) := by rw [← hus]; simp [hjx]
    obtain ⟨l, h1, h2⟩ := r2 j _ hu
    have hr := hx x (hmem x (List.mem_of_getElem? hjx))
    obtain ⟨vs, hvs, hall, hokl⟩ := cellsU_rel h2 hr.1 hr.2
    exact ⟨l, h1, by rw [hvs]; exact hall, hokl, hk l (List.mem_of_getElem? h1)⟩
  let vs := xs.map a.eval
  have hvk : ∀ v ∈ vs, v.cells.toList.length = k := fun v hv => by
    obtain ⟨x, hxm, rfl⟩ := List.mem_map.1 hv
    obtain ⟨j, hj, hje⟩ := List.getElem_of_mem hxm
    obtain ⟨l, _, h2, _, h3⟩ := hval j x (by rw [List.getElem?_eq_getElem hj, hje])
    rw [← h2.length, h3]
  have hlk : len * i.size = len * k := by rw [t3]
  obtain ⟨cs', g1, g2, _, g4⟩ := fill_rows k vs 0 ((Array.range (len * i.size)).map (z.cells[· % z.cells.size]!)) hvk (by simp [vs, hlen, hlk])
  have hpv : (parts.map fun p => (p.1, a.eval p.2)).toList = (vs.zipIdx 0).map fun x => (x.2, x.1) := by
    rw [Array.toList_map, hparts, List.map_map, List.zipIdx_map, List.map_map]
    rfl
  have hrun := run_buildSlice (P := P) w t e len (parts.map fun p => (p.1, a.eval p.2)) cs' i z t1 t2 t6 (by rw [hlk]; omega) (by rw [hlk]; have := Nat.mul_pos h0 t5; omega) (by rw [hpv, t3]; rw [t3] at g1; exact g1)
  have hexec : (execOp a.eval (⟨dst, .buildSlice t len parts, rt, pos, after, guard⟩ : Oper)).run P w = .ok (.value (.slice (some ⟨w.heap.size, 0, none⟩) len len)) (w.alloc (.cells cs' e)) := by
    show (do pure (Next.value (← Instr.buildSlice t len (parts.map fun p => (p.1, a.eval p.2)))) : Sem Next).run P w = _
    rw [Sem.run_bind, hrun]
    rfl
  unfold Oper.wp
  rw [hexec]
  have hd' : nm ∉ s.d := by simpa using hd
  have hsz : (w.alloc (Obj.cells cs' e)).heap.size = w.heap.size + 1 := by simp
  have hrl : rows.length = len := by rw [r1, ← hus, List.length_map, hlen]
  have hlm : len ≤ maxLen := by have : len ≤ len * k := Nat.le_mul_of_pos_right _ t5; unfold maxLen; omega
  have hcs : cs'.size = len * k := by rw [g2]; simp [hlk]
  refine ⟨_, F, upd ρ nm ⟨some w.heap.size, len, 0⟩, rfl, moves_patch H nm _ (fun c hc => upd_ne _ _ hc) (.inl ⟨hn, hd'⟩) (fun _ h => h) (fun _ h => .inl h) (fun k hk => by rw [hsz];exact Nat.lt_succ_of_lt (H.lt k hk)) (fun k hk _ => Below.heap_alloc w _ k hk) rfl rfl rfl (by rw [hsz]; omega) (fun hrel => ?_) (fun g hg => ?_) (fun g hg hf => ?_) (fun hokm => fun r hr c hc => ?_), ?_, ?_⟩
  · refine ⟨by rw [upd_same], t5, .inr ⟨w.heap.size, cs', by rw [upd_same], heap_alloc_new w _, by rw [upd_same]; exact hcs, by rw [upd_same, hrl]; exact Nat.le_refl _, by rw [upd_same]; exact hlm, fun q row hq => ?_⟩⟩
    have hql : q < rows.length := (List.getElem?_eq_some_iff.1 hq).1
    have hxq : xs[q]? = some xs[q] := by simp [hlen, ← hrl, hql]
    obtain ⟨l, h1, h2, h3, h4⟩ := hval q _ hxq
    obtain rfl : row = l := Option.some.inj (hq.symm.trans h1)
    refine ⟨h4, fun j c hc => ?_⟩
    have hj : j < k := by rw [← h4]; exact (List.getElem?_eq_some_iff.1 hc).1
    have hcell := g4 q (a.eval xs[q]) (by simp [vs, hlen, ← hrl, hql]) j hj
    obtain ⟨u, hu, hru⟩ := h2.get j c hc
    refine ⟨u, by rw [Nat.zero_add] at hcell; rw [hcell];exact hu, hrel c u (h3 c (List.mem_of_getElem? hc)) hru⟩
  · rw [upd_same] at hg; cases hg; exact .inr (Nat.le_refl _)
  · rw [upd_same] at hg; cases hg; exact absurd (H.lt _ hf) (Nat.lt_irrefl _)
  · exact hokm c (closed_okC (closedRows_mem hcl hr hc))
  · exact ⟨rfl, fun _ => .inr ⟨w.heap.size, by rw [upd_same], by rw [upd_same]⟩⟩
  · exact ⟨e, k, 0, _, upd_same .., Nat.le_refl _⟩
theorem loc_buildOwnD {t e : TypeId} {len k bytes : Nat} {parts : Array (Nat × Operand)} {rows : List (List C)} {x0 : Tmp} [T : TElem P t e k bytes] (hparts : parts.toList = ((parts.toList.map (·.2)).zipIdx 0).map fun x => (x.2, x.1)) (hlen : (parts.toList.map (·.2)).length = len) (h0 : 0 < len) (hsmall : len * k ≤ 16777216)
    (hrows : RowsOf ((parts.toList.map (·.2)).map (opU s.t)) rows) (hk : AllP (fun l => l.length = k) rows) (hcl : closedRows rows = true) (hn : s.h x0 = none) (hd : (s.d.contains x0) = false) :
    LocOp P ⟨some x0, .buildSlice t len parts, rt, pos, after, guard⟩ s [] [(x0, some (.row e k 0 rows))] (.one (.own x0 0 len)) := loc_buildOwn x0 hparts hlen h0 hsmall hrows hk hcl hn hd
end ops
end Go.Proofs.YtnflnbdlgdjfmabGreatDoor
namespace Go.Proofs.YtnflnbdlgdjfmabGreatDoor
open Go.RowKit
set_option linter.unusedVariables false
set_option linter.unusedSimpArgs false
set_option maxRecDepth 100000
attribute [local irreducible] RunL AW LocOp ACalls Gh
theorem closed_envC : ∀ env : List V, closedC (envC env) = true
  | [] => rfl
  | _ :: _ => rfl
theorem ok_envC {h : Nat → Option Blk} (env : List V) : okC h (envC env) := closed_okC (closed_envC env)
theorem stuck_a : ACalls Tryz.prog 100 [] [] (.tup [Out.stuck.u, .one (.bool true)]) [] := by
  refine acalls_of_body Tryz.func100 rfl (by kernel_rfl) (Nat.le_of_ble_eq_true rfl) zo (by simp [namesL]) ?_
  refine zQ ?_;refine zM lah ?_;refine zV lab ?_;refine zn ?_;refine zQ ?_;refine zV laq ?_;refine zE laf ?_;refine zV lab ?_;refine zn ?_;refine zre ?_
  refine rq ?_
  refine ret_ct (by exact .inr rfl) (by exact rfl) (by exact rfl) (by exact rfl) (by exact rfl) [] trivial (l' := Out.stuck.c) (by exact wkRow_refl _) (by exact .le (.refl _)) (by exact zo) (by exact rfl) (by exact ⟨⟨zo, zo, zo, zo⟩, zo, zo⟩) (by exact zo) (by exact rfl)
theorem goes_a : ACalls Tryz.prog 102 [] [] (.tup [Out.zero.u, .one (.bool false)]) [] := by
  refine acalls_of_body Tryz.func102 rfl (by kernel_rfl) (Nat.le_of_ble_eq_true rfl) zo (by simp [namesL]) ?_
  refine zQ ?_;refine zM lah ?_;refine zV lab ?_;refine zn ?_;refine zQ ?_;refine zV laq ?_;refine zE laf ?_;refine zV lab ?_;refine zn ?_;refine zre ?_
  refine rq ?_
  refine ret_ct (by exact .inr rfl) (by exact rfl) (by exact rfl) (by exact rfl) (by exact rfl) [] trivial (l' := Out.zero.c) (by exact wkRow_refl _) (by exact .le (.refl _)) (by exact zo) (by exact rfl) (by exact ⟨⟨zo, zo, zo, zo⟩, zo, zo⟩) (by exact zo) (by exact rfl)
def V.tags : V → Nat
  | .tag v _ => v.tags + 1
  | _ => 0
theorem seen_a (v : V) : ACalls Tryz.prog 65 [.one v.p] [] v.seen.u [] := by
  refine acalls_of_body Tryz.func65 rfl (by kernel_rfl) (Nat.le_of_ble_eq_true rfl) zo (by simp [namesL]) ?_
  refine zQ ?_;refine zM lah ?_;refine zn ?_;refine zq ?_;refine zbl ?_
  refine AW.gh (gh_lit [(0, .one v.p), (2, .one (.ptr 2 0))] [(2, .obj Out.zero.c)] [] [] ⟨(by exact WkU.of_eq rfl zo), (zw rfl zo), zo⟩ ⟨(by exact zb rfl), zo⟩ trivial zo rfl rfl ⟨zo, ⟨_, rfl⟩, zo⟩ ⟨(by exact ⟨zo, zo, zo, zo⟩), zo⟩) ?_
  refine AW.loop (fun m t h => ∃ u : V, u.seen = v.seen ∧ m = u.tags ∧ t = tOfL [(0, .one u.p), (2, .one (.ptr 2 0))] ∧ h = ofL [(2, .obj Out.zero.c)]) v.tags ⟨v, rfl, rfl, rfl, rfl⟩ ?_
  rintro m t h ⟨u, hu, rfl, rfl, rfl⟩
  cases u with
  | tag u g =>
    refine zq ?_;refine zQ ?_;refine zV laa ?_;refine zV lag ?_;refine zV lak ?_;refine zV laj ?_;refine zV lac ?_;refine zn ?_;refine zcT ?_;refine zsk ?_;refine zbl ?_;refine zR ?_;refine zV laa ?_;refine zV lag ?_;refine zV lak ?_;refine zV laj ?_;refine zV lab ?_;refine zn ?_
    exact ⟨u.tags, _, _, by simp [V.tags], (gh_lit [(0, .one u.p), (2, .one (.ptr 2 0))] [(2, .obj Out.zero.c)] [] [] ⟨(by exact WkU.of_eq rfl zo), (zw rfl zo), zo⟩ ⟨(by exact zb rfl), zo⟩ trivial zo rfl rfl ⟨zo, ⟨_, rfl⟩, zo⟩ ⟨(by exact ⟨zo, zo, zo, zo⟩), zo⟩), u, hu, rfl, rfl, rfl⟩
  | num n =>
    refine zq ?_;refine zQ ?_;refine zV laa ?_;refine zV lag ?_;refine zV lak ?_;refine zV laj ?_;refine zV lac ?_;refine zn ?_;refine zcF ?_;refine zex ?_;refine zq ?_;refine zQ ?_;refine zV laa ?_;refine zV lag ?_;refine zV lak ?_;refine zV laj ?_;refine zn ?_;refine zbl ?_;refine zq ?_;refine zQ ?_;refine zV lac ?_;refine zV lab ?_;refine zn ?_;refine zcT ?_;refine zsk ?_;refine zcT ?_;refine zq ?_;refine zRD ?_;refine zV laa ?_;refine zV lag ?_;refine zV lak ?_;refine zV laj ?_;refine zV laa ?_;refine zV lag ?_;refine zV lak ?_;refine zV laj ?_;refine zV laq ?_;refine zE laf ?_;refine znD ?_;refine zre ?_
    rw [← hu]
    refine rq ?_
    refine ret_cell (by exact .inr rfl) (by exact rfl) (by exact rfl) (by exact rfl) [] trivial (l' := (V.seen (.num n)).c) (by exact wkRow_refl _) (by exact ⟨zo, zo, zo, zo⟩) (by exact rfl)
  | tru n =>
    refine zq ?_;refine zQ ?_;refine zV laa ?_;refine zV lag ?_;refine zV lak ?_;refine zV laj ?_;refine zV lac ?_;refine zn ?_;refine zcF ?_;refine zex ?_;refine zq ?_;refine zQ ?_;refine zV laa ?_;refine zV lag ?_;refine zV lak ?_;refine zV laj ?_;refine zn ?_;refine zbl ?_;refine zq ?_;refine zQ ?_;refine zV lac ?_;refine zV lab ?_;refine zn ?_;refine zcF ?_;refine zR ?_;refine zV lac ?_;refine zV lab ?_;refine zn ?_;refine zcT ?_;refine zq ?_;refine zRD ?_;refine zV laa ?_;refine zV lag ?_;refine zV lak ?_;refine zV laj ?_;refine zV laa ?_;refine zV lag ?_;refine zV lak ?_;refine zV laj ?_;refine zV laq ?_;refine zE laf ?_;refine znD ?_;refine zre ?_
    rw [← hu]
    refine rq ?_
    refine ret_cell (by exact .inr rfl) (by exact rfl) (by exact rfl) (by exact rfl) [] trivial (l' := (V.seen (.tru n)).c) (by exact wkRow_refl _) (by exact ⟨zo, zo, zo, zo⟩) (by exact rfl)
  | clo b e =>
    refine zq ?_;refine zQ ?_;refine zV laa ?_;refine zV lag ?_;refine zV lak ?_;refine zV laj ?_;refine zV lac ?_;refine zn ?_;refine zcF ?_;refine zex ?_;refine zq ?_;refine zQ ?_;refine zV laa ?_;refine zV lag ?_;refine zV lak ?_;refine zV laj ?_;refine zn ?_;refine zbl ?_;refine zq ?_;refine zQ ?_;refine zV lac ?_;refine zV lab ?_;refine zn ?_;refine zcF ?_;refine zR ?_;refine zV lac ?_;refine zV lab ?_;refine zn ?_;refine zcF ?_;refine zsk ?_;refine zQ ?_;refine zV laq ?_;refine zE laf ?_;refine zn ?_;refine zre ?_
    rw [← hu]
    refine rq ?_
    refine ret_cell (by exact .inr rfl) (by exact rfl) (by exact rfl) (by exact rfl) [] trivial (l' := (V.seen (.clo b e)).c) (by exact wkRow_refl _) (by exact ⟨zo, zo, zo, zo⟩) (by exact rfl)
  | wrap u f t a b =>
    refine zq ?_;refine zQ ?_;refine zV laa ?_;refine zV lag ?_;refine zV lak ?_;refine zV laj ?_;refine zV lac ?_;refine zn ?_;refine zcF ?_;refine zex ?_;refine zq ?_;refine zQ ?_;refine zV laa ?_;refine zV lag ?_;refine zV lak ?_;refine zV laj ?_;refine zn ?_;refine zbl ?_;refine zq ?_;refine zQ ?_;refine zV lac ?_;refine zV lab ?_;refine zn ?_;refine zcF ?_;refine zR ?_;refine zV lac ?_;refine zV lab ?_;refine zn ?_;refine zcF ?_;refine zsk ?_;refine zQ ?_;refine zV laq ?_;refine zE laf ?_;refine zn ?_;refine zre ?_
    rw [← hu]
    refine rq ?_
    refine ret_cell (by exact .inr rfl) (by exact rfl) (by exact rfl) (by exact rfl) [] trivial (l' := (V.seen (.wrap u f t a b)).c) (by exact wkRow_refl _) (by exact ⟨zo, zo, zo, zo⟩) (by exact rfl)
structure StkOk (s : List Fr) (n : Nat) (rows : List (List C)) : Prop where
  len : n = s.length
  le : n ≤ rows.length
  top : rows.take n = frRows s
  cl : closedRows rows = true
  k16 : ∀ r ∈ rows, r.length = 16
def mCells (t : Tm) (env : List V) (v : C) (vv n F : Nat) : List C := [.int .i64 t.k, .int .i64 t.n, .int .i64 t.t.k, slOf 2 (tyRows t.t.l), .int .i64 t.f.k, slOf 2 (tyRows t.f.l), slOf 7 (tmRows t.l), envC env, v, .own 1001 vv n, .int .i64 F]
theorem frRows_cons (f : Fr) (s : List Fr) : frRows (f :: s) = frRows s ++ [f.c] := by simp [frRows]
theorem frRows_length (s : List Fr) : (frRows s).length = s.length := by simp [frRows]
theorem closedRows_append {l m : List (List C)} : closedRows (l ++ m) = (closedRows l && closedRows m) := by
  induction l with
  | nil => simp [closedRows]
  | cons a l ih => simp only [List.cons_append, closedRows, ih, Bool.and_assoc]
theorem closedRows_take {l : List (List C)} (h : closedRows l = true) (n : Nat) : closedRows (l.take n) = true := by
  have := closedRows_append (l := l.take n) (m := l.drop n)
  rw [List.take_append_drop, h] at this
  simp only [Bool.true_eq, Bool.and_eq_true] at this
  exact this.1
theorem fr_closed (f : Fr) : closedRow f.c = true := by
  cases f with
  | term t env => simp only [Fr.c, closedRow, closed_envC]; rfl
  | _ => rfl
theorem fr_len (f : Fr) : f.c.length = 16 := by cases f <;> rfl
theorem StkOk.push {s : List Fr} {n : Nat} {rows : List (List C)} (h : StkOk s n rows) (f : Fr) : StkOk (f :: s) (n + 1) (rows.take n ++ [f.c]) where
  len := by simp [h.len]
  le := by simp [List.length_take, h.le]
  top := by rw [List.take_of_length_le (by simp [List.length_take, h.le]), h.top, frRows_cons]
  cl := by rw [closedRows_append, closedRows_take h.cl]; simp [closedRows, fr_closed]
  k16 := fun r hr => by
    rcases List.mem_append.1 hr with hr | hr
    · exact h.k16 r (List.mem_of_mem_take hr)
    · rw [List.mem_singleton.1 hr]; exact fr_len f
theorem StkOk.pop {f : Fr} {s : List Fr} {n : Nat} {rows : List (List C)} (h : StkOk (f :: s) n rows) : StkOk s (n - 1) rows ∧ rows[n - 1]? = some f.c := by
  have hl := h.len
  rw [List.length_cons] at hl
  have h1 : rows.take (n - 1) = frRows s := by
    have e := congrArg (List.take (n - 1)) h.top
    rw [List.take_take, Nat.min_eq_left (by omega), frRows_cons, List.take_append_of_le_length (by rw [frRows_length]; omega)] at e
    rw [e, List.take_of_length_le (by rw [frRows_length]; omega)]
  refine ⟨⟨by omega, by have := h.le; omega, h1, h.cl, h.k16⟩, ?_⟩
  have h2 : (rows.take n)[n - 1]? = some f.c := by
    rw [h.top, frRows_cons, List.getElem?_append_right (by rw [frRows_length]; omega), frRows_length, show n - 1 - s.length = 0 by omega]; rfl
  rw [List.getElem?_take] at h2
  split at h2
  · exact h2
  · cases h2
theorem ret_none {P : Program} {e : Exit} {t : Nat → U} {h : Nat → Option Blk} {O' : List (Nat × Blk)} (he : e = .normal ∨ e = .ret) (hO : AllP (fun p => ∃ x0, h p.1 = some x0 ∧ WkBlk h [] [] x0 p.2) O') (hok2 : AllP (fun p => okBlk' (ofL O') p.2) O') : RetQ P #[] (.tup []) O' e t h :=
  ⟨he, [], trivial, trivial, .tup [], rfl, [], trivial, trivial, hO, rfl, trivial, hok2⟩
theorem mc_ok {h : Nat → Option Blk} {t : Tm} {env : List V} {v : C} {vv n F : Nat} (hv : closedC v = true) (ho : ∃ e k v' rows, h 1001 = some (.row e k v' rows) ∧ vv ≤ v') : AllP (okC h) (mCells t env v vv n F) :=
  ⟨trivial, trivial, trivial, trivial, trivial, trivial, trivial, ok_envC env, closed_okC hv, ho, trivial, trivial⟩
theorem push_a (f : Fr) (t : Tm) (env : List V) (v : C) (hv : closedC v = true) (vv n F : Nat) (rows : List (List C)) (hn : n ≤ rows.length) (hcl : closedRows rows = true) (hmax : n ≤ 100000000010) :
    ACalls Tryz.prog 101 [.one (.ptr 1000 0), .agg f.c] [(1000, .obj (mCells t env v vv n F)), (1001, .row 118 16 vv rows)] (.tup []) [(1000, .obj (mCells t env v (vv + 1) (n + 1) F)), (1001, .row 118 16 (vv + 1) (rows.take n ++ [f.c]))] := by
  refine acalls_of_body Tryz.func101 rfl (by kernel_rfl) (Nat.le_of_ble_eq_true rfl) (by exact ⟨⟨rfl, zo⟩, ⟨rfl, Nat.le_succ _⟩, zo⟩) (by simp [namesL]) ?_
  have hfc := fr_closed f
  have hfl := fr_len f
  refine zQ ?_;refine zM lan ?_;refine zn ?_;refine zRD ?_;refine zV laa ?_;refine zV laa ?_;refine zV lag ?_;refine zV lad ?_;refine zV lae ?_
  refine zV (lai rfl rfl (Cut.all hfl)) ?_
  refine zV (laF (rows := [f.c]) (by exact rfl) (by exact rfl) (by decide) (by decide) (by exact RowsOf.cons (by exact rfl) RowsOf.nil) (by exact AllP.cons hfl AllP.nil) (by simp only [closedRows, hfc]; rfl)) ?_
  refine zM (loc_appendOwn (news := [f.c]) (rows0 := rows.take n) (by exact rfl) (by exact rfl) (by exact rfl) (by exact .inl rfl) hn rfl (fun r hr => by rw [List.mem_singleton.1 hr];exact hfl) (by simp only [List.length_singleton]; unfold maxLen; omega) (by simp only [List.length_singleton]; omega)) ?_
  refine zV lag ?_;refine zV lad ?_;refine zE lav ?_;refine znD ?_
  refine rq ?_
  refine ret_none (by exact .inl rfl) ?_ ?_
  · exact ⟨⟨_, rfl, wkRow_refl _⟩, ⟨_, rfl, WkBlk.refl _⟩, trivial⟩
  · exact ⟨mc_ok hv ⟨_, _, _, _, rfl, Nat.le_refl _⟩, okRows_closed (by rw [closedRows_append, closedRows_take hcl]; simp only [closedRows, hfc]; rfl), trivial⟩
end Go.Proofs.YtnflnbdlgdjfmabGreatDoor
namespace Go.Proofs.YtnflnbdlgdjfmabGreatDoor
open Go.RowKit
set_option linter.unusedVariables false
set_option linter.unusedSimpArgs false
set_option maxRecDepth 100000
attribute [local irreducible] RunL AW LocOp ACalls Gh
def outU : V ⊕ Out → U
  | .inl _ => .tup [Out.zero.u, .one (.bool false)]
  | .inr o => .tup [o.u, .one (.bool true)]
def outC : V ⊕ Out → C
  | .inl u => u.p
  | .inr _ => .nilp
theorem ret_step {P : Program} {x z : Tmp} {tx : TypeId} {bx : Nat} {l : List C} {o : Out} {b : Bool} {e : Exit} {t : Nat → U} {h : Nat → Option Blk} {O' : List (Nat × Blk)} [T : TAgg P tx 3] (he : e = .normal ∨ e = .ret)
    (hx : t x = .one (.ptr bx 0)) (hbx : h bx = some (.obj l)) (hl : l = o.c) (hz : t z = .one (.bool b))
    (fz : List Nat) (hfz : AllP (ClosedAt h) fz) (hO : AllP (fun p => ∃ x0, h p.1 = some x0 ∧ WkBlk h fz [] x0 p.2) O') (hd : disj fz (namesL O') = true)
    (hok2 : AllP (fun p => okBlk' (ofL O') p.2) O') {r : U} (hr : r = .tup [o.u, .one (.bool b)]) : RetQ P #[.cell x tx, .tmp z] r O' e t h := by
  subst hl
  exact ret_ct he hx hbx rfl hz fz hfz (wkRow_refl _) (.le (.refl _)) hO hd ⟨⟨zo, zo, zo, zo⟩, zo, zo⟩ hok2 hr
theorem wrapLe {v : V} {f t : Ty} {a : Int} {b : Bool} : All2 LeC [.int .i64 7, .int .i64 0, .int .i64 0, .int .i64 0, .int .i64 0, .nilsl, .int .i64 0, .nilsl, .nilsl, .nilp, v.p, .int .i64 f.k, slOf 2 (tyRows f.l), .int .i64 t.k, slOf 2 (tyRows t.l), .int .i64 a, .bool b] (V.wrap v f t a b).cells :=
  ⟨.refl _, .refl _, .refl _, .refl _, .refl _, .nil _, .refl _, .nil _, .nil _, .refl _, .refl _, .refl _, .refl _, .refl _, .refl _, .refl _, .refl _, trivial⟩
theorem tagLe {v : V} {g : Ty} : All2 LeC [.int .i64 8, .int .i64 0, .int .i64 0, .int .i64 0, .int .i64 0, .nilsl, .int .i64 0, .nilsl, .nilsl, .nilp, v.p, .int .i64 g.k, slOf 2 (tyRows g.l), .int .i64 0, .nilsl, .int .i64 0, .bool false] (V.tag v g).cells :=
  ⟨.refl _, .refl _, .refl _, .refl _, .refl _, .nil _, .refl _, .nil _, .nil _, .refl _, .refl _, .refl _, .refl _, .refl _, .nil _, .refl _, .refl _, trivial⟩
theorem numLe {n : Int} : All2 LeC [.int .i64 1, .int .i64 n, .int .i64 0, .int .i64 0, .int .i64 0, .nilsl, .int .i64 0, .nilsl, .nilsl, .nilp, .nilp, .int .i64 0, .nilsl, .int .i64 0, .nilsl, .int .i64 0, .bool false] (V.num n).cells :=
  ⟨.refl _, .refl _, .refl _, .refl _, .refl _, .nil _, .refl _, .nil _, .nil _, .refl _, .refl _, .refl _, .nil _, .refl _, .nil _, .refl _, .refl _, trivial⟩
theorem truLe {n : Int} : All2 LeC [.int .i64 2, .int .i64 n, .int .i64 0, .int .i64 0, .int .i64 0, .nilsl, .int .i64 0, .nilsl, .nilsl, .nilp, .nilp, .int .i64 0, .nilsl, .int .i64 0, .nilsl, .int .i64 0, .bool false] (V.tru n).cells :=
  ⟨.refl _, .refl _, .refl _, .refl _, .refl _, .nil _, .refl _, .nil _, .nil _, .refl _, .refl _, .refl _, .nil _, .refl _, .nil _, .refl _, .refl _, trivial⟩
theorem cloLe {b : Tm} {env : List V} : All2 LeC [.int .i64 3, .int .i64 0, .int .i64 b.k, .int .i64 b.n, .int .i64 b.t.k, slOf 2 (tyRows b.t.l), .int .i64 b.f.k, slOf 2 (tyRows b.f.l), slOf 7 (tmRows b.l), envC env, .nilp, .int .i64 0, .nilsl, .int .i64 0, .nilsl, .int .i64 0, .bool false] (V.clo b env).cells :=
  ⟨.refl _, .refl _, .refl _, .refl _, .refl _, .refl _, .refl _, .refl _, .refl _, .refl _, .refl _, .refl _, .nil _, .refl _, .nil _, .refl _, .refl _, trivial⟩
theorem groundK {f : Ty} : f.ground.k = f.k := by unfold Ty.ground; split <;> rename_i h <;> simp [Ty.to] <;> simp at h; omega
theorem mc_put {h : Nat → Option Blk} {fz : List Nat} {t : Tm} {env : List V} {c c' : C} {vv n F : Nat} (hw : WkC h fz [] c c') : All2 (WkC h fz []) (mCells t env c vv n F) (mCells t env c' vv n F) :=
  ⟨.le (.refl _), .le (.refl _), .le (.refl _), .le (.refl _), .le (.refl _), .le (.refl _), .le (.refl _), .le (.refl _), hw, .le (.refl _), .le (.refl _), trivial⟩
set_option maxHeartbeats 8000000 in
theorem cast_a (v : V) (f t : Ty) (at' : Int) (back : Bool) (t0 : Tm) (env0 : List V) (vv n F : Nat) (rows : List (List C)) (hcl : closedRows rows = true) :
    ACalls Tryz.prog 105 [.one (.ptr 1000 0), .one v.p, f.u, t.u, .one (.int .i64 at'), .one (.bool back)] [(1000, .obj (mCells t0 env0 .nilp vv n F)), (1001, .row 118 16 vv rows)]
      (outU (castV v f t at' back)) [(1000, .obj (mCells t0 env0 (outC (castV v f t at' back)) vv n F)), (1001, .row 118 16 vv rows)] := by
  refine acalls_of_body Tryz.func105 rfl (by kernel_rfl) (Nat.le_of_ble_eq_true rfl) (by exact ⟨⟨rfl, zo⟩, ⟨rfl, Nat.le_refl _⟩, zo⟩) (by simp [namesL]) ?_
  refine zQ ?_;refine zM lan ?_;refine zM lan ?_;refine zM lah ?_;refine zV lab ?_;refine zn ?_;refine zbl ?_
  refine AW.gh (gh_lit [(0, .one (.ptr 1000 0)), (1, .one (V.p (v))), (4, .one (.int .i64 at')), (5, .one (.bool back)), (8, .one (.ptr 8 0)), (9, .one (.ptr 9 0)), (12, .one (.ptr 12 0)), (13, .one (.bool false))] [(1000, .obj (mCells t0 env0 .nilp vv n F)), (1001, .row 118 16 vv rows), (8, .obj (Ty.c (f))), (9, .obj t.c), (12, .obj Out.zero.c)] [] [] ⟨(zw rfl zo), (by exact WkU.of_eq rfl zo), (zw rfl zo), (zw rfl zo), (zw rfl zo), (zw rfl zo), (zw rfl zo), (zw rfl zo), zo⟩ ⟨(by exact zb rfl), (by exact zb rfl), (by exact zb rfl), (by exact zb rfl), (by exact zb rfl), zo⟩ trivial zo rfl rfl ⟨⟨_, rfl⟩, zo, zo, zo, ⟨_, rfl⟩, ⟨_, rfl⟩, ⟨_, rfl⟩, zo, zo⟩ ⟨(by exact ⟨zo, zo, zo, zo, zo, zo, zo, ok_envC _, zo, ⟨_, _, _, _, rfl, Nat.le_refl _⟩, zo, zo⟩), (okRows_closed (by assumption)), (by exact ⟨zo, zo, zo⟩), (by exact ⟨zo, zo, zo⟩), (by exact ⟨zo, zo, zo, zo⟩), zo⟩) ?_
  refine AW.loop (fun m t' h => ∃ (w : V) (g : Ty), castV w g t at' back = castV v f t at' back ∧ m = w.tags ∧ t' = tOfL [(0, .one (.ptr 1000 0)), (1, .one (V.p (w))), (4, .one (.int .i64 at')), (5, .one (.bool back)), (8, .one (.ptr 8 0)), (9, .one (.ptr 9 0)), (12, .one (.ptr 12 0)), (13, .one (.bool false))] ∧ h = ofL [(1000, .obj (mCells t0 env0 .nilp vv n F)), (1001, .row 118 16 vv rows), (8, .obj (Ty.c (g))), (9, .obj t.c), (12, .obj Out.zero.c)]) v.tags ⟨v, f, rfl, rfl, rfl, rfl⟩ ?_
  rintro m t' h ⟨w, g, hw, rfl, rfl, rfl⟩
  rw [← hw]
  refine zbl ?_;refine zbl ?_;refine zQ ?_;refine zV lai ?_;refine zV lai ?_
  refine zV (lal (same_a g t) rfl (by refine ⟨_, _, rfl, (by exact LeU.of_eq rfl zo), (by (exact ⟨zo, zo, zo⟩)), ?_⟩;refine ⟨_, _, rfl, (by exact LeU.of_eq rfl zo), (by (exact ⟨zo, zo, zo⟩)), ?_⟩;exact rfl)) ?_
  cases h1 : g.same t with
  | true =>
    have e : castV w g t at' back = .inl w := by unfold castV; rw [if_pos h1]
    rw [e]
    refine zV lab ?_;refine zn ?_;refine zcT ?_;refine zQ ?_;refine zV laa ?_;refine zV laa ?_;refine zV lag ?_;refine zV lad ?_;refine zE lav ?_;refine zn ?_;refine zQ ?_
    refine zV (lal goes_a) ?_
    refine zV lar ?_;refine zV lat ?_;refine zE laf ?_;refine zV lab ?_;refine zn ?_;refine zre ?_
    refine rq ?_
    exact ret_step (o := Out.zero) (b := false) (by exact .inr rfl) (by exact rfl) (by exact rfl) rfl (by exact rfl) [] trivial (by exact ⟨⟨_, rfl, wkRow_refl _⟩, ⟨_, rfl, WkBlk.refl _⟩, zo⟩) (by exact rfl) (by exact ⟨mc_ok rfl ⟨_, _, _, _, rfl, Nat.le_refl _⟩, okRows_closed hcl, zo⟩) rfl
  | false =>
  have h1' : ¬ g.same t = true := by simp [h1]
  cases h2 : (g.k == 3 && t.k == 3) with
  | true =>
    have e : castV w g t at' back = .inl (.wrap w g t at' back) := by unfold castV; rw [if_neg h1', if_pos h2]
    have h3 : (g.k == 3) = true ∧ (t.k == 3) = true := by simpa using h2
    have hg3 := h3.1
    have ht3 := h3.2
    rw [e]
    refine zV lab ?_;refine zn ?_;refine zcF ?_;refine zQ ?_;refine zV lad ?_;refine zV lae ?_;refine zV lac ?_;refine zV laa ?_;refine zT lad ?_;refine zT lae ?_;refine zT lac ?_;refine zV (lam true) ?_;refine zV lab ?_;refine zn ?_;refine zaT ?_;refine zQ ?_;refine zV laa ?_;refine zV laa ?_;refine zV lai ?_;refine zV lai ?_;refine zV laa ?_;refine zV laa ?_;refine zV laq ?_;refine zM lan ?_;refine zV lag ?_;refine zV lad ?_;refine zE lav ?_;refine zn ?_;refine zQ ?_
    refine zV (lal goes_a) ?_
    refine zV lar ?_;refine zV lat ?_;refine zE laf ?_;refine zV lab ?_;refine zn ?_;refine zre ?_
    refine rq ?_
    exact ret_step (o := Out.zero) (b := false) (by exact .inr rfl) (by exact rfl) (by exact rfl) rfl (by exact rfl) [46] (by exact ⟨⟨_, rfl, rfl⟩, zo⟩) (by exact ⟨⟨_, rfl, (by exact mc_put (c := .ptr 46 0) (.obj (List.mem_cons_self ..) rfl wrapLe))⟩, ⟨_, rfl, WkBlk.refl _⟩, zo⟩) (by exact rfl) (by exact ⟨mc_ok rfl ⟨_, _, _, _, rfl, Nat.le_refl _⟩, okRows_closed hcl, zo⟩) rfl
  | false =>
  have h2' : ¬ (g.k == 3 && t.k == 3) = true := by rw [h2]; decide
  cases h21 : (g.k == 3) with
  | true =>
    have h22 : (t.k == 3) = false := by rw [h21] at h2; simpa using h2
    cases h3 : (t.k == 0) with
    | true =>
      refine zV lab ?_;refine zn ?_;refine zcF ?_;refine zQ ?_;refine zV lad ?_;refine zV lae ?_;refine zV lac ?_;refine zV laa ?_;refine zT lad ?_;refine zT lae ?_;refine zT lac ?_;refine zV (lam true) ?_;refine zV lab ?_;refine zn ?_;refine zaF ?_;refine zQ ?_;refine zV lad ?_;refine zV lae ?_;refine zV lac ?_;refine zV lab ?_;refine zn ?_;refine zaT ?_;refine zQ ?_;refine zV lai ?_
      refine zV (lal (ground_a g) rfl (by refine ⟨_, _, rfl, (by exact LeU.of_eq rfl zo), (by (exact ⟨zo, zo, zo⟩)), ?_⟩;exact rfl)) ?_
      refine zM lah ?_;refine zE laf ?_;refine zn ?_;refine zq ?_;refine zQ ?_;refine zV lai ?_;refine zV lai ?_
      refine zV (lal (same_a g g.ground) rfl (by refine ⟨_, _, rfl, (by exact LeU.of_eq rfl zo), (by (exact ⟨zo, zo, zo⟩)), ?_⟩;refine ⟨_, _, rfl, (by exact LeU.of_eq rfl zo), (by (exact ⟨zo, zo, zo⟩)), ?_⟩;exact rfl)) ?_
      cases h4 : g.same g.ground with
      | true =>
        have e : castV w g t at' back = .inl (.tag w g.ground) := by unfold castV; rw [if_neg h1', if_neg h2', if_pos h3, if_pos h4]
        rw [e]
        refine zV laz ?_;refine zn ?_;refine zcF ?_;refine zsk ?_;refine zQ ?_;refine zV laa ?_;refine zV laa ?_;refine zV lai ?_;refine zV laq ?_;refine zM lan ?_;refine zV lag ?_;refine zV lad ?_;refine zE lav ?_;refine zn ?_;refine zQ ?_
        refine zV (lal goes_a) ?_
        refine zV lar ?_;refine zV lat ?_;refine zE laf ?_;refine zV lab ?_;refine zn ?_;refine zre ?_
        refine rq ?_
        exact ret_step (o := Out.zero) (b := false) (by exact .inr rfl) (by exact rfl) (by exact rfl) rfl (by exact rfl) [73] (by exact ⟨⟨_, rfl, rfl⟩, zo⟩) (by exact ⟨⟨_, rfl, (by exact mc_put (c := .ptr 73 0) (.obj (List.mem_cons_self ..) rfl tagLe))⟩, ⟨_, rfl, WkBlk.refl _⟩, zo⟩) (by exact rfl) (by exact ⟨mc_ok rfl ⟨_, _, _, _, rfl, Nat.le_refl _⟩, okRows_closed hcl, zo⟩) rfl
      | false =>
        have e : castV w g t at' back = .inl (.tag (.wrap w g g.ground at' back) g.ground) := by unfold castV; rw [if_neg h1', if_neg h2', if_pos h3, if_neg (by simp [h4])]
        rw [e]
        refine zV laz ?_;refine zn ?_;refine zcT ?_;refine zR ?_;refine zV laa ?_;refine zV lai ?_;refine zV lai ?_;refine zV laa ?_;refine zV laa ?_;refine zV laq ?_
        refine zM lan ?_
        refine zV lab ?_;refine zn ?_
        refine AW.gh (gh_lit [(0, .one (.ptr 1000 0)), (1, .one (V.p (.wrap w g g.ground at' back))), (4, .one (.int .i64 at')), (5, .one (.bool back)), (8, .one (.ptr 8 0)), (9, .one (.ptr 9 0)), (12, .one (.ptr 12 0)), (13, .one (.bool false)), (14, .one (.ptr 14 0))] [(1000, .obj (mCells t0 env0 .nilp vv n F)), (1001, .row 118 16 vv rows), (8, .obj (Ty.c (g))), (9, .obj t.c), (12, .obj Out.zero.c), (14, .obj g.ground.c)] [68] [] ⟨(zw rfl zo), (by exact WkC.obj (List.mem_cons_self ..) rfl wrapLe), (zw rfl zo), (zw rfl zo), (zw rfl zo), (zw rfl zo), (zw rfl zo), (zw rfl zo), (zw rfl zo), zo⟩ ⟨(by exact zb rfl), (by exact zb rfl), (by exact zb rfl), (by exact zb rfl), (by exact zb rfl), (by exact zb rfl), zo⟩ ⟨⟨_, rfl, rfl⟩, zo⟩ trivial rfl rfl ⟨⟨_, rfl⟩, zo, zo, zo, ⟨_, rfl⟩, ⟨_, rfl⟩, ⟨_, rfl⟩, zo, ⟨_, rfl⟩, zo⟩ ⟨(by exact ⟨zo, zo, zo, zo, zo, zo, zo, ok_envC _, zo, ⟨_, _, _, _, rfl, Nat.le_refl _⟩, zo, zo⟩), (okRows_closed (by assumption)), (by exact ⟨zo, zo, zo⟩), (by exact ⟨zo, zo, zo⟩), (by exact ⟨zo, zo, zo, zo⟩), (by exact ⟨zo, zo, zo⟩), zo⟩) ?_
        refine zQ ?_;refine zV laa ?_;refine zV laa ?_;refine zV lai ?_;refine zV laq ?_;refine zM lan ?_;refine zV lag ?_;refine zV lad ?_;refine zE lav ?_;refine zn ?_;refine zQ ?_
        refine zV (lal goes_a) ?_
        refine zV lar ?_;refine zV lat ?_;refine zE laf ?_;refine zV lab ?_;refine zn ?_;refine zre ?_
        refine rq ?_
        exact ret_step (o := Out.zero) (b := false) (by exact .inr rfl) (by exact rfl) (by exact rfl) rfl (by exact rfl) [73] (by exact ⟨⟨_, rfl, rfl⟩, zo⟩) (by exact ⟨⟨_, rfl, (by exact mc_put (c := .ptr 73 0) (.obj (List.mem_cons_self ..) rfl tagLe))⟩, ⟨_, rfl, WkBlk.refl _⟩, zo⟩) (by exact rfl) (by exact ⟨mc_ok rfl ⟨_, _, _, _, rfl, Nat.le_refl _⟩, okRows_closed hcl, zo⟩) rfl
    | false =>
      have h3' : ¬ (t.k == 0) = true := by rw [h3]; decide
      have h5 : (g.k == 0) = false := by rw [beq_iff_eq] at h21; rw [h21]; rfl
      have e : castV w g t at' back = .inr .stuck := by unfold castV; rw [if_neg h1', if_neg h2', if_neg h3', if_neg (by rw [h5]; decide)]
      rw [e]
      refine zV lab ?_;refine zn ?_;refine zcF ?_;refine zQ ?_;refine zV lad ?_;refine zV lae ?_;refine zV lac ?_;refine zV laa ?_;refine zT lad ?_;refine zT lae ?_;refine zT lac ?_;refine zV (lam true) ?_;refine zV lab ?_;refine zn ?_;refine zaF ?_;refine zQ ?_;refine zV lad ?_;refine zV lae ?_;refine zV lac ?_;refine zV lab ?_;refine zn ?_;refine zaF ?_;refine zQ ?_;refine zV lad ?_;refine zV lae ?_;refine zV lac ?_;refine zV laa ?_;refine zf ?_;refine zf ?_;refine zf ?_;refine zf ?_;refine zf ?_;refine zV (lam false) ?_;refine zV lab ?_;refine zn ?_;refine zcF ?_;refine zQ ?_
      refine zV (lal stuck_a) ?_
      refine zV lar ?_;refine zV lat ?_;refine zE laf ?_;refine zV lab ?_;refine zn ?_;refine zre ?_
      refine rq ?_
      exact ret_step (o := Out.stuck) (b := true) (by exact .inr rfl) (by exact rfl) (by exact rfl) rfl (by exact rfl) [] (by exact zo) (by exact ⟨⟨_, rfl, wkRow_refl _⟩, ⟨_, rfl, WkBlk.refl _⟩, zo⟩) (by exact rfl) (by exact ⟨mc_ok rfl ⟨_, _, _, _, rfl, Nat.le_refl _⟩, okRows_closed hcl, zo⟩) rfl
  | false =>
    cases h3 : (t.k == 0) with
    | true =>
      refine zV lab ?_;refine zn ?_;refine zcF ?_;refine zQ ?_;refine zV lad ?_;refine zV lae ?_;refine zV lac ?_;refine zV laa ?_;refine zf ?_;refine zf ?_;refine zf ?_;refine zV (lam false) ?_;refine zV lab ?_;refine zn ?_;refine zcF ?_;refine zQ ?_;refine zV lad ?_;refine zV lae ?_;refine zV lac ?_;refine zV lab ?_;refine zn ?_;refine zaT ?_;refine zQ ?_;refine zV lai ?_
      refine zV (lal (ground_a g) rfl (by refine ⟨_, _, rfl, (by exact LeU.of_eq rfl zo), (by (exact ⟨zo, zo, zo⟩)), ?_⟩;exact rfl)) ?_
      refine zM lah ?_;refine zE laf ?_;refine zn ?_;refine zq ?_;refine zQ ?_;refine zV lai ?_;refine zV lai ?_
      refine zV (lal (same_a g g.ground) rfl (by refine ⟨_, _, rfl, (by exact LeU.of_eq rfl zo), (by (exact ⟨zo, zo, zo⟩)), ?_⟩;refine ⟨_, _, rfl, (by exact LeU.of_eq rfl zo), (by (exact ⟨zo, zo, zo⟩)), ?_⟩;exact rfl)) ?_
      cases h4 : g.same g.ground with
      | true =>
        have e : castV w g t at' back = .inl (.tag w g.ground) := by unfold castV; rw [if_neg h1', if_neg h2', if_pos h3, if_pos h4]
        rw [e]
        refine zV laz ?_;refine zn ?_;refine zcF ?_;refine zsk ?_;refine zQ ?_;refine zV laa ?_;refine zV laa ?_;refine zV lai ?_;refine zV laq ?_;refine zM lan ?_;refine zV lag ?_;refine zV lad ?_;refine zE lav ?_;refine zn ?_;refine zQ ?_
        refine zV (lal goes_a) ?_
        refine zV lar ?_;refine zV lat ?_;refine zE laf ?_;refine zV lab ?_;refine zn ?_;refine zre ?_
        refine rq ?_
        exact ret_step (o := Out.zero) (b := false) (by exact .inr rfl) (by exact rfl) (by exact rfl) rfl (by exact rfl) [73] (by exact ⟨⟨_, rfl, rfl⟩, zo⟩) (by exact ⟨⟨_, rfl, (by exact mc_put (c := .ptr 73 0) (.obj (List.mem_cons_self ..) rfl tagLe))⟩, ⟨_, rfl, WkBlk.refl _⟩, zo⟩) (by exact rfl) (by exact ⟨mc_ok rfl ⟨_, _, _, _, rfl, Nat.le_refl _⟩, okRows_closed hcl, zo⟩) rfl
      | false =>
        have e : castV w g t at' back = .inl (.tag (.wrap w g g.ground at' back) g.ground) := by unfold castV; rw [if_neg h1', if_neg h2', if_pos h3, if_neg (by simp [h4])]
        rw [e]
        refine zV laz ?_;refine zn ?_;refine zcT ?_;refine zR ?_;refine zV laa ?_;refine zV lai ?_;refine zV lai ?_;refine zV laa ?_;refine zV laa ?_;refine zV laq ?_
        refine zM lan ?_
        refine zV lab ?_;refine zn ?_
        refine AW.gh (gh_lit [(0, .one (.ptr 1000 0)), (1, .one (V.p (.wrap w g g.ground at' back))), (4, .one (.int .i64 at')), (5, .one (.bool back)), (8, .one (.ptr 8 0)), (9, .one (.ptr 9 0)), (12, .one (.ptr 12 0)), (13, .one (.bool false)), (14, .one (.ptr 14 0))] [(1000, .obj (mCells t0 env0 .nilp vv n F)), (1001, .row 118 16 vv rows), (8, .obj (Ty.c (g))), (9, .obj t.c), (12, .obj Out.zero.c), (14, .obj g.ground.c)] [68] [] ⟨(zw rfl zo), (by exact WkC.obj (List.mem_cons_self ..) rfl wrapLe), (zw rfl zo), (zw rfl zo), (zw rfl zo), (zw rfl zo), (zw rfl zo), (zw rfl zo), (zw rfl zo), zo⟩ ⟨(by exact zb rfl), (by exact zb rfl), (by exact zb rfl), (by exact zb rfl), (by exact zb rfl), (by exact zb rfl), zo⟩ ⟨⟨_, rfl, rfl⟩, zo⟩ trivial rfl rfl ⟨⟨_, rfl⟩, zo, zo, zo, ⟨_, rfl⟩, ⟨_, rfl⟩, ⟨_, rfl⟩, zo, ⟨_, rfl⟩, zo⟩ ⟨(by exact ⟨zo, zo, zo, zo, zo, zo, zo, ok_envC _, zo, ⟨_, _, _, _, rfl, Nat.le_refl _⟩, zo, zo⟩), (okRows_closed (by assumption)), (by exact ⟨zo, zo, zo⟩), (by exact ⟨zo, zo, zo⟩), (by exact ⟨zo, zo, zo, zo⟩), (by exact ⟨zo, zo, zo⟩), zo⟩) ?_
        refine zQ ?_;refine zV laa ?_;refine zV laa ?_;refine zV lai ?_;refine zV laq ?_;refine zM lan ?_;refine zV lag ?_;refine zV lad ?_;refine zE lav ?_;refine zn ?_;refine zQ ?_
        refine zV (lal goes_a) ?_
        refine zV lar ?_;refine zV lat ?_;refine zE laf ?_;refine zV lab ?_;refine zn ?_;refine zre ?_
        refine rq ?_
        exact ret_step (o := Out.zero) (b := false) (by exact .inr rfl) (by exact rfl) (by exact rfl) rfl (by exact rfl) [73] (by exact ⟨⟨_, rfl, rfl⟩, zo⟩) (by exact ⟨⟨_, rfl, (by exact mc_put (c := .ptr 73 0) (.obj (List.mem_cons_self ..) rfl tagLe))⟩, ⟨_, rfl, WkBlk.refl _⟩, zo⟩) (by exact rfl) (by exact ⟨mc_ok rfl ⟨_, _, _, _, rfl, Nat.le_refl _⟩, okRows_closed hcl, zo⟩) rfl
    | false =>
      have h3' : ¬ (t.k == 0) = true := by rw [h3]; decide
      cases h5 : (g.k == 0) with
      | false =>
        have e : castV w g t at' back = .inr .stuck := by unfold castV; rw [if_neg h1', if_neg h2', if_neg h3', if_neg (by rw [h5]; decide)]
        rw [e]
        refine zV lab ?_;refine zn ?_;refine zcF ?_;refine zQ ?_;refine zV lad ?_;refine zV lae ?_;refine zV lac ?_;refine zV laa ?_;refine zf ?_;refine zf ?_;refine zf ?_;refine zV (lam false) ?_;refine zV lab ?_;refine zn ?_;refine zcF ?_;refine zQ ?_;refine zV lad ?_;refine zV lae ?_;refine zV lac ?_;refine zV lab ?_;refine zn ?_;refine zaF ?_;refine zQ ?_;refine zV lad ?_;refine zV lae ?_;refine zV lac ?_;refine zV laa ?_;refine zf ?_;refine zf ?_;refine zf ?_;refine zf ?_;refine zf ?_;refine zV (lam false) ?_;refine zV lab ?_;refine zn ?_;refine zcF ?_;refine zQ ?_
        refine zV (lal stuck_a) ?_
        refine zV lar ?_;refine zV lat ?_;refine zE laf ?_;refine zV lab ?_;refine zn ?_;refine zre ?_
        refine rq ?_
        exact ret_step (o := Out.stuck) (b := true) (by exact .inr rfl) (by exact rfl) (by exact rfl) rfl (by exact rfl) [] (by exact zo) (by exact ⟨⟨_, rfl, wkRow_refl _⟩, ⟨_, rfl, WkBlk.refl _⟩, zo⟩) (by exact rfl) (by exact ⟨mc_ok rfl ⟨_, _, _, _, rfl, Nat.le_refl _⟩, okRows_closed hcl, zo⟩) rfl
      | true =>
        cases w with
        | num q =>
          have e : castV (.num q) g t at' back = .inr .stuck := by unfold castV; rw [if_neg h1', if_neg h2', if_neg h3', if_pos h5]
          rw [e]
          refine zV lab ?_;refine zn ?_;refine zcF ?_;refine zQ ?_;refine zV lad ?_;refine zV lae ?_;refine zV lac ?_;refine zV laa ?_;refine zf ?_;refine zf ?_;refine zf ?_;refine zV (lam false) ?_;refine zV lab ?_;refine zn ?_;refine zcF ?_;refine zQ ?_;refine zV lad ?_;refine zV lae ?_;refine zV lac ?_;refine zV lab ?_;refine zn ?_;refine zaF ?_;refine zQ ?_;refine zV lad ?_;refine zV lae ?_;refine zV lac ?_;refine zV laa ?_;refine zT laa ?_;refine zT lag ?_;refine zT lak ?_;refine zT laj ?_;refine zT lac ?_;refine zV (lam true) ?_;refine zV lab ?_;refine zn ?_;refine zcF ?_;refine zQ ?_
          refine zV (lal stuck_a) ?_
          refine zV lar ?_;refine zV lat ?_;refine zE laf ?_;refine zV lab ?_;refine zn ?_;refine zre ?_
          refine rq ?_
          exact ret_step (o := Out.stuck) (b := true) (by exact .inr rfl) (by exact rfl) (by exact rfl) rfl (by exact rfl) [] (by exact zo) (by exact ⟨⟨_, rfl, wkRow_refl _⟩, ⟨_, rfl, WkBlk.refl _⟩, zo⟩) (by exact rfl) (by exact ⟨mc_ok rfl ⟨_, _, _, _, rfl, Nat.le_refl _⟩, okRows_closed hcl, zo⟩) rfl
        | tru q =>
          have e : castV (.tru q) g t at' back = .inr .stuck := by unfold castV; rw [if_neg h1', if_neg h2', if_neg h3', if_pos h5]
          rw [e]
          refine zV lab ?_;refine zn ?_;refine zcF ?_;refine zQ ?_;refine zV lad ?_;refine zV lae ?_;refine zV lac ?_;refine zV laa ?_;refine zf ?_;refine zf ?_;refine zf ?_;refine zV (lam false) ?_;refine zV lab ?_;refine zn ?_;refine zcF ?_;refine zQ ?_;refine zV lad ?_;refine zV lae ?_;refine zV lac ?_;refine zV lab ?_;refine zn ?_;refine zaF ?_;refine zQ ?_;refine zV lad ?_;refine zV lae ?_;refine zV lac ?_;refine zV laa ?_;refine zT laa ?_;refine zT lag ?_;refine zT lak ?_;refine zT laj ?_;refine zT lac ?_;refine zV (lam true) ?_;refine zV lab ?_;refine zn ?_;refine zcF ?_;refine zQ ?_
          refine zV (lal stuck_a) ?_
          refine zV lar ?_;refine zV lat ?_;refine zE laf ?_;refine zV lab ?_;refine zn ?_;refine zre ?_
          refine rq ?_
          exact ret_step (o := Out.stuck) (b := true) (by exact .inr rfl) (by exact rfl) (by exact rfl) rfl (by exact rfl) [] (by exact zo) (by exact ⟨⟨_, rfl, wkRow_refl _⟩, ⟨_, rfl, WkBlk.refl _⟩, zo⟩) (by exact rfl) (by exact ⟨mc_ok rfl ⟨_, _, _, _, rfl, Nat.le_refl _⟩, okRows_closed hcl, zo⟩) rfl
        | clo q q2 =>
          have e : castV (.clo q q2) g t at' back = .inr .stuck := by unfold castV; rw [if_neg h1', if_neg h2', if_neg h3', if_pos h5]
          rw [e]
          refine zV lab ?_;refine zn ?_;refine zcF ?_;refine zQ ?_;refine zV lad ?_;refine zV lae ?_;refine zV lac ?_;refine zV laa ?_;refine zf ?_;refine zf ?_;refine zf ?_;refine zV (lam false) ?_;refine zV lab ?_;refine zn ?_;refine zcF ?_;refine zQ ?_;refine zV lad ?_;refine zV lae ?_;refine zV lac ?_;refine zV lab ?_;refine zn ?_;refine zaF ?_;refine zQ ?_;refine zV lad ?_;refine zV lae ?_;refine zV lac ?_;refine zV laa ?_;refine zT laa ?_;refine zT lag ?_;refine zT lak ?_;refine zT laj ?_;refine zT lac ?_;refine zV (lam true) ?_;refine zV lab ?_;refine zn ?_;refine zcF ?_;refine zQ ?_
          refine zV (lal stuck_a) ?_
          refine zV lar ?_;refine zV lat ?_;refine zE laf ?_;refine zV lab ?_;refine zn ?_;refine zre ?_
          refine rq ?_
          exact ret_step (o := Out.stuck) (b := true) (by exact .inr rfl) (by exact rfl) (by exact rfl) rfl (by exact rfl) [] (by exact zo) (by exact ⟨⟨_, rfl, wkRow_refl _⟩, ⟨_, rfl, WkBlk.refl _⟩, zo⟩) (by exact rfl) (by exact ⟨mc_ok rfl ⟨_, _, _, _, rfl, Nat.le_refl _⟩, okRows_closed hcl, zo⟩) rfl
        | wrap q q2 q3 q4 q5 =>
          have e : castV (.wrap q q2 q3 q4 q5) g t at' back = .inr .stuck := by unfold castV; rw [if_neg h1', if_neg h2', if_neg h3', if_pos h5]
          rw [e]
          refine zV lab ?_;refine zn ?_;refine zcF ?_;refine zQ ?_;refine zV lad ?_;refine zV lae ?_;refine zV lac ?_;refine zV laa ?_;refine zf ?_;refine zf ?_;refine zf ?_;refine zV (lam false) ?_;refine zV lab ?_;refine zn ?_;refine zcF ?_;refine zQ ?_;refine zV lad ?_;refine zV lae ?_;refine zV lac ?_;refine zV lab ?_;refine zn ?_;refine zaF ?_;refine zQ ?_;refine zV lad ?_;refine zV lae ?_;refine zV lac ?_;refine zV laa ?_;refine zT laa ?_;refine zT lag ?_;refine zT lak ?_;refine zT laj ?_;refine zT lac ?_;refine zV (lam true) ?_;refine zV lab ?_;refine zn ?_;refine zcF ?_;refine zQ ?_
          refine zV (lal stuck_a) ?_
          refine zV lar ?_;refine zV lat ?_;refine zE laf ?_;refine zV lab ?_;refine zn ?_;refine zre ?_
          refine rq ?_
          exact ret_step (o := Out.stuck) (b := true) (by exact .inr rfl) (by exact rfl) (by exact rfl) rfl (by exact rfl) [] (by exact zo) (by exact ⟨⟨_, rfl, wkRow_refl _⟩, ⟨_, rfl, WkBlk.refl _⟩, zo⟩) (by exact rfl) (by exact ⟨mc_ok rfl ⟨_, _, _, _, rfl, Nat.le_refl _⟩, okRows_closed hcl, zo⟩) rfl
        | tag u gg =>
          refine zV lab ?_;refine zn ?_;refine zcF ?_;refine zQ ?_;refine zV lad ?_;refine zV lae ?_;refine zV lac ?_;refine zV laa ?_;refine zf ?_;refine zf ?_;refine zf ?_;refine zV (lam false) ?_;refine zV lab ?_;refine zn ?_;refine zcF ?_;refine zQ ?_;refine zV lad ?_;refine zV lae ?_;refine zV lac ?_;refine zV lab ?_;refine zn ?_;refine zaF ?_;refine zQ ?_;refine zV lad ?_;refine zV lae ?_;refine zV lac ?_;refine zV laa ?_;refine zT laa ?_;refine zT lag ?_;refine zT lak ?_;refine zT laj ?_;refine zT lac ?_;refine zV (lam true) ?_;refine zV lab ?_;refine zn ?_;refine zcT ?_;refine zQ ?_;refine zV lai ?_
          refine zV (lal (ground_a t) rfl (by refine ⟨_, _, rfl, (by exact LeU.of_eq rfl zo), (by (exact ⟨zo, zo, zo⟩)), ?_⟩;exact rfl)) ?_
          refine zM lah ?_;refine zE laf ?_;refine zn ?_;refine zq ?_;refine zq ?_;refine zRD ?_;refine zV laa ?_;refine zV lag ?_;refine zV lak ?_;refine zV (lao rfl (by exact Cut.cons (by exact rfl) (Cut.cons (by exact rfl) Cut.nil))) ?_;refine zV lai ?_
          refine zV (lal (same_a gg t.ground) rfl (by refine ⟨_, _, rfl, (by exact LeU.of_eq rfl zo), (by (exact ⟨zo, zo, zo⟩)), ?_⟩;refine ⟨_, _, rfl, (by exact LeU.of_eq rfl zo), (by (exact ⟨zo, zo, zo⟩)), ?_⟩;exact rfl)) ?_
          cases h6 : gg.same t.ground with
          | false =>
            have e : castV (.tag u gg) g t at' back = .inr (.blame at' back) := by unfold castV; rw [if_neg h1', if_neg h2', if_neg h3', if_pos h5]; dsimp only; rw [if_neg (by rw [h6]; decide)]
            rw [e]
            refine zV laz ?_;refine znD ?_;refine zcT ?_;refine zQ ?_;refine zV laa ?_;refine zV laa ?_;refine zV laq ?_;refine zE laf ?_;refine zV lab ?_;refine zn ?_;refine zre ?_
            refine rq ?_
            exact ret_step (o := Out.blame at' back) (b := true) (by exact .inr rfl) (by exact rfl) (by exact rfl) rfl (by exact rfl) [] (by exact zo) (by exact ⟨⟨_, rfl, wkRow_refl _⟩, ⟨_, rfl, WkBlk.refl _⟩, zo⟩) (by exact rfl) (by exact ⟨mc_ok rfl ⟨_, _, _, _, rfl, Nat.le_refl _⟩, okRows_closed hcl, zo⟩) rfl
          | true =>
            have e : castV u t.ground t at' back = castV (.tag u gg) g t at' back := by
              have h7 : (t.ground.k == 0) = false := by rw [groundK]; exact h3
              rw [show castV (.tag u gg) g t at' back = (if t.ground.same t then .inl u else if t.k == 3 then .inl (.wrap u t.ground t at' back) else .inr .stuck) by unfold castV; rw [if_neg h1', if_neg h2', if_neg h3', if_pos h5]; dsimp only; rw [if_pos h6]]
              unfold castV
              rw [groundK, Bool.and_self, if_neg h3', if_neg h3']
            refine zV laz ?_;refine znD ?_;refine zcF ?_;refine zsk ?_;refine zRD ?_;refine zV laa ?_;refine zV lag ?_;refine zV lak ?_;refine zV laj ?_;refine zV lai ?_;refine zV lab ?_;refine zE laf ?_;refine znD ?_
            exact ⟨u.tags, _, _, by simp [V.tags], (gh_lit [(0, .one (.ptr 1000 0)), (1, .one (V.p (u))), (4, .one (.int .i64 at')), (5, .one (.bool back)), (8, .one (.ptr 8 0)), (9, .one (.ptr 9 0)), (12, .one (.ptr 12 0)), (13, .one (.bool false))] [(1000, .obj (mCells t0 env0 .nilp vv n F)), (1001, .row 118 16 vv rows), (8, .obj (Ty.c (t.ground))), (9, .obj t.c), (12, .obj Out.zero.c)] [] [] ⟨(zw rfl zo), (by exact WkU.of_eq rfl zo), (zw rfl zo), (zw rfl zo), (zw rfl zo), (zw rfl zo), (zw rfl zo), (zw rfl zo), zo⟩ ⟨(by exact zb rfl), (by exact zb rfl), (by exact zb rfl), (by exact zb rfl), (by exact zb rfl), zo⟩ trivial zo rfl rfl ⟨⟨_, rfl⟩, zo, zo, zo, ⟨_, rfl⟩, ⟨_, rfl⟩, ⟨_, rfl⟩, zo, zo⟩ ⟨(by exact ⟨zo, zo, zo, zo, zo, zo, zo, ok_envC _, zo, ⟨_, _, _, _, rfl, Nat.le_refl _⟩, zo, zo⟩), (okRows_closed (by assumption)), (by exact ⟨zo, zo, zo⟩), (by exact ⟨zo, zo, zo⟩), (by exact ⟨zo, zo, zo, zo⟩), zo⟩), u, t.ground, e, rfl, rfl, rfl⟩
end Go.Proofs.YtnflnbdlgdjfmabGreatDoor
namespace Go.Proofs.YtnflnbdlgdjfmabGreatDoor
open Go.RowKit
set_option linter.unusedVariables false
set_option linter.unusedSimpArgs false
set_option maxRecDepth 100000
attribute [local irreducible] RunL AW LocOp ACalls Gh
set_option maxHeartbeats 8000000 in
theorem two_a (k : Int) (a b : V) (r : V ⊕ Out) (hr : twoV k a b = some r) (t0 : Tm) (env0 : List V) (vv n F : Nat) (rows : List (List C)) (hcl : closedRows rows = true) :
    ACalls Tryz.prog 104 [.one (.ptr 1000 0), .one (.int .i64 k), .one a.p, .one b.p] [(1000, .obj (mCells t0 env0 (.nilp) vv n F)), (1001, .row 118 16 vv rows)] (outU r) [(1000, .obj (mCells t0 env0 (outC r) vv n F)), (1001, .row 118 16 vv rows)] := by
  refine acalls_of_body Tryz.func104 rfl (by kernel_rfl) (Nat.le_of_ble_eq_true rfl) (by exact ⟨⟨rfl, zo⟩, ⟨rfl, Nat.le_refl _⟩, zo⟩) (by simp [namesL]) ?_
  cases a with
  | num p =>
    cases b with
    | num q =>
      simp only [twoV] at hr
      cases hin : (inB p && inB q) with
      | false => rw [hin] at hr; simp at hr
      | true =>
        rw [hin] at hr
        simp only [if_true, Option.some.injEq] at hr
        simp only [Bool.and_eq_true, inB_iff] at hin
        cases hk : (k == 5) with
        | true =>
          rw [hk, if_pos rfl] at hr
          cases hl : decide (p < q) with
          | true =>
            rw [if_pos (of_decide_eq_true hl)] at hr
            subst hr
            refine zQ ?_;refine zM lah ?_;refine zV lab ?_;refine zn ?_;refine zq ?_;refine zQ ?_;refine zV laa ?_;refine zV lag ?_;refine zV lak ?_;refine zV laj ?_;refine zV lac ?_;refine zV laa ?_;refine zI laa ?_;refine zI lag ?_;refine zI lak ?_;refine zI laj ?_;refine zI lac ?_;refine zV lax ?_;refine zn ?_;refine zcF ?_;refine zsk ?_;refine zq ?_;refine zQ ?_;refine zV laa ?_;refine zV lac ?_;refine zn ?_;refine zaT ?_;refine zQ ?_;refine zV laa ?_;refine zV laq ?_;refine zM lan ?_;refine zV lag ?_;refine zV lad ?_;refine zE lav ?_;refine zn ?_;refine zq ?_;refine zq ?_;refine zRD ?_;refine zV laa ?_;refine zV lag ?_;refine zV lak ?_;refine zV laj ?_;refine zV laa ?_;refine zV lag ?_;refine zV lak ?_;refine zV laj ?_;refine zV lac ?_;refine znD ?_;refine zaT ?_;refine zR ?_;refine zV laa ?_;refine zV lag ?_;refine zV lad ?_;refine zV lae ?_;refine zV lag ?_;refine zV lad ?_;refine zE lav ?_;refine zn ?_;refine zQ ?_
            refine zV (lal goes_a) ?_
            refine zV lar ?_;refine zV lat ?_;refine zE laf ?_;refine zV lab ?_;refine zn ?_;refine zre ?_
            refine rq ?_
            exact ret_step (o := Out.zero) (b := false) (by exact .inr rfl) (by exact rfl) (by exact rfl) rfl (by exact rfl) [30] (by exact ⟨⟨_, rfl, rfl⟩, zo⟩) (by exact ⟨⟨_, rfl, (by exact mc_put (c := .ptr 30 0) (.obj (List.mem_cons_self ..) rfl truLe))⟩, ⟨_, rfl, WkBlk.refl _⟩, zo⟩) (by exact rfl) (by exact ⟨mc_ok rfl ⟨_, _, _, _, rfl, Nat.le_refl _⟩, okRows_closed hcl, zo⟩) rfl
          | false =>
            rw [if_neg (of_decide_eq_false hl)] at hr
            subst hr
            refine zQ ?_;refine zM lah ?_;refine zV lab ?_;refine zn ?_;refine zq ?_;refine zQ ?_;refine zV laa ?_;refine zV lag ?_;refine zV lak ?_;refine zV laj ?_;refine zV lac ?_;refine zV laa ?_;refine zI laa ?_;refine zI lag ?_;refine zI lak ?_;refine zI laj ?_;refine zI lac ?_;refine zV lax ?_;refine zn ?_;refine zcF ?_;refine zsk ?_;refine zq ?_;refine zQ ?_;refine zV laa ?_;refine zV lac ?_;refine zn ?_;refine zaT ?_;refine zQ ?_;refine zV laa ?_;refine zV laq ?_;refine zM lan ?_;refine zV lag ?_;refine zV lad ?_;refine zE lav ?_;refine zn ?_;refine zq ?_;refine zq ?_;refine zRD ?_;refine zV laa ?_;refine zV lag ?_;refine zV lak ?_;refine zV laj ?_;refine zV laa ?_;refine zV lag ?_;refine zV lak ?_;refine zV laj ?_;refine zV lac ?_;refine znD ?_;refine zaF ?_;refine zsk ?_;refine zQ ?_
            refine zV (lal goes_a) ?_
            refine zV lar ?_;refine zV lat ?_;refine zE laf ?_;refine zV lab ?_;refine zn ?_;refine zre ?_
            refine rq ?_
            exact ret_step (o := Out.zero) (b := false) (by exact .inr rfl) (by exact rfl) (by exact rfl) rfl (by exact rfl) [30] (by exact ⟨⟨_, rfl, rfl⟩, zo⟩) (by exact ⟨⟨_, rfl, (by exact mc_put (c := .ptr 30 0) (.obj (List.mem_cons_self ..) rfl truLe))⟩, ⟨_, rfl, WkBlk.refl _⟩, zo⟩) (by exact rfl) (by exact ⟨mc_ok rfl ⟨_, _, _, _, rfl, Nat.le_refl _⟩, okRows_closed hcl, zo⟩) rfl
        | false =>
          rw [hk, if_neg (by decide)] at hr
          subst hr
          refine zQ ?_;refine zM lah ?_;refine zV lab ?_;refine zn ?_;refine zq ?_;refine zQ ?_;refine zV laa ?_;refine zV lag ?_;refine zV lak ?_;refine zV laj ?_;refine zV lac ?_;refine zV laa ?_;refine zI laa ?_;refine zI lag ?_;refine zI lak ?_;refine zI laj ?_;refine zI lac ?_;refine zV lax ?_;refine zn ?_;refine zcF ?_;refine zsk ?_;refine zq ?_;refine zQ ?_;refine zV laa ?_;refine zV lac ?_;refine zn ?_;refine zaF ?_;refine zsk ?_;refine zq ?_;refine zRD ?_;refine zV laa ?_;refine zV lag ?_;refine zV lak ?_;refine zV laj ?_;refine zV laa ?_;refine zV lag ?_;refine zV lak ?_;refine zV laj ?_;refine zV laI ?_
          refine zV (loc_min2 rfl rfl) ?_
          refine zV (loc_max2 rfl rfl) ?_
          refine zV lab ?_;refine znD ?_;refine zQ ?_;refine zV laa ?_;refine zV laa ?_;refine zV laq ?_;refine zM lan ?_;refine zV lag ?_;refine zV lad ?_;refine zE lav ?_;refine zn ?_;refine zQ ?_
          refine zV (lal goes_a) ?_
          refine zV lar ?_;refine zV lat ?_;refine zE laf ?_;refine zV lab ?_;refine zn ?_;refine zre ?_
          refine rq ?_
          exact ret_step (o := Out.zero) (b := false) (by exact .inr rfl) (by exact rfl) (by exact rfl) rfl (by exact rfl) [65] (by exact ⟨⟨_, rfl, rfl⟩, zo⟩) (by exact ⟨⟨_, rfl, (by exact mc_put (c := .ptr 65 0) (.obj (List.mem_cons_self ..) rfl numLe))⟩, ⟨_, rfl, WkBlk.refl _⟩, zo⟩) (by exact rfl) (by exact ⟨mc_ok rfl ⟨_, _, _, _, rfl, Nat.le_refl _⟩, okRows_closed hcl, zo⟩) rfl
    | tru q =>
      simp only [twoV, Option.some.injEq] at hr
      subst hr
      refine zQ ?_;refine zM lah ?_;refine zV lab ?_;refine zn ?_;refine zq ?_;refine zQ ?_;refine zV laa ?_;refine zV lag ?_;refine zV lak ?_;refine zV laj ?_;refine zV lac ?_;refine zV laa ?_;refine zI laa ?_;refine zI lag ?_;refine zI lak ?_;refine zI laj ?_;refine zI lac ?_;refine zV lax ?_;refine zn ?_;refine zcT ?_;refine zQ ?_
      refine zV (lal stuck_a) ?_
      refine zV lar ?_;refine zV lat ?_;refine zE laf ?_;refine zV lab ?_;refine zn ?_;refine zre ?_
      refine rq ?_
      exact ret_step (o := Out.stuck) (b := true) (by exact .inr rfl) (by exact rfl) (by exact rfl) rfl (by exact rfl) [] (by exact zo) (by exact ⟨⟨_, rfl, wkRow_refl _⟩, ⟨_, rfl, WkBlk.refl _⟩, zo⟩) (by exact rfl) (by exact ⟨mc_ok rfl ⟨_, _, _, _, rfl, Nat.le_refl _⟩, okRows_closed hcl, zo⟩) rfl
    | clo q1 q2 =>
      simp only [twoV, Option.some.injEq] at hr
      subst hr
      refine zQ ?_;refine zM lah ?_;refine zV lab ?_;refine zn ?_;refine zq ?_;refine zQ ?_;refine zV laa ?_;refine zV lag ?_;refine zV lak ?_;refine zV laj ?_;refine zV lac ?_;refine zV laa ?_;refine zI laa ?_;refine zI lag ?_;refine zI lak ?_;refine zI laj ?_;refine zI lac ?_;refine zV lax ?_;refine zn ?_;refine zcT ?_;refine zQ ?_
      refine zV (lal stuck_a) ?_
      refine zV lar ?_;refine zV lat ?_;refine zE laf ?_;refine zV lab ?_;refine zn ?_;refine zre ?_
      refine rq ?_
      exact ret_step (o := Out.stuck) (b := true) (by exact .inr rfl) (by exact rfl) (by exact rfl) rfl (by exact rfl) [] (by exact zo) (by exact ⟨⟨_, rfl, wkRow_refl _⟩, ⟨_, rfl, WkBlk.refl _⟩, zo⟩) (by exact rfl) (by exact ⟨mc_ok rfl ⟨_, _, _, _, rfl, Nat.le_refl _⟩, okRows_closed hcl, zo⟩) rfl
    | wrap q1 q2 q3 q4 q5 =>
      simp only [twoV, Option.some.injEq] at hr
      subst hr
      refine zQ ?_;refine zM lah ?_;refine zV lab ?_;refine zn ?_;refine zq ?_;refine zQ ?_;refine zV laa ?_;refine zV lag ?_;refine zV lak ?_;refine zV laj ?_;refine zV lac ?_;refine zV laa ?_;refine zI laa ?_;refine zI lag ?_;refine zI lak ?_;refine zI laj ?_;refine zI lac ?_;refine zV lax ?_;refine zn ?_;refine zcT ?_;refine zQ ?_
      refine zV (lal stuck_a) ?_
      refine zV lar ?_;refine zV lat ?_;refine zE laf ?_;refine zV lab ?_;refine zn ?_;refine zre ?_
      refine rq ?_
      exact ret_step (o := Out.stuck) (b := true) (by exact .inr rfl) (by exact rfl) (by exact rfl) rfl (by exact rfl) [] (by exact zo) (by exact ⟨⟨_, rfl, wkRow_refl _⟩, ⟨_, rfl, WkBlk.refl _⟩, zo⟩) (by exact rfl) (by exact ⟨mc_ok rfl ⟨_, _, _, _, rfl, Nat.le_refl _⟩, okRows_closed hcl, zo⟩) rfl
    | tag q1 q2 =>
      simp only [twoV, Option.some.injEq] at hr
      subst hr
      refine zQ ?_;refine zM lah ?_;refine zV lab ?_;refine zn ?_;refine zq ?_;refine zQ ?_;refine zV laa ?_;refine zV lag ?_;refine zV lak ?_;refine zV laj ?_;refine zV lac ?_;refine zV laa ?_;refine zI laa ?_;refine zI lag ?_;refine zI lak ?_;refine zI laj ?_;refine zI lac ?_;refine zV lax ?_;refine zn ?_;refine zcT ?_;refine zQ ?_
      refine zV (lal stuck_a) ?_
      refine zV lar ?_;refine zV lat ?_;refine zE laf ?_;refine zV lab ?_;refine zn ?_;refine zre ?_
      refine rq ?_
      exact ret_step (o := Out.stuck) (b := true) (by exact .inr rfl) (by exact rfl) (by exact rfl) rfl (by exact rfl) [] (by exact zo) (by exact ⟨⟨_, rfl, wkRow_refl _⟩, ⟨_, rfl, WkBlk.refl _⟩, zo⟩) (by exact rfl) (by exact ⟨mc_ok rfl ⟨_, _, _, _, rfl, Nat.le_refl _⟩, okRows_closed hcl, zo⟩) rfl
  | tru p =>
    simp only [twoV, Option.some.injEq] at hr
    subst hr
    refine zQ ?_;refine zM lah ?_;refine zV lab ?_;refine zn ?_;refine zq ?_;refine zQ ?_;refine zV laa ?_;refine zV lag ?_;refine zV lak ?_;refine zV laj ?_;refine zV lac ?_;refine zV laa ?_;refine zs ?_;refine zs ?_;refine zs ?_;refine zs ?_;refine zs ?_;refine zV laA ?_;refine zn ?_;refine zcT ?_;refine zQ ?_
    refine zV (lal stuck_a) ?_
    refine zV lar ?_;refine zV lat ?_;refine zE laf ?_;refine zV lab ?_;refine zn ?_;refine zre ?_
    refine rq ?_
    exact ret_step (o := Out.stuck) (b := true) (by exact .inr rfl) (by exact rfl) (by exact rfl) rfl (by exact rfl) [] (by exact zo) (by exact ⟨⟨_, rfl, wkRow_refl _⟩, ⟨_, rfl, WkBlk.refl _⟩, zo⟩) (by exact rfl) (by exact ⟨mc_ok rfl ⟨_, _, _, _, rfl, Nat.le_refl _⟩, okRows_closed hcl, zo⟩) rfl
  | clo p1 p2 =>
    simp only [twoV, Option.some.injEq] at hr
    subst hr
    refine zQ ?_;refine zM lah ?_;refine zV lab ?_;refine zn ?_;refine zq ?_;refine zQ ?_;refine zV laa ?_;refine zV lag ?_;refine zV lak ?_;refine zV laj ?_;refine zV lac ?_;refine zV laa ?_;refine zs ?_;refine zs ?_;refine zs ?_;refine zs ?_;refine zs ?_;refine zV laA ?_;refine zn ?_;refine zcT ?_;refine zQ ?_
    refine zV (lal stuck_a) ?_
    refine zV lar ?_;refine zV lat ?_;refine zE laf ?_;refine zV lab ?_;refine zn ?_;refine zre ?_
    refine rq ?_
    exact ret_step (o := Out.stuck) (b := true) (by exact .inr rfl) (by exact rfl) (by exact rfl) rfl (by exact rfl) [] (by exact zo) (by exact ⟨⟨_, rfl, wkRow_refl _⟩, ⟨_, rfl, WkBlk.refl _⟩, zo⟩) (by exact rfl) (by exact ⟨mc_ok rfl ⟨_, _, _, _, rfl, Nat.le_refl _⟩, okRows_closed hcl, zo⟩) rfl
  | wrap p1 p2 p3 p4 p5 =>
    simp only [twoV, Option.some.injEq] at hr
    subst hr
    refine zQ ?_;refine zM lah ?_;refine zV lab ?_;refine zn ?_;refine zq ?_;refine zQ ?_;refine zV laa ?_;refine zV lag ?_;refine zV lak ?_;refine zV laj ?_;refine zV lac ?_;refine zV laa ?_;refine zs ?_;refine zs ?_;refine zs ?_;refine zs ?_;refine zs ?_;refine zV laA ?_;refine zn ?_;refine zcT ?_;refine zQ ?_
    refine zV (lal stuck_a) ?_
    refine zV lar ?_;refine zV lat ?_;refine zE laf ?_;refine zV lab ?_;refine zn ?_;refine zre ?_
    refine rq ?_
    exact ret_step (o := Out.stuck) (b := true) (by exact .inr rfl) (by exact rfl) (by exact rfl) rfl (by exact rfl) [] (by exact zo) (by exact ⟨⟨_, rfl, wkRow_refl _⟩, ⟨_, rfl, WkBlk.refl _⟩, zo⟩) (by exact rfl) (by exact ⟨mc_ok rfl ⟨_, _, _, _, rfl, Nat.le_refl _⟩, okRows_closed hcl, zo⟩) rfl
  | tag p1 p2 =>
    simp only [twoV, Option.some.injEq] at hr
    subst hr
    refine zQ ?_;refine zM lah ?_;refine zV lab ?_;refine zn ?_;refine zq ?_;refine zQ ?_;refine zV laa ?_;refine zV lag ?_;refine zV lak ?_;refine zV laj ?_;refine zV lac ?_;refine zV laa ?_;refine zs ?_;refine zs ?_;refine zs ?_;refine zs ?_;refine zs ?_;refine zV laA ?_;refine zn ?_;refine zcT ?_;refine zQ ?_
    refine zV (lal stuck_a) ?_
    refine zV lar ?_;refine zV lat ?_;refine zE laf ?_;refine zV lab ?_;refine zn ?_;refine zre ?_
    refine rq ?_
    exact ret_step (o := Out.stuck) (b := true) (by exact .inr rfl) (by exact rfl) (by exact rfl) rfl (by exact rfl) [] (by exact zo) (by exact ⟨⟨_, rfl, wkRow_refl _⟩, ⟨_, rfl, WkBlk.refl _⟩, zo⟩) (by exact rfl) (by exact ⟨mc_ok rfl ⟨_, _, _, _, rfl, Nat.le_refl _⟩, okRows_closed hcl, zo⟩) rfl
end Go.Proofs.YtnflnbdlgdjfmabGreatDoor
namespace Go.Proofs.YtnflnbdlgdjfmabGreatDoor
open Go.RowKit
set_option linter.unusedVariables false
set_option linter.unusedSimpArgs false
set_option maxRecDepth 100000
attribute [local irreducible] RunL AW LocOp ACalls Gh
def MOk (m : Mch) (cells : List C) (vv n : Nat) : Prop :=
  match m.ctl with
  | .ent t env => cells = mCells t env .nilp vv n m.fuel
  | .val v => ∃ t env, cells = mCells t env v.p vv n m.fuel
def Does (f : FuncId) (us : List U) (O : List (Nat × Blk)) (vv0 : Nat) : Mch ⊕ Out → Prop
  | .inl m => ∃ cells vv n rows, vv0 ≤ vv ∧ MOk m cells vv n ∧ StkOk m.stk n rows ∧ ACalls Tryz.prog f us O (.tup [Out.zero.u, .one (.bool false)]) [(1000, .obj cells), (1001, .row 118 16 vv rows)]
  | .inr o => ∃ t env vv n F rows, vv0 ≤ vv ∧ closedRows rows = true ∧ ACalls Tryz.prog f us O (.tup [o.u, .one (.bool true)]) [(1000, .obj (mCells t env .nilp vv n F)), (1001, .row 118 16 vv rows)]
theorem cloClosed {b : Tm} {env : List V} : closedRow [.int .i64 3, .int .i64 0, .int .i64 b.k, .int .i64 b.n, .int .i64 b.t.k, slOf 2 (tyRows b.t.l), .int .i64 b.f.k, slOf 2 (tyRows b.f.l), slOf 7 (tmRows b.l), envC env, .nilp, .int .i64 0, .nilsl, .int .i64 0, .nilsl, .int .i64 0, .bool false] = true := by
  simp only [closedRow, closed_envC]; rfl
set_option maxHeartbeats 20000000 in
theorem enter_a (t : Tm) (env : List V) (s : List Fr) (F vv n : Nat) (rows : List (List C)) (hs : StkOk s n rows) (hL : s.length ≤ 100000000000) (hn : t.n ≤ 9223372036854775807) (r : Mch ⊕ Out) (hr : enterM t env s F = some r) :
    Does 64 [.one (.ptr 1000 0)] [(1000, .obj (mCells t env (.nilp) vv n F)), (1001, .row 118 16 vv rows)] vv r := by
  have hcl := hs.cl
  unfold enterM at hr
  cases h1 : (t.k == 1) with
  | true =>
    rw [h1, if_pos rfl] at hr
    obtain ⟨N, hN2⟩ : ∃ N : Nat, t.n.toNat = N := ⟨_, rfl⟩
    rw [hN2] at hr
    have hNmax : N ≤ 9223372036854775807 := by omega
    cases hv : env[N]? with
    | some v =>
      rw [hv] at hr
      cases hr
      refine ⟨_, vv, n, rows, Nat.le_refl _, ⟨t, env, rfl⟩, hs, ?_⟩
      refine acalls_of_body Tryz.func64 rfl (by kernel_rfl) (Nat.le_of_ble_eq_true rfl) (by exact ⟨⟨rfl, zo⟩, ⟨rfl, Nat.le_refl _⟩, zo⟩) (by simp [namesL]) ?_
      refine zQ ?_;refine zM lah ?_;refine zV lab ?_;refine zn ?_;refine zQ ?_;refine zV laa ?_;refine zV lag ?_;refine zV lad ?_;refine zV (lai rfl rfl (by exact Cut.cons (by exact rfl) (Cut.cons (by exact rfl) (Cut.cons (by exact rfl) (Cut.cons (by exact rfl) (Cut.cons (by exact rfl) (Cut.cons (by exact rfl) (Cut.cons (by exact rfl) Cut.nil)))))))) ?_;refine zM lah ?_;refine zE laf ?_;refine zn ?_;refine zq ?_;refine zQ ?_;refine zV lad ?_;refine zV lae ?_;refine zn ?_;refine zbl ?_;refine zQ ?_;refine zV lac ?_;refine zV lab ?_;refine zn ?_;refine zaT ?_;refine zQ ?_;refine zV laa ?_;refine zV lag ?_;refine zV lad ?_;refine zV lae ?_;refine zV lab ?_;refine zn ?_;refine zq ?_;refine zQ ?_;refine zV lab ?_;refine zn ?_;refine zbl ?_
      refine AW.gh (gh_lit [(0, .one (.ptr 1000 0)), (2, .one (.ptr 2 0)), (3, .one (.bool false)), (4, .one (.ptr 4 0)), (5, .one (envC (env))), (6, .one (.int .i64 ((0 : Nat) : Int)))] [(1000, .obj (mCells t env .nilp vv n F)), (1001, .row 118 16 vv rows), (2, .obj Out.zero.c), (4, .obj t.c)] [] [] ⟨(zw rfl zo), (zw rfl zo), (zw rfl zo), (zw rfl zo), (by exact WkU.of_eq rfl zo), (zw rfl zo), zo⟩ ⟨(by exact zb rfl), (by exact zb rfl), (by exact zb rfl), (by exact zb rfl), zo⟩ trivial zo rfl rfl ⟨⟨_, rfl⟩, ⟨_, rfl⟩, zo, ⟨_, rfl⟩, (ok_envC _), zo, zo⟩ ⟨(by exact ⟨zo, zo, zo, zo, zo, zo, zo, ok_envC _, zo, ⟨_, _, _, _, rfl, Nat.le_refl _⟩, zo, zo⟩), (okRows_closed (by assumption)), (by exact ⟨zo, zo, zo, zo⟩), (by exact ⟨zo, zo, zo, zo, zo, zo, zo, zo⟩), zo⟩) ?_
      refine AW.loop (fun m t' h => ∃ (i : Nat) (e : List V), e = env.drop i ∧ i ≤ N ∧ m = N - i ∧ t' = tOfL [(0, .one (.ptr 1000 0)), (2, .one (.ptr 2 0)), (3, .one (.bool false)), (4, .one (.ptr 4 0)), (5, .one (envC (e))), (6, .one (.int .i64 ((i : Nat) : Int)))] ∧ h = ofL [(1000, .obj (mCells t env .nilp vv n F)), (1001, .row 118 16 vv rows), (2, .obj Out.zero.c), (4, .obj t.c)]) N ⟨0, env, (by simp), Nat.zero_le _, rfl, rfl, rfl⟩ ?_
      rintro m t' h ⟨i, e, he, hi, rfl, rfl, rfl⟩
      cases hlt : decide ((i : Int) < t.n) with
      | true =>
        have hiN : i < N := by have := of_decide_eq_true hlt; omega
        cases e with
        | nil =>
          exfalso
          have h3 := (List.getElem?_eq_some_iff.1 hv).1
          have h4 := congrArg List.length he
          simp at h4; omega
        | cons u e =>
          have he' : e = env.drop (i + 1) := by
            have h3 := congrArg (List.drop 1) he
            simpa [List.drop_drop, Nat.add_comm] using h3
          refine zq ?_;refine zQ ?_;refine zV laa ?_;refine zV lad ?_;refine zV lae ?_;refine zV lac ?_;refine zV laa ?_;refine zT laa ?_;refine zT (loc_neNilT rfl rfl rfl) ?_;refine zV (lam true) ?_;refine zn ?_;refine zcT ?_;refine zsk ?_;refine zq ?_;refine zbl ?_;refine zR ?_;refine zV laa ?_;refine zV lag ?_;refine zV lak ?_;refine zV laj ?_;refine zV lab ?_;refine zn ?_;refine zR ?_;refine zV laa ?_;refine zV laB ?_;refine zV lab ?_;refine zn ?_
          exact ⟨N - (i + 1), _, _, by omega, (gh_lit [(0, .one (.ptr 1000 0)), (2, .one (.ptr 2 0)), (3, .one (.bool false)), (4, .one (.ptr 4 0)), (5, .one (envC (e))), (6, .one (.int .i64 (((i + 1) : Nat) : Int)))] [(1000, .obj (mCells t env .nilp vv n F)), (1001, .row 118 16 vv rows), (2, .obj Out.zero.c), (4, .obj t.c)] [] [] ⟨(zw rfl zo), (zw rfl zo), (zw rfl zo), (zw rfl zo), (by exact WkU.of_eq rfl zo), (zw rfl zo), zo⟩ ⟨(by exact zb rfl), (by exact zb rfl), (by exact zb rfl), (by exact zb rfl), zo⟩ trivial zo rfl rfl ⟨⟨_, rfl⟩, ⟨_, rfl⟩, zo, ⟨_, rfl⟩, (ok_envC _), zo, zo⟩ ⟨(by exact ⟨zo, zo, zo, zo, zo, zo, zo, ok_envC _, zo, ⟨_, _, _, _, rfl, Nat.le_refl _⟩, zo, zo⟩), (okRows_closed (by assumption)), (by exact ⟨zo, zo, zo, zo⟩), (by exact ⟨zo, zo, zo, zo, zo, zo, zo, zo⟩), zo⟩), i + 1, e, he', by omega, rfl, rfl, rfl⟩
      | false =>
        have hiN : i = N := by have := of_decide_eq_false hlt; omega
        subst hiN
        cases e with
        | nil =>
          exfalso
          have h3 := (List.getElem?_eq_some_iff.1 hv).1
          have h4 := congrArg List.length he
          simp at h4; omega
        | cons u e =>
          have hu : u = v := by
            have h3 := congrArg (fun l => l[0]?) he
            simp only [List.getElem?_drop, Nat.add_zero, hv, List.getElem?_cons_zero, Option.some.injEq] at h3
            exact h3
          subst hu
          refine zq ?_;refine zQ ?_;refine zV laa ?_;refine zV lad ?_;refine zV lae ?_;refine zV lac ?_;refine zV laa ?_;refine zf ?_;refine zf ?_;refine zV (lam false) ?_;refine zn ?_;refine zcF ?_;refine zex ?_;refine zq ?_;refine zQ ?_;refine zV laa ?_;refine zV (laT rfl rfl rfl) ?_;refine zn ?_;refine zcF ?_;refine zsk ?_;refine zR ?_;refine zV laa ?_;refine zV laa ?_;refine zV lag ?_;refine zV lak ?_;refine zV laj ?_;refine zV lag ?_;refine zV lad ?_;refine zE lav ?_;refine zn ?_;refine zQ ?_
          refine zV (lal goes_a) ?_
          refine zV lar ?_;refine zV lat ?_;refine zE laf ?_;refine zV lab ?_;refine zn ?_;refine zre ?_
          refine rq ?_
          exact ret_step (o := Out.zero) (b := false) (by exact .inr rfl) (by exact rfl) (by exact rfl) rfl (by exact rfl) [] (by exact zo) (by exact ⟨⟨_, rfl, wkRow_refl _⟩, ⟨_, rfl, WkBlk.refl _⟩, zo⟩) (by exact rfl) (by exact ⟨mc_ok rfl ⟨_, _, _, _, rfl, Nat.le_refl _⟩, okRows_closed hcl, zo⟩) rfl
    | none =>
      rw [hv] at hr
      cases hr
      refine ⟨t, env, vv, n, F, rows, Nat.le_refl _, hcl, ?_⟩
      refine acalls_of_body Tryz.func64 rfl (by kernel_rfl) (Nat.le_of_ble_eq_true rfl) (by exact ⟨⟨rfl, zo⟩, ⟨rfl, Nat.le_refl _⟩, zo⟩) (by simp [namesL]) ?_
      refine zQ ?_;refine zM lah ?_;refine zV lab ?_;refine zn ?_;refine zQ ?_;refine zV laa ?_;refine zV lag ?_;refine zV lad ?_;refine zV (lai rfl rfl (by exact Cut.cons (by exact rfl) (Cut.cons (by exact rfl) (Cut.cons (by exact rfl) (Cut.cons (by exact rfl) (Cut.cons (by exact rfl) (Cut.cons (by exact rfl) (Cut.cons (by exact rfl) Cut.nil)))))))) ?_;refine zM lah ?_;refine zE laf ?_;refine zn ?_;refine zq ?_;refine zQ ?_;refine zV lad ?_;refine zV lae ?_;refine zn ?_;refine zbl ?_;refine zQ ?_;refine zV lac ?_;refine zV lab ?_;refine zn ?_;refine zaT ?_;refine zQ ?_;refine zV laa ?_;refine zV lag ?_;refine zV lad ?_;refine zV lae ?_;refine zV lab ?_;refine zn ?_;refine zq ?_;refine zQ ?_;refine zV lab ?_;refine zn ?_;refine zbl ?_
      refine AW.gh (gh_lit [(0, .one (.ptr 1000 0)), (2, .one (.ptr 2 0)), (3, .one (.bool false)), (4, .one (.ptr 4 0)), (5, .one (envC (env))), (6, .one (.int .i64 ((0 : Nat) : Int)))] [(1000, .obj (mCells t env .nilp vv n F)), (1001, .row 118 16 vv rows), (2, .obj Out.zero.c), (4, .obj t.c)] [] [] ⟨(zw rfl zo), (zw rfl zo), (zw rfl zo), (zw rfl zo), (by exact WkU.of_eq rfl zo), (zw rfl zo), zo⟩ ⟨(by exact zb rfl), (by exact zb rfl), (by exact zb rfl), (by exact zb rfl), zo⟩ trivial zo rfl rfl ⟨⟨_, rfl⟩, ⟨_, rfl⟩, zo, ⟨_, rfl⟩, (ok_envC _), zo, zo⟩ ⟨(by exact ⟨zo, zo, zo, zo, zo, zo, zo, ok_envC _, zo, ⟨_, _, _, _, rfl, Nat.le_refl _⟩, zo, zo⟩), (okRows_closed (by assumption)), (by exact ⟨zo, zo, zo, zo⟩), (by exact ⟨zo, zo, zo, zo, zo, zo, zo, zo⟩), zo⟩) ?_
      refine AW.loop (fun m t' h => ∃ (i : Nat) (e : List V), e = env.drop i ∧ i ≤ N ∧ m = N - i ∧ t' = tOfL [(0, .one (.ptr 1000 0)), (2, .one (.ptr 2 0)), (3, .one (.bool false)), (4, .one (.ptr 4 0)), (5, .one (envC (e))), (6, .one (.int .i64 ((i : Nat) : Int)))] ∧ h = ofL [(1000, .obj (mCells t env .nilp vv n F)), (1001, .row 118 16 vv rows), (2, .obj Out.zero.c), (4, .obj t.c)]) N ⟨0, env, (by simp), Nat.zero_le _, rfl, rfl, rfl⟩ ?_
      rintro m t' h ⟨i, e, he, hi, rfl, rfl, rfl⟩
      cases hlt : decide ((i : Int) < t.n) with
      | true =>
        have hiN : i < N := by have := of_decide_eq_true hlt; omega
        cases e with
        | nil =>
          refine zq ?_;refine zQ ?_;refine zV laa ?_;refine zV lad ?_;refine zV lae ?_;refine zV lac ?_;refine zV laa ?_;refine zT laa ?_;refine zT (loc_neNilF rfl rfl) ?_;refine zV (lam true) ?_;refine zn ?_;refine zcF ?_;refine zex ?_;refine zq ?_;refine zQ ?_;refine zV laa ?_;refine zV (laS rfl rfl) ?_;refine zn ?_;refine zcT ?_;refine zQ ?_
          refine zV (lal stuck_a) ?_
          refine zV lar ?_;refine zV lat ?_;refine zE laf ?_;refine zV lab ?_;refine zn ?_;refine zre ?_
          refine rq ?_
          exact ret_step (o := Out.stuck) (b := true) (by exact .inr rfl) (by exact rfl) (by exact rfl) rfl (by exact rfl) [] (by exact zo) (by exact ⟨⟨_, rfl, wkRow_refl _⟩, ⟨_, rfl, WkBlk.refl _⟩, zo⟩) (by exact rfl) (by exact ⟨mc_ok rfl ⟨_, _, _, _, rfl, Nat.le_refl _⟩, okRows_closed hcl, zo⟩) rfl
        | cons u e =>
          have he' : e = env.drop (i + 1) := by
            have h3 := congrArg (List.drop 1) he
            simpa [List.drop_drop, Nat.add_comm] using h3
          refine zq ?_;refine zQ ?_;refine zV laa ?_;refine zV lad ?_;refine zV lae ?_;refine zV lac ?_;refine zV laa ?_;refine zT laa ?_;refine zT (loc_neNilT rfl rfl rfl) ?_;refine zV (lam true) ?_;refine zn ?_;refine zcT ?_;refine zsk ?_;refine zq ?_;refine zbl ?_;refine zR ?_;refine zV laa ?_;refine zV lag ?_;refine zV lak ?_;refine zV laj ?_;refine zV lab ?_;refine zn ?_;refine zR ?_;refine zV laa ?_;refine zV laB ?_;refine zV lab ?_;refine zn ?_
          exact ⟨N - (i + 1), _, _, by omega, (gh_lit [(0, .one (.ptr 1000 0)), (2, .one (.ptr 2 0)), (3, .one (.bool false)), (4, .one (.ptr 4 0)), (5, .one (envC (e))), (6, .one (.int .i64 (((i + 1) : Nat) : Int)))] [(1000, .obj (mCells t env .nilp vv n F)), (1001, .row 118 16 vv rows), (2, .obj Out.zero.c), (4, .obj t.c)] [] [] ⟨(zw rfl zo), (zw rfl zo), (zw rfl zo), (zw rfl zo), (by exact WkU.of_eq rfl zo), (zw rfl zo), zo⟩ ⟨(by exact zb rfl), (by exact zb rfl), (by exact zb rfl), (by exact zb rfl), zo⟩ trivial zo rfl rfl ⟨⟨_, rfl⟩, ⟨_, rfl⟩, zo, ⟨_, rfl⟩, (ok_envC _), zo, zo⟩ ⟨(by exact ⟨zo, zo, zo, zo, zo, zo, zo, ok_envC _, zo, ⟨_, _, _, _, rfl, Nat.le_refl _⟩, zo, zo⟩), (okRows_closed (by assumption)), (by exact ⟨zo, zo, zo, zo⟩), (by exact ⟨zo, zo, zo, zo, zo, zo, zo, zo⟩), zo⟩), i + 1, e, he', by omega, rfl, rfl, rfl⟩
      | false =>
        have hiN : i = N := by have := of_decide_eq_false hlt; omega
        subst hiN
        cases e with
        | nil =>
          refine zq ?_;refine zQ ?_;refine zV laa ?_;refine zV lad ?_;refine zV lae ?_;refine zV lac ?_;refine zV laa ?_;refine zf ?_;refine zf ?_;refine zV (lam false) ?_;refine zn ?_;refine zcF ?_;refine zex ?_;refine zq ?_;refine zQ ?_;refine zV laa ?_;refine zV (laS rfl rfl) ?_;refine zn ?_;refine zcT ?_;refine zQ ?_
          refine zV (lal stuck_a) ?_
          refine zV lar ?_;refine zV lat ?_;refine zE laf ?_;refine zV lab ?_;refine zn ?_;refine zre ?_
          refine rq ?_
          exact ret_step (o := Out.stuck) (b := true) (by exact .inr rfl) (by exact rfl) (by exact rfl) rfl (by exact rfl) [] (by exact zo) (by exact ⟨⟨_, rfl, wkRow_refl _⟩, ⟨_, rfl, WkBlk.refl _⟩, zo⟩) (by exact rfl) (by exact ⟨mc_ok rfl ⟨_, _, _, _, rfl, Nat.le_refl _⟩, okRows_closed hcl, zo⟩) rfl
        | cons u e =>
          exfalso
          have h3 := List.getElem?_eq_none_iff.1 hv
          have h4 := congrArg List.length he
          simp at h4; omega
  | false =>
  rw [h1, if_neg (by decide)] at hr
  cases h2 : (t.k == 2) with
  | true =>
    rw [h2, if_pos rfl] at hr
    cases hr
    refine ⟨_, vv, n, rows, Nat.le_refl _, ⟨t, env, rfl⟩, hs, ?_⟩
    refine acalls_of_body Tryz.func64 rfl (by kernel_rfl) (Nat.le_of_ble_eq_true rfl) (by exact ⟨⟨rfl, zo⟩, ⟨rfl, Nat.le_refl _⟩, zo⟩) (by simp [namesL]) ?_
    refine zQ ?_;refine zM lah ?_;refine zV lab ?_;refine zn ?_;refine zQ ?_;refine zV laa ?_;refine zV lag ?_;refine zV lad ?_;refine zV (lai rfl rfl (by exact Cut.cons (by exact rfl) (Cut.cons (by exact rfl) (Cut.cons (by exact rfl) (Cut.cons (by exact rfl) (Cut.cons (by exact rfl) (Cut.cons (by exact rfl) (Cut.cons (by exact rfl) Cut.nil)))))))) ?_;refine zM lah ?_;refine zE laf ?_;refine zn ?_;refine zq ?_;refine zQ ?_;refine zV lad ?_;refine zV lae ?_;refine zn ?_;refine zbl ?_;refine zQ ?_;refine zV lac ?_;refine zV lab ?_;refine zn ?_;refine zaF ?_;refine zQ ?_;refine zV lac ?_;refine zV lab ?_;refine zn ?_;refine zaT ?_;refine zR ?_;refine zV laa ?_;refine zV lad ?_;refine zV lae ?_;refine zV laq ?_;refine zM lan ?_;refine zV lag ?_;refine zV lad ?_;refine zE lav ?_;refine zn ?_;refine zQ ?_
    refine zV (lal goes_a) ?_
    refine zV lar ?_;refine zV lat ?_;refine zE laf ?_;refine zV lab ?_;refine zn ?_;refine zre ?_
    refine rq ?_
    exact ret_step (o := Out.zero) (b := false) (by exact .inr rfl) (by exact rfl) (by exact rfl) rfl (by exact rfl) [68] (by exact ⟨⟨_, rfl, rfl⟩, zo⟩) (by exact ⟨⟨_, rfl, (by exact mc_put (c := .ptr 68 0) (.obj (List.mem_cons_self ..) rfl numLe))⟩, ⟨_, rfl, WkBlk.refl _⟩, zo⟩) (by exact rfl) (by exact ⟨mc_ok rfl ⟨_, _, _, _, rfl, Nat.le_refl _⟩, okRows_closed hcl, zo⟩) rfl
  | false =>
  rw [h2, if_neg (by decide)] at hr
  cases h3 : (t.k == 3) with
  | true =>
    rw [h3, if_pos rfl] at hr
    cases hr
    refine ⟨_, vv, n, rows, Nat.le_refl _, ⟨t, env, rfl⟩, hs, ?_⟩
    refine acalls_of_body Tryz.func64 rfl (by kernel_rfl) (Nat.le_of_ble_eq_true rfl) (by exact ⟨⟨rfl, zo⟩, ⟨rfl, Nat.le_refl _⟩, zo⟩) (by simp [namesL]) ?_
    refine zQ ?_;refine zM lah ?_;refine zV lab ?_;refine zn ?_;refine zQ ?_;refine zV laa ?_;refine zV lag ?_;refine zV lad ?_;refine zV (lai rfl rfl (by exact Cut.cons (by exact rfl) (Cut.cons (by exact rfl) (Cut.cons (by exact rfl) (Cut.cons (by exact rfl) (Cut.cons (by exact rfl) (Cut.cons (by exact rfl) (Cut.cons (by exact rfl) Cut.nil)))))))) ?_;refine zM lah ?_;refine zE laf ?_;refine zn ?_;refine zq ?_;refine zQ ?_;refine zV lad ?_;refine zV lae ?_;refine zn ?_;refine zbl ?_;refine zQ ?_;refine zV lac ?_;refine zV lab ?_;refine zn ?_;refine zaF ?_;refine zQ ?_;refine zV lac ?_;refine zV lab ?_;refine zn ?_;refine zaF ?_;refine zQ ?_;refine zV lac ?_;refine zV lab ?_;refine zn ?_;refine zaT ?_;refine zR ?_;refine zV laa ?_;refine zV lad ?_;refine zV lae ?_;refine zV laq ?_;refine zM lan ?_;refine zV lag ?_;refine zV lad ?_;refine zE lav ?_;refine zn ?_;refine zQ ?_
    refine zV (lal goes_a) ?_
    refine zV lar ?_;refine zV lat ?_;refine zE laf ?_;refine zV lab ?_;refine zn ?_;refine zre ?_
    refine rq ?_
    exact ret_step (o := Out.zero) (b := false) (by exact .inr rfl) (by exact rfl) (by exact rfl) rfl (by exact rfl) [77] (by exact ⟨⟨_, rfl, rfl⟩, zo⟩) (by exact ⟨⟨_, rfl, (by exact mc_put (c := .ptr 77 0) (.obj (List.mem_cons_self ..) rfl truLe))⟩, ⟨_, rfl, WkBlk.refl _⟩, zo⟩) (by exact rfl) (by exact ⟨mc_ok rfl ⟨_, _, _, _, rfl, Nat.le_refl _⟩, okRows_closed hcl, zo⟩) rfl
  | false =>
  rw [h3, if_neg (by decide)] at hr
  cases hl : t.l with
  | nil => rw [hl] at hr; cases hr
  | cons b l =>
  rw [hl] at hr
  have hr0 : (tmRows t.l)[0]? = some b.c := by rw [hl]; simp [tmRows, Tm.cells_c]
  simp only at hr
  cases h7 : (t.k == 7) with
  | true =>
    rw [h7, if_pos rfl] at hr
    cases hr
    refine ⟨_, vv, n, rows, Nat.le_refl _, ⟨t, env, rfl⟩, hs, ?_⟩
    refine acalls_of_body Tryz.func64 rfl (by kernel_rfl) (Nat.le_of_ble_eq_true rfl) (by exact ⟨⟨rfl, zo⟩, ⟨rfl, Nat.le_refl _⟩, zo⟩) (by simp [namesL]) ?_
    refine zQ ?_;refine zM lah ?_;refine zV lab ?_;refine zn ?_;refine zQ ?_;refine zV laa ?_;refine zV lag ?_;refine zV lad ?_;refine zV (lai rfl rfl (by exact Cut.cons (by exact rfl) (Cut.cons (by exact rfl) (Cut.cons (by exact rfl) (Cut.cons (by exact rfl) (Cut.cons (by exact rfl) (Cut.cons (by exact rfl) (Cut.cons (by exact rfl) Cut.nil)))))))) ?_;refine zM lah ?_;refine zE laf ?_;refine zn ?_;refine zq ?_;refine zQ ?_;refine zV lad ?_;refine zV lae ?_;refine zn ?_;refine zbl ?_;refine zQ ?_;refine zV lac ?_;refine zV lab ?_;refine zn ?_;refine zaF ?_;refine zQ ?_;refine zV lac ?_;refine zV lab ?_;refine zn ?_;refine zaF ?_;refine zQ ?_;refine zV lac ?_;refine zV lab ?_;refine zn ?_;refine zaF ?_;refine zQ ?_;refine zV lac ?_;refine zV lab ?_;refine zn ?_;refine zaT ?_;refine zRD ?_;refine zV laa ?_;refine zV lad ?_;refine zV lae ?_;refine zV (lap _) ?_;refine zV lao ?_;refine zV laa ?_;refine zV lag ?_;refine zV lad ?_;refine zV lae ?_;refine zV laq ?_;refine zM lan ?_;refine zV lag ?_;refine zV lad ?_;refine zE lav ?_;refine znD ?_;refine zQ ?_
    refine zV (lal goes_a) ?_
    refine zV lar ?_;refine zV lat ?_;refine zE laf ?_;refine zV lab ?_;refine zn ?_;refine zre ?_
    refine rq ?_
    exact ret_step (o := Out.zero) (b := false) (by exact .inr rfl) (by exact rfl) (by exact rfl) rfl (by exact rfl) [92] (by exact ⟨⟨_, rfl, cloClosed⟩, zo⟩) (by exact ⟨⟨_, rfl, (by exact mc_put (c := .ptr 92 0) (.obj (List.mem_cons_self ..) rfl cloLe))⟩, ⟨_, rfl, WkBlk.refl _⟩, zo⟩) (by exact rfl) (by exact ⟨mc_ok rfl ⟨_, _, _, _, rfl, Nat.le_refl _⟩, okRows_closed hcl, zo⟩) rfl
  | false =>
  rw [h7, if_neg (by decide)] at hr
  cases h10 : (t.k == 10) with
  | true =>
    rw [h10, if_pos rfl] at hr
    cases hr
    have hpcl := (hs.push (.casts t.f t.t t.n false)).cl
    refine ⟨_, vv + 1, n + 1, _, Nat.le_succ _, (by exact rfl), hs.push _, ?_⟩
    refine acalls_of_body Tryz.func64 rfl (by kernel_rfl) (Nat.le_of_ble_eq_true rfl) (by exact ⟨⟨rfl, zo⟩, ⟨rfl, Nat.le_succ _⟩, zo⟩) (by simp [namesL]) ?_
    refine zQ ?_;refine zM lah ?_;refine zV lab ?_;refine zn ?_;refine zQ ?_;refine zV laa ?_;refine zV lag ?_;refine zV lad ?_;refine zV (lai rfl rfl (by exact Cut.cons (by exact rfl) (Cut.cons (by exact rfl) (Cut.cons (by exact rfl) (Cut.cons (by exact rfl) (Cut.cons (by exact rfl) (Cut.cons (by exact rfl) (Cut.cons (by exact rfl) Cut.nil)))))))) ?_;refine zM lah ?_;refine zE laf ?_;refine zn ?_;refine zq ?_;refine zQ ?_;refine zV lad ?_;refine zV lae ?_;refine zn ?_;refine zbl ?_;refine zQ ?_;refine zV lac ?_;refine zV lab ?_;refine zn ?_;refine zaF ?_;refine zQ ?_;refine zV lac ?_;refine zV lab ?_;refine zn ?_;refine zaF ?_;refine zQ ?_;refine zV lac ?_;refine zV lab ?_;refine zn ?_;refine zaF ?_;refine zQ ?_;refine zV lac ?_;refine zV lab ?_;refine zn ?_;refine zaF ?_;refine zQ ?_;refine zV lac ?_;refine zV lab ?_;refine zn ?_;refine zaT ?_;refine zQ ?_;refine zV laa ?_;refine zV lad ?_;refine zV (lai rfl rfl (by exact Cut.cons (by exact rfl) (Cut.cons (by exact rfl) Cut.nil))) ?_;refine zV lad ?_;refine zV (lai rfl rfl (by exact Cut.cons (by exact rfl) (Cut.cons (by exact rfl) Cut.nil))) ?_;refine zV lad ?_;refine zV lae ?_;refine zV laq ?_
    refine zY (las (push_a (.casts t.f t.t t.n false) t env .nilp rfl vv n F rows hs.le hcl (by have := hs.len; omega)) rfl (by refine ⟨_, _, rfl, (by exact LeU.of_eq rfl zo), (by exact Exists.intro _ rfl), ?_⟩;refine ⟨_, _, rfl, (by (refine LeU.agg' rfl ?_;exact ⟨LeC.refl _, LeC.refl _, LeC.refl _, LeC.refl _, LeC.nil _, LeC.refl _, LeC.nil _, LeC.nil _, LeC.refl _, LeC.refl _, LeC.refl _, LeC.refl _, LeC.refl _, LeC.refl _, LeC.refl _, LeC.refl _, zo⟩)), (by exact ⟨zo, zo, zo, zo, zo, zo, zo, zo, zo, zo, zo, zo, zo, zo, zo, zo, zo⟩), ?_⟩;exact rfl) (by exact ⟨rfl, rfl, zo⟩) (by exact rfl) (by simp [namesL]) (by exact ⟨mc_ok rfl ⟨_, _, _, _, rfl, Nat.le_refl _⟩, okRows_closed hcl, zo⟩)) ?_
    refine zn ?_;refine zR ?_;refine zV laa ?_;refine zV lad ?_;refine zV lae ?_;refine zV (lap _) ?_;refine zV lao ?_;refine zV lag ?_;refine zV lad ?_;refine zE lav ?_;refine zn ?_;refine zQ ?_
    refine zV (lal goes_a) ?_
    refine zV lar ?_;refine zV lat ?_;refine zE laf ?_;refine zV lab ?_;refine zn ?_;refine zre ?_
    refine rq ?_
    exact ret_step (o := Out.zero) (b := false) (by exact .inr rfl) (by exact rfl) (by exact rfl) rfl (by exact rfl) [] (by exact zo) (by exact ⟨⟨_, rfl, wkRow_refl _⟩, ⟨_, rfl, WkBlk.refl _⟩, zo⟩) (by exact rfl) (by exact ⟨mc_ok rfl ⟨_, _, _, _, rfl, Nat.le_refl _⟩, okRows_closed hpcl, zo⟩) rfl
  | false =>
  rw [h10, if_neg (by decide)] at hr
  cases h9 : (t.k == 9) with
  | true =>
    rw [h9, if_pos rfl] at hr
    cases hr
    refine ⟨_, vv, n, rows, Nat.le_refl _, (by exact rfl), hs, ?_⟩
    refine acalls_of_body Tryz.func64 rfl (by kernel_rfl) (Nat.le_of_ble_eq_true rfl) (by exact ⟨⟨rfl, zo⟩, ⟨rfl, Nat.le_refl _⟩, zo⟩) (by simp [namesL]) ?_
    refine zQ ?_;refine zM lah ?_;refine zV lab ?_;refine zn ?_;refine zQ ?_;refine zV laa ?_;refine zV lag ?_;refine zV lad ?_;refine zV (lai rfl rfl (by exact Cut.cons (by exact rfl) (Cut.cons (by exact rfl) (Cut.cons (by exact rfl) (Cut.cons (by exact rfl) (Cut.cons (by exact rfl) (Cut.cons (by exact rfl) (Cut.cons (by exact rfl) Cut.nil)))))))) ?_;refine zM lah ?_;refine zE laf ?_;refine zn ?_;refine zq ?_;refine zQ ?_;refine zV lad ?_;refine zV lae ?_;refine zn ?_;refine zbl ?_;refine zQ ?_;refine zV lac ?_;refine zV lab ?_;refine zn ?_;refine zaF ?_;refine zQ ?_;refine zV lac ?_;refine zV lab ?_;refine zn ?_;refine zaF ?_;refine zQ ?_;refine zV lac ?_;refine zV lab ?_;refine zn ?_;refine zaF ?_;refine zQ ?_;refine zV lac ?_;refine zV lab ?_;refine zn ?_;refine zaF ?_;refine zQ ?_;refine zV lac ?_;refine zV lab ?_;refine zn ?_;refine zaF ?_;refine zQ ?_;refine zV lac ?_;refine zV lab ?_;refine zn ?_;refine zaT ?_;refine zR ?_;refine zV laa ?_;refine zV lad ?_;refine zV lae ?_;refine zV (lap _) ?_;refine zV lao ?_;refine zV lag ?_;refine zV lad ?_;refine zE lav ?_;refine zn ?_;refine zQ ?_
    refine zV (lal goes_a) ?_
    refine zV lar ?_;refine zV lat ?_;refine zE laf ?_;refine zV lab ?_;refine zn ?_;refine zre ?_
    refine rq ?_
    exact ret_step (o := Out.zero) (b := false) (by exact .inr rfl) (by exact rfl) (by exact rfl) rfl (by exact rfl) [] (by exact zo) (by exact ⟨⟨_, rfl, wkRow_refl _⟩, ⟨_, rfl, WkBlk.refl _⟩, zo⟩) (by exact rfl) (by exact ⟨mc_ok rfl ⟨_, _, _, _, rfl, Nat.le_refl _⟩, okRows_closed hcl, zo⟩) rfl
  | false =>
    rw [h9, if_neg (by decide)] at hr
    cases hr
    have hpcl := (hs.push (.term t env)).cl
    refine ⟨_, vv + 1, n + 1, _, Nat.le_succ _, (by exact rfl), hs.push _, ?_⟩
    refine acalls_of_body Tryz.func64 rfl (by kernel_rfl) (Nat.le_of_ble_eq_true rfl) (by exact ⟨⟨rfl, zo⟩, ⟨rfl, Nat.le_succ _⟩, zo⟩) (by simp [namesL]) ?_
    refine zQ ?_;refine zM lah ?_;refine zV lab ?_;refine zn ?_;refine zQ ?_;refine zV laa ?_;refine zV lag ?_;refine zV lad ?_;refine zV (lai rfl rfl (by exact Cut.cons (by exact rfl) (Cut.cons (by exact rfl) (Cut.cons (by exact rfl) (Cut.cons (by exact rfl) (Cut.cons (by exact rfl) (Cut.cons (by exact rfl) (Cut.cons (by exact rfl) Cut.nil)))))))) ?_;refine zM lah ?_;refine zE laf ?_;refine zn ?_;refine zq ?_;refine zQ ?_;refine zV lad ?_;refine zV lae ?_;refine zn ?_;refine zbl ?_;refine zQ ?_;refine zV lac ?_;refine zV lab ?_;refine zn ?_;refine zaF ?_;refine zQ ?_;refine zV lac ?_;refine zV lab ?_;refine zn ?_;refine zaF ?_;refine zQ ?_;refine zV lac ?_;refine zV lab ?_;refine zn ?_;refine zaF ?_;refine zQ ?_;refine zV lac ?_;refine zV lab ?_;refine zn ?_;refine zaF ?_;refine zQ ?_;refine zV lac ?_;refine zV lab ?_;refine zn ?_;refine zaF ?_;refine zQ ?_;refine zV lac ?_;refine zV lab ?_;refine zn ?_;refine zaF ?_;refine zq ?_;refine zRD ?_;refine zV laa ?_;refine zV lad ?_;refine zV lae ?_;refine zV lai ?_;refine zV laa ?_;refine zV lag ?_;refine zV lad ?_;refine zV lae ?_;refine zV laq ?_
    refine zY (las (push_a (.term t env) t env .nilp rfl vv n F rows hs.le hcl (by have := hs.len; omega)) rfl (by refine ⟨_, _, rfl, (by exact LeU.of_eq rfl zo), (by exact Exists.intro _ rfl), ?_⟩;refine ⟨_, _, rfl, (by (refine LeU.agg' rfl ?_;exact ⟨LeC.refl _, LeC.refl _, LeC.refl _, LeC.refl _, LeC.refl _, LeC.refl _, LeC.refl _, LeC.refl _, LeC.refl _, LeC.refl _, LeC.refl _, LeC.nil _, LeC.refl _, LeC.nil _, LeC.refl _, LeC.refl _, zo⟩)), (by exact ⟨zo, zo, zo, zo, zo, zo, zo, zo, ok_envC _, zo, zo, zo, zo, zo, zo, zo, zo⟩), ?_⟩;exact rfl) (by exact ⟨rfl, rfl, zo⟩) (by exact rfl) (by simp [namesL]) (by exact ⟨mc_ok rfl ⟨_, _, _, _, rfl, Nat.le_refl _⟩, okRows_closed hcl, zo⟩)) ?_
    refine znD ?_;refine zR ?_;refine zV laa ?_;refine zV lad ?_;refine zV lae ?_;refine zV (lap _) ?_;refine zV lao ?_;refine zV lag ?_;refine zV lad ?_;refine zE lav ?_;refine zn ?_;refine zQ ?_
    refine zV (lal goes_a) ?_
    refine zV lar ?_;refine zV lat ?_;refine zE laf ?_;refine zV lab ?_;refine zn ?_;refine zre ?_
    refine rq ?_
    exact ret_step (o := Out.zero) (b := false) (by exact .inr rfl) (by exact rfl) (by exact rfl) rfl (by exact rfl) [] (by exact zo) (by exact ⟨⟨_, rfl, wkRow_refl _⟩, ⟨_, rfl, WkBlk.refl _⟩, zo⟩) (by exact rfl) (by exact ⟨mc_ok rfl ⟨_, _, _, _, rfl, Nat.le_refl _⟩, okRows_closed hpcl, zo⟩) rfl
end Go.Proofs.YtnflnbdlgdjfmabGreatDoor
