/-
  Merged texts of the proof. Conditions: those typed in each theorem.
-/
import Derived.Test.YtnflnbdlgdjfmabGreatDoorR8
namespace Go.Proofs.YtnflnbdlgdjfmabGreatDoor
open Go.RowKit
set_option linter.unusedVariables false
set_option linter.unusedSimpArgs false
set_option maxRecDepth 100000
attribute [local irreducible] RunL AW LocOp ACalls Gh
inductive TmDp : Tm → Prop
  | mk {t : Tm} (ht : t.t.deep ≤ 1048576) (hl : ∀ x ∈ t.l, TmDp x) : TmDp t
theorem TmDp.t {t : Tm} (h : TmDp t) : t.t.deep ≤ 1048576 := by cases h; assumption
theorem TmDp.l {t : Tm} (h : TmDp t) : ∀ x ∈ t.l, TmDp x := by cases h; assumption
theorem wrap_sq (n : Int) : (IntKind.i64.wrap (n * n) == n && decide (n < 2) && decide (n ≥ 0)) = (n == 0 || n == 1) := by
  by_cases h0 : n = 0
  · subst h0; decide
  by_cases h1 : n = 1
  · subst h1; decide
  have : (decide (n < 2) && decide (n ≥ 0)) = false := by
    rw [Bool.and_eq_false_iff]
    by_cases h2 : n < 2
    · exact .inr (decide_eq_false (by omega))
    · exact .inl (decide_eq_false h2)
  rw [Bool.and_assoc, this, Bool.and_false]
  simp [h0, h1]
set_option maxHeartbeats 8000000 in
theorem right_a : ∀ (a : Tm) (ar ow : Int), TmOk a → TmDp a → 0 ≤ ow → ow + a.nodes ≤ 1048576 → ACalls Tryz.prog 44 [a.u, .one (.int .i64 ar), .one (.int .i64 ow)] [] (.one (.bool (a.good ar ow))) [] := by
  intro a
  induction a using Tm.ind' with
  | h a ih =>
  intro ar ow hok hdp h0 hsz
  have hL := tmRows_length a.l
  have hne := nodes_eta a
  have hge := goodT_eta a ar ow
  have sf := rsame_a a.f .any
  have st := rsame_a a.t .any
  have sd := isType_a a.t hdp.t
  refine acalls_of_body Tryz.func44 rfl (by kernel_rfl) (Nat.le_of_ble_eq_true rfl) zo (by simp [namesL]) ?_
  cases k1 : decide (a.k < 1) with
  | true =>
    refine zQ ?_;refine zM lan ?_;refine zV lab ?_;refine zn ?_;refine zq ?_;refine zq ?_;refine zRD ?_;refine zV lad ?_;refine zV lae ?_;refine zV lac ?_;refine zV laa ?_;refine zt ?_;refine zt ?_;refine zt ?_;refine zV (lam true) ?_;refine zV laa ?_;refine zs ?_;refine zs ?_;refine zs ?_;refine zs ?_;refine zs ?_;refine zs ?_;refine zs ?_;refine zV laA ?_;refine zV laa ?_;refine zs ?_;refine zs ?_;refine zs ?_;refine zs ?_;refine zs ?_;refine zV laA ?_;refine znD ?_;refine zcT ?_;refine zQ ?_;refine zV lab ?_;refine zn ?_;refine zre ?_
    rw [show a.good ar ow = false by rw [hge]; simp [Tm.fit, k1]]
    exact ret_same (.inr rfl) rfl zo
  | false =>
  cases k9 : decide (a.k > 9) with
  | true =>
    refine zQ ?_;refine zM lan ?_;refine zV lab ?_;refine zn ?_;refine zq ?_;refine zq ?_;refine zRD ?_;refine zV lad ?_;refine zV lae ?_;refine zV lac ?_;refine zV laa ?_;refine zF lad ?_;refine zF lae ?_;refine zF lac ?_;refine zV (lam false) ?_;refine zV laa ?_;refine zt ?_;refine zt ?_;refine zt ?_;refine zt ?_;refine zt ?_;refine zt ?_;refine zt ?_;refine zV (lam true) ?_;refine zV laa ?_;refine zs ?_;refine zs ?_;refine zs ?_;refine zs ?_;refine zs ?_;refine zV laA ?_;refine znD ?_;refine zcT ?_;refine zQ ?_;refine zV lab ?_;refine zn ?_;refine zre ?_
    rw [show a.good ar ow = false by rw [hge]; simp [Tm.fit, k9]]
    exact ret_same (.inr rfl) rfl zo
  | false =>
  have hk1 : 1 ≤ a.k := by simp at k1; omega
  have hk9 : a.k ≤ 9 := by simp at k9; omega
  have hpa := parts_a a.k hk1 hk9
  cases hlen : ((((tmRows a.l).length : Nat) : Int) != arity a.k) with
  | true =>
    refine zQ ?_;refine zM lan ?_;refine zV lab ?_;refine zn ?_;refine zq ?_;refine zq ?_;refine zRD ?_;refine zV lad ?_;refine zV lae ?_;refine zV lac ?_;refine zV laa ?_;refine zF lad ?_;refine zF lae ?_;refine zF lac ?_;refine zV (lam false) ?_;refine zV laa ?_;refine zF lad ?_;refine zF lae ?_;refine zF lay ?_;refine zF lad ?_;refine zF lae ?_
    refine zF (lal hpa rfl (by refine zC ?_;exact rfl)) ?_
    refine zF lac ?_;refine zV (lam false) ?_;refine zV laa ?_;refine zt ?_;refine zt ?_;refine zt ?_;refine zt ?_;refine zt ?_;refine zV (lam true) ?_;refine znD ?_;refine zcT ?_;refine zQ ?_;refine zV lab ?_;refine zn ?_;refine zre ?_
    rw [show a.good ar ow = false by rw [hge]; rw [hL] at hlen; simp at hlen; simp [Tm.fit, hlen]]
    exact ret_same (.inr rfl) rfl zo
  | false =>
  cases hf : a.f.same .any with
  | false =>
    rw [hf] at sf
    refine zQ ?_;refine zM lan ?_;refine zV lab ?_;refine zn ?_;refine zq ?_;refine zq ?_;refine zRD ?_;refine zV lad ?_;refine zV lae ?_;refine zV lac ?_;refine zV laa ?_;refine zF lad ?_;refine zF lae ?_;refine zF lac ?_;refine zV (lam false) ?_;refine zV laa ?_;refine zF lad ?_;refine zF lae ?_;refine zF lay ?_;refine zF lad ?_;refine zF lae ?_
    refine zF (lal hpa rfl (by refine zC ?_;exact rfl)) ?_
    refine zF lac ?_;refine zV (lam false) ?_;refine zV laa ?_;refine zF lad ?_;refine zF (lai rfl rfl (by exact Cut.cons (by exact rfl) (Cut.cons (by exact rfl) Cut.nil))) ?_
    refine zF (lal any0_a) ?_
    refine zF (lal sf rfl (by refine zC2 ?_;refine zC2 ?_;exact rfl)) ?_
    refine zF laz ?_;refine zV (lam false) ?_;refine znD ?_;refine zcT ?_;refine zQ ?_;refine zV lab ?_;refine zn ?_;refine zre ?_
    rw [show a.good ar ow = false by rw [hge]; simp [Tm.fit, hf]]
    exact ret_same (.inr rfl) rfl zo
  | true =>
  rw [hf] at sf
  have hfit : a.fit ar ow = (a.num ar ow && (if a.k == 7 || a.k == 9 then a.t.good 4 else a.t.same .any)) := by
    rw [hL] at hlen
    have : (((a.l.length : Nat) : Int) == arity a.k) = true := by simpa using hlen
    unfold Tm.fit
    rw [k1, k9, this, hf, Bool.and_comm]
    rfl
  refine zq ?_
  refine zR ?_
  refine zM lan ?_;refine zV lab ?_;refine zn ?_
  refine zq ?_
  refine zq ?_
  refine zRD ?_
  refine zV lad ?_;refine zV lae ?_;refine zV lac ?_;refine zV laa ?_;refine zF lad ?_;refine zF lae ?_;refine zF lac ?_;refine zV (lam false) ?_;refine zV laa ?_;refine zF lad ?_;refine zF lae ?_;refine zF lay ?_;refine zF lad ?_;refine zF lae ?_
  refine zF (lal hpa rfl (by refine zC ?_;exact rfl)) ?_
  refine zF lac ?_;refine zV (lam false) ?_;refine zV laa ?_;refine zF lad ?_;refine zF (lai rfl rfl (by exact Cut.cons (by exact rfl) (Cut.cons (by exact rfl) Cut.nil))) ?_
  refine zF (lal any0_a) ?_
  refine zF (lal sf rfl (by refine zC2 ?_;refine zC2 ?_;exact rfl)) ?_
  refine zF laz ?_;refine zV (lam false) ?_;refine znD ?_
  refine zcF ?_
  refine zsk ?_
  refine zq ?_
  refine zR ?_
  refine zV lad ?_;refine zV lae ?_;refine zV lac ?_;refine zV lab ?_;refine zn ?_
  refine zq ?_
  refine AW.midC (fun t h => t = tOfL [(1, .one (.int .i64 ar)), (2, .one (.int .i64 (ow))), (3, .one (.ptr 3 0)), (7, .one (.bool (a.num ar ow)))] ∧ h = ofL [(3, .obj a.c)]) ?_ ?_
  · cases k1' : (a.k == 1) with
    | true =>
      rw [show a.num ar ow = (decide (a.n ≥ 0) && decide (a.n - ow < ar)) by simp [Tm.num, k1']]
      cases h2 : decide (a.n ≥ 0) with
      | true =>
        have h2' : 0 ≤ a.n := by simpa using h2
        have hn := hok.n
        refine zQ ?_;refine zV lad ?_;refine zV lae ?_;refine zn ?_;refine zbl ?_;refine zQ ?_;refine zV lac ?_;refine zV lab ?_;refine zn ?_;refine zaT ?_;refine zR ?_;refine zV lad ?_;refine zV lae ?_;refine zV lac ?_;refine zV laa ?_;refine zT lad ?_;refine zT lae ?_;refine zT laa ?_;refine zT laJ ?_;refine zT laa ?_;refine zT lac ?_;refine zV (lam true) ?_;refine zV lab ?_;refine zn ?_
        exact ⟨_, _, (gh_lit [(1, .one (.int .i64 ar)), (2, .one (.int .i64 (ow))), (3, .one (.ptr 3 0)), (7, .one (.bool (decide (a.n - ow < ar))))] [(3, .obj a.c)] [] [] ⟨(zw rfl zo), (zw rfl zo), (zw rfl zo), (zw rfl zo), zo⟩ ⟨(by exact zb rfl), zo⟩ trivial zo rfl rfl ⟨zo, zo, ⟨_, rfl⟩, zo, zo⟩ ⟨(by exact ⟨zo, zo, zo, zo, zo, zo, zo, zo⟩), zo⟩), by simp, rfl⟩
      | false =>
        refine zQ ?_;refine zV lad ?_;refine zV lae ?_;refine zn ?_;refine zbl ?_;refine zQ ?_;refine zV lac ?_;refine zV lab ?_;refine zn ?_;refine zaT ?_;refine zR ?_;refine zV lad ?_;refine zV lae ?_;refine zV lac ?_;refine zV laa ?_;refine zf ?_;refine zf ?_;refine zf ?_;refine zf ?_;refine zf ?_;refine zf ?_;refine zV (lam false) ?_;refine zV lab ?_;refine zn ?_
        exact ⟨_, _, (gh_lit [(1, .one (.int .i64 ar)), (2, .one (.int .i64 (ow))), (3, .one (.ptr 3 0)), (7, .one (.bool (false)))] [(3, .obj a.c)] [] [] ⟨(zw rfl zo), (zw rfl zo), (zw rfl zo), (zw rfl zo), zo⟩ ⟨(by exact zb rfl), zo⟩ trivial zo rfl rfl ⟨zo, zo, ⟨_, rfl⟩, zo, zo⟩ ⟨(by exact ⟨zo, zo, zo, zo, zo, zo, zo, zo⟩), zo⟩), by simp, rfl⟩
    | false =>
    cases k2' : (a.k == 2) with
    | true =>
      rw [show a.num ar ow = (decide (a.n ≤ 1000000) && decide (a.n ≥ -1000000)) by simp [Tm.num, k1', k2', Bool.and_comm]]
      cases h2 : decide (a.n ≤ 1000000) with
      | true =>
        refine zQ ?_;refine zV lad ?_;refine zV lae ?_;refine zn ?_;refine zbl ?_;refine zQ ?_;refine zV lac ?_;refine zV lab ?_;refine zn ?_;refine zaF ?_;refine zQ ?_;refine zV lac ?_;refine zV lab ?_;refine zn ?_;refine zaT ?_;refine zR ?_;refine zV lad ?_;refine zV lae ?_;refine zV lac ?_;refine zV laa ?_;refine zT lad ?_;refine zT lae ?_;refine zT lac ?_;refine zV (lam true) ?_;refine zV lab ?_;refine zn ?_
        exact ⟨_, _, (gh_lit [(1, .one (.int .i64 ar)), (2, .one (.int .i64 (ow))), (3, .one (.ptr 3 0)), (7, .one (.bool (decide (a.n ≥ -1000000))))] [(3, .obj a.c)] [] [] ⟨(zw rfl zo), (zw rfl zo), (zw rfl zo), (zw rfl zo), zo⟩ ⟨(by exact zb rfl), zo⟩ trivial zo rfl rfl ⟨zo, zo, ⟨_, rfl⟩, zo, zo⟩ ⟨(by exact ⟨zo, zo, zo, zo, zo, zo, zo, zo⟩), zo⟩), by simp, rfl⟩
      | false =>
        refine zQ ?_;refine zV lad ?_;refine zV lae ?_;refine zn ?_;refine zbl ?_;refine zQ ?_;refine zV lac ?_;refine zV lab ?_;refine zn ?_;refine zaF ?_;refine zQ ?_;refine zV lac ?_;refine zV lab ?_;refine zn ?_;refine zaT ?_;refine zR ?_;refine zV lad ?_;refine zV lae ?_;refine zV lac ?_;refine zV laa ?_;refine zf ?_;refine zf ?_;refine zf ?_;refine zV (lam false) ?_;refine zV lab ?_;refine zn ?_
        exact ⟨_, _, (gh_lit [(1, .one (.int .i64 ar)), (2, .one (.int .i64 (ow))), (3, .one (.ptr 3 0)), (7, .one (.bool (false)))] [(3, .obj a.c)] [] [] ⟨(zw rfl zo), (zw rfl zo), (zw rfl zo), (zw rfl zo), zo⟩ ⟨(by exact zb rfl), zo⟩ trivial zo rfl rfl ⟨zo, zo, ⟨_, rfl⟩, zo, zo⟩ ⟨(by exact ⟨zo, zo, zo, zo, zo, zo, zo, zo⟩), zo⟩), by simp, rfl⟩
    | false =>
    cases k3' : (a.k == 3) with
    | true =>
      rw [show a.num ar ow = (IntKind.i64.wrap (a.n * a.n) == a.n && decide (a.n < 2) && decide (a.n ≥ 0)) by rw [wrap_sq]; simp [Tm.num, k1', k2', k3']]
      cases h2 : (IntKind.i64.wrap (a.n * a.n) == a.n) with
      | true =>
        cases h3 : decide (a.n < 2) with
        | true =>
          refine zQ ?_;refine zV lad ?_;refine zV lae ?_;refine zn ?_;refine zbl ?_;refine zQ ?_;refine zV lac ?_;refine zV lab ?_;refine zn ?_;refine zaF ?_;refine zQ ?_;refine zV lac ?_;refine zV lab ?_;refine zn ?_;refine zaF ?_;refine zQ ?_;refine zV lac ?_;refine zV lab ?_;refine zn ?_;refine zaT ?_;refine zR ?_;refine zV lad ?_;refine zV lae ?_;refine zV lad ?_;refine zV lae ?_;refine zV lac ?_;refine zV lad ?_;refine zV lae ?_;refine zV lac ?_;refine zV laa ?_;refine zT lad ?_;refine zT lae ?_;refine zT lac ?_;refine zV (lam true) ?_;refine zV laa ?_;refine zT lad ?_;refine zT lae ?_;refine zT lac ?_;refine zV (lam true) ?_;refine zV lab ?_;refine zn ?_
          exact ⟨_, _, (gh_lit [(1, .one (.int .i64 ar)), (2, .one (.int .i64 (ow))), (3, .one (.ptr 3 0)), (7, .one (.bool (decide (a.n ≥ 0))))] [(3, .obj a.c)] [] [] ⟨(zw rfl zo), (zw rfl zo), (zw rfl zo), (zw rfl zo), zo⟩ ⟨(by exact zb rfl), zo⟩ trivial zo rfl rfl ⟨zo, zo, ⟨_, rfl⟩, zo, zo⟩ ⟨(by exact ⟨zo, zo, zo, zo, zo, zo, zo, zo⟩), zo⟩), by simp, rfl⟩
        | false =>
          refine zQ ?_;refine zV lad ?_;refine zV lae ?_;refine zn ?_;refine zbl ?_;refine zQ ?_;refine zV lac ?_;refine zV lab ?_;refine zn ?_;refine zaF ?_;refine zQ ?_;refine zV lac ?_;refine zV lab ?_;refine zn ?_;refine zaF ?_;refine zQ ?_;refine zV lac ?_;refine zV lab ?_;refine zn ?_;refine zaT ?_;refine zR ?_;refine zV lad ?_;refine zV lae ?_;refine zV lad ?_;refine zV lae ?_;refine zV lac ?_;refine zV lad ?_;refine zV lae ?_;refine zV lac ?_;refine zV laa ?_;refine zT lad ?_;refine zT lae ?_;refine zT lac ?_;refine zV (lam true) ?_;refine zV laa ?_;refine zf ?_;refine zf ?_;refine zf ?_;refine zV (lam false) ?_;refine zV lab ?_;refine zn ?_
          exact ⟨_, _, (gh_lit [(1, .one (.int .i64 ar)), (2, .one (.int .i64 (ow))), (3, .one (.ptr 3 0)), (7, .one (.bool (false)))] [(3, .obj a.c)] [] [] ⟨(zw rfl zo), (zw rfl zo), (zw rfl zo), (zw rfl zo), zo⟩ ⟨(by exact zb rfl), zo⟩ trivial zo rfl rfl ⟨zo, zo, ⟨_, rfl⟩, zo, zo⟩ ⟨(by exact ⟨zo, zo, zo, zo, zo, zo, zo, zo⟩), zo⟩), by simp, rfl⟩
      | false =>
        refine zQ ?_;refine zV lad ?_;refine zV lae ?_;refine zn ?_;refine zbl ?_;refine zQ ?_;refine zV lac ?_;refine zV lab ?_;refine zn ?_;refine zaF ?_;refine zQ ?_;refine zV lac ?_;refine zV lab ?_;refine zn ?_;refine zaF ?_;refine zQ ?_;refine zV lac ?_;refine zV lab ?_;refine zn ?_;refine zaT ?_;refine zR ?_;refine zV lad ?_;refine zV lae ?_;refine zV lad ?_;refine zV lae ?_;refine zV lac ?_;refine zV lad ?_;refine zV lae ?_;refine zV lac ?_;refine zV laa ?_;refine zf ?_;refine zf ?_;refine zf ?_;refine zV (lam false) ?_;refine zV laa ?_;refine zs ?_;refine zs ?_;refine zs ?_;refine zV lax ?_;refine zV lab ?_;refine zn ?_
        exact ⟨_, _, (gh_lit [(1, .one (.int .i64 ar)), (2, .one (.int .i64 (ow))), (3, .one (.ptr 3 0)), (7, .one (.bool (false)))] [(3, .obj a.c)] [] [] ⟨(zw rfl zo), (zw rfl zo), (zw rfl zo), (zw rfl zo), zo⟩ ⟨(by exact zb rfl), zo⟩ trivial zo rfl rfl ⟨zo, zo, ⟨_, rfl⟩, zo, zo⟩ ⟨(by exact ⟨zo, zo, zo, zo, zo, zo, zo, zo⟩), zo⟩), by simp, rfl⟩
    | false =>
      rw [show a.num ar ow = (a.n == 0) by simp [Tm.num, k1', k2', k3']]
      refine zQ ?_;refine zV lad ?_;refine zV lae ?_;refine zn ?_;refine zbl ?_;refine zQ ?_;refine zV lac ?_;refine zV lab ?_;refine zn ?_;refine zaF ?_;refine zQ ?_;refine zV lac ?_;refine zV lab ?_;refine zn ?_;refine zaF ?_;refine zQ ?_;refine zV lac ?_;refine zV lab ?_;refine zn ?_;refine zaF ?_;refine zsk ?_
      exact ⟨_, _, (gh_lit [(1, .one (.int .i64 ar)), (2, .one (.int .i64 (ow))), (3, .one (.ptr 3 0)), (7, .one (.bool (a.n == 0)))] [(3, .obj a.c)] [] [] ⟨(zw rfl zo), (zw rfl zo), (zw rfl zo), (zw rfl zo), zo⟩ ⟨(by exact zb rfl), zo⟩ trivial zo rfl rfl ⟨zo, zo, ⟨_, rfl⟩, zo, zo⟩ ⟨(by exact ⟨zo, zo, zo, zo, zo, zo, zo, zo⟩), zo⟩), by simp, rfl⟩
  · rintro t h ⟨rfl, rfl⟩
    generalize a.num ar ow = nm at *
    refine zq ?_
    refine AW.midC (fun t h => t = tOfL [(1, .one (.int .i64 ar)), (2, .one (.int .i64 (ow))), (3, .one (.ptr 3 0)), (7, .one (.bool (a.fit ar ow)))] ∧ h = ofL [(3, .obj a.c)]) ?_ ?_
    · rw [hfit]
      cases k7 : (a.k == 7 || a.k == 9) with
      | true =>
        cases nm with
        | true =>
          cases k7' : (a.k == 7) with
          | true =>
            refine zQ ?_;refine zV lad ?_;refine zV lae ?_;refine zV lac ?_;refine zV laa ?_;refine zt ?_;refine zt ?_;refine zt ?_;refine zV (lam true) ?_;refine zn ?_;refine zcT ?_;refine zR ?_;refine zV laa ?_;refine zV laa ?_;refine zI lad ?_;refine zI (lai rfl rfl (by exact Cut.cons (by exact rfl) (Cut.cons (by exact rfl) Cut.nil))) ?_
            refine zI (lal sd rfl (by refine zC2 ?_;exact rfl)) ?_
            refine zV laA ?_;refine zV lab ?_;refine zn ?_
            exact ⟨_, _, (gh_lit [(1, .one (.int .i64 ar)), (2, .one (.int .i64 (ow))), (3, .one (.ptr 3 0)), (7, .one (.bool (a.t.good 4)))] [(3, .obj a.c)] [] [] ⟨(zw rfl zo), (zw rfl zo), (zw rfl zo), (zw rfl zo), zo⟩ ⟨(by exact zb rfl), zo⟩ trivial zo rfl rfl ⟨zo, zo, ⟨_, rfl⟩, zo, zo⟩ ⟨(by exact ⟨zo, zo, zo, zo, zo, zo, zo, zo⟩), zo⟩), by simp, rfl⟩
          | false =>
            have k9' : (a.k == 9) = true := by rw [k7'] at k7; simpa using k7
            refine zQ ?_;refine zV lad ?_;refine zV lae ?_;refine zV lac ?_;refine zV laa ?_;refine zF lad ?_;refine zF lae ?_;refine zF lac ?_;refine zV (lam false) ?_;refine zn ?_;refine zaT ?_;refine zR ?_;refine zV laa ?_;refine zV laa ?_;refine zI lad ?_;refine zI (lai rfl rfl (by exact Cut.cons (by exact rfl) (Cut.cons (by exact rfl) Cut.nil))) ?_
            refine zI (lal sd rfl (by refine zC2 ?_;exact rfl)) ?_
            refine zV laA ?_;refine zV lab ?_;refine zn ?_
            exact ⟨_, _, (gh_lit [(1, .one (.int .i64 ar)), (2, .one (.int .i64 (ow))), (3, .one (.ptr 3 0)), (7, .one (.bool (a.t.good 4)))] [(3, .obj a.c)] [] [] ⟨(zw rfl zo), (zw rfl zo), (zw rfl zo), (zw rfl zo), zo⟩ ⟨(by exact zb rfl), zo⟩ trivial zo rfl rfl ⟨zo, zo, ⟨_, rfl⟩, zo, zo⟩ ⟨(by exact ⟨zo, zo, zo, zo, zo, zo, zo, zo⟩), zo⟩), by simp, rfl⟩
        | false =>
          cases k7' : (a.k == 7) with
          | true =>
            refine zQ ?_;refine zV lad ?_;refine zV lae ?_;refine zV lac ?_;refine zV laa ?_;refine zt ?_;refine zt ?_;refine zt ?_;refine zV (lam true) ?_;refine zn ?_;refine zcT ?_;refine zR ?_;refine zV laa ?_;refine zV laa ?_;refine zs ?_;refine zs ?_;refine zs ?_;refine zV lax ?_;refine zV lab ?_;refine zn ?_
            exact ⟨_, _, (gh_lit [(1, .one (.int .i64 ar)), (2, .one (.int .i64 (ow))), (3, .one (.ptr 3 0)), (7, .one (.bool (false)))] [(3, .obj a.c)] [] [] ⟨(zw rfl zo), (zw rfl zo), (zw rfl zo), (zw rfl zo), zo⟩ ⟨(by exact zb rfl), zo⟩ trivial zo rfl rfl ⟨zo, zo, ⟨_, rfl⟩, zo, zo⟩ ⟨(by exact ⟨zo, zo, zo, zo, zo, zo, zo, zo⟩), zo⟩), by simp, rfl⟩
          | false =>
            have k9' : (a.k == 9) = true := by rw [k7'] at k7; simpa using k7
            refine zQ ?_;refine zV lad ?_;refine zV lae ?_;refine zV lac ?_;refine zV laa ?_;refine zF lad ?_;refine zF lae ?_;refine zF lac ?_;refine zV (lam false) ?_;refine zn ?_;refine zaT ?_;refine zR ?_;refine zV laa ?_;refine zV laa ?_;refine zs ?_;refine zs ?_;refine zs ?_;refine zV lax ?_;refine zV lab ?_;refine zn ?_
            exact ⟨_, _, (gh_lit [(1, .one (.int .i64 ar)), (2, .one (.int .i64 (ow))), (3, .one (.ptr 3 0)), (7, .one (.bool (false)))] [(3, .obj a.c)] [] [] ⟨(zw rfl zo), (zw rfl zo), (zw rfl zo), (zw rfl zo), zo⟩ ⟨(by exact zb rfl), zo⟩ trivial zo rfl rfl ⟨zo, zo, ⟨_, rfl⟩, zo, zo⟩ ⟨(by exact ⟨zo, zo, zo, zo, zo, zo, zo, zo⟩), zo⟩), by simp, rfl⟩
      | false =>
        rw [Bool.or_eq_false_iff] at k7
        obtain ⟨k7', k9'⟩ := k7
        cases nm with
        | true =>
          refine zQ ?_;refine zV lad ?_;refine zV lae ?_;refine zV lac ?_;refine zV laa ?_;refine zF lad ?_;refine zF lae ?_;refine zF lac ?_;refine zV (lam false) ?_;refine zn ?_;refine zaF ?_;refine zRD ?_;refine zV laa ?_;refine zV laa ?_;refine zI lad ?_;refine zI (lai rfl rfl (by exact Cut.cons (by exact rfl) (Cut.cons (by exact rfl) Cut.nil))) ?_
          refine zI (lal any0_a) ?_
          refine zI (lal st rfl (by refine zC2 ?_;refine zC2 ?_;exact rfl)) ?_
          refine zV laA ?_;refine zV lab ?_;refine znD ?_
          exact ⟨_, _, (gh_lit [(1, .one (.int .i64 ar)), (2, .one (.int .i64 (ow))), (3, .one (.ptr 3 0)), (7, .one (.bool (a.t.same .any)))] [(3, .obj a.c)] [] [] ⟨(zw rfl zo), (zw rfl zo), (zw rfl zo), (zw rfl zo), zo⟩ ⟨(by exact zb rfl), zo⟩ trivial zo rfl rfl ⟨zo, zo, ⟨_, rfl⟩, zo, zo⟩ ⟨(by exact ⟨zo, zo, zo, zo, zo, zo, zo, zo⟩), zo⟩), by simp, rfl⟩
        | false =>
          refine zQ ?_;refine zV lad ?_;refine zV lae ?_;refine zV lac ?_;refine zV laa ?_;refine zF lad ?_;refine zF lae ?_;refine zF lac ?_;refine zV (lam false) ?_;refine zn ?_;refine zaF ?_;refine zRD ?_;refine zV laa ?_;refine zV laa ?_;refine zs ?_;refine zs ?_;refine zs ?_;refine zs ?_;refine zV lax ?_;refine zV lab ?_;refine znD ?_
          exact ⟨_, _, (gh_lit [(1, .one (.int .i64 ar)), (2, .one (.int .i64 (ow))), (3, .one (.ptr 3 0)), (7, .one (.bool (false)))] [(3, .obj a.c)] [] [] ⟨(zw rfl zo), (zw rfl zo), (zw rfl zo), (zw rfl zo), zo⟩ ⟨(by exact zb rfl), zo⟩ trivial zo rfl rfl ⟨zo, zo, ⟨_, rfl⟩, zo, zo⟩ ⟨(by exact ⟨zo, zo, zo, zo, zo, zo, zo, zo⟩), zo⟩), by simp, rfl⟩
    · rintro t h ⟨rfl, rfl⟩
      clear hfit
      have hdrop : a.good ar ow = (a.fit ar ow && goodL (a.l.drop 0) ar (if a.k == 7 then ow + 1 else ow)) := by rw [hge, List.drop_zero]
      generalize a.fit ar ow = ok0 at *
      refine zq ?_
      refine AW.midC (fun t h => t = tOfL [(1, .one (.int .i64 ar)), (2, .one (.int .i64 ((if a.k == 7 then ow + 1 else ow)))), (3, .one (.ptr 3 0)), (7, .one (.bool (ok0)))] ∧ h = ofL [(3, .obj a.c)]) ?_ ?_
      · cases k7 : (a.k == 7) with
        | true =>
          refine zQ ?_;refine zV lad ?_;refine zV lae ?_;refine zV lac ?_;refine zn ?_;refine zaT ?_;refine zR ?_;refine zV laa ?_;refine zV laI ?_;refine zV lab ?_;refine zn ?_
          exact ⟨_, _, (gh_lit [(1, .one (.int .i64 ar)), (2, .one (.int .i64 ((ow + 1)))), (3, .one (.ptr 3 0)), (7, .one (.bool (ok0)))] [(3, .obj a.c)] [] [] ⟨(zw rfl zo), (zw rfl zo), (zw rfl zo), (zw rfl zo), zo⟩ ⟨(by exact zb rfl), zo⟩ trivial zo rfl rfl ⟨zo, zo, ⟨_, rfl⟩, zo, zo⟩ ⟨(by exact ⟨zo, zo, zo, zo, zo, zo, zo, zo⟩), zo⟩), by simp, rfl⟩
        | false =>
          refine zQ ?_;refine zV lad ?_;refine zV lae ?_;refine zV lac ?_;refine zn ?_;refine zaF ?_;refine zsk ?_
          exact ⟨_, _, (gh_lit [(1, .one (.int .i64 ar)), (2, .one (.int .i64 (ow))), (3, .one (.ptr 3 0)), (7, .one (.bool (ok0)))] [(3, .obj a.c)] [] [] ⟨(zw rfl zo), (zw rfl zo), (zw rfl zo), (zw rfl zo), zo⟩ ⟨(by exact zb rfl), zo⟩ trivial zo rfl rfl ⟨zo, zo, ⟨_, rfl⟩, zo, zo⟩ ⟨(by exact ⟨zo, zo, zo, zo, zo, zo, zo, zo⟩), zo⟩), by simp, rfl⟩
      · rintro t h ⟨rfl, rfl⟩
        have how : 0 ≤ (if a.k == 7 then ow + 1 else ow) ∧ (if a.k == 7 then ow + 1 else ow) ≤ ow + 1 := by split <;> omega
        generalize (if a.k == 7 then ow + 1 else ow) = ow' at *
        refine zq ?_;refine zQ ?_;refine zV lad ?_;refine zV lae ?_;refine zV lay ?_;refine zV laa ?_;refine zn ?_;refine zbl ?_
        refine AW.gh (gh_lit [(1, .one (.int .i64 ar)), (2, .one (.int .i64 (ow'))), (3, .one (.ptr 3 0)), (7, .one (.bool (ok0))), (109, .one (slOf 7 (tmRows a.l))), (110, .one (.int .i64 ((tmRows a.l).length : Nat))), (111, .one (.int .i64 ((0 : Nat) : Int)))] [(3, .obj a.c)] [] [] ⟨(zw rfl zo), (zw rfl zo), (zw rfl zo), (zw rfl zo), (by exact WkU.of_eq rfl zo), (zw rfl zo), (zw rfl zo), zo⟩ ⟨(by exact zb rfl), zo⟩ trivial zo rfl rfl ⟨zo, zo, ⟨_, rfl⟩, zo, zo, zo, zo, zo⟩ ⟨(by exact ⟨zo, zo, zo, zo, zo, zo, zo, zo⟩), zo⟩) ?_
        refine AW.lenSl 109 rfl fun hmax => ?_
        refine AW.loop (fun m t h => ∃ i : Nat, ∃ ok : Bool, i ≤ a.l.length ∧ m = a.l.length - i ∧ a.good ar ow = (ok && goodL (a.l.drop i) ar ow') ∧ t = tOfL [(1, .one (.int .i64 ar)), (2, .one (.int .i64 (ow'))), (3, .one (.ptr 3 0)), (7, .one (.bool (ok))), (109, .one (slOf 7 (tmRows a.l))), (110, .one (.int .i64 ((tmRows a.l).length : Nat))), (111, .one (.int .i64 ((i : Nat) : Int)))] ∧ h = ofL [(3, .obj a.c)]) a.l.length ⟨0, ok0, Nat.zero_le _, rfl, hdrop, rfl, rfl⟩ ?_
        rintro m t h ⟨i, ok, hi, rfl, hinv, rfl, rfl⟩
        clear hge hdrop
        cases hlt : decide ((i : Int) < ((tmRows a.l).length : Nat)) with
        | false =>
          have hil : i = a.l.length := by simp at hlt; omega
          refine zQ ?_;refine zV lac ?_;refine zn ?_;refine zq ?_;refine zaF ?_;refine zex ?_;refine zQ ?_;refine zV laa ?_;refine zV lab ?_;refine zn ?_;refine zre ?_
          rw [hinv, hil, List.drop_length, show goodL [] ar ow' = true from rfl, Bool.and_true]
          exact ret_same (.inr rfl) rfl zo
        | true =>
          have hil : i < a.l.length := by simp at hlt; omega
          have hr1 := tmRows_get hil
          have hs := goodL_drop hil ar ow'
          have hn3 := nodes_mem (List.getElem_mem hil)
          cases ok with
          | false =>
            refine zQ ?_;refine zV lac ?_;refine zn ?_;refine zq ?_;refine zaT ?_;refine zsk ?_;refine zq ?_;refine zbl ?_;refine zQ ?_;refine zV (lap _) ?_;refine zV lao ?_;refine zM lah ?_;refine zE laf ?_;refine zn ?_;refine zR ?_;refine zV laa ?_;refine zV laa ?_;refine zs ?_;refine zs ?_;refine zs ?_;refine zs ?_;refine zV lax ?_;refine zV lab ?_;refine zn ?_;refine zR ?_;refine zV laB ?_;refine zV laa ?_;refine zn ?_
            exact ⟨a.l.length - (i + 1), _, _, by omega, (gh_lit [(1, .one (.int .i64 ar)), (2, .one (.int .i64 (ow'))), (3, .one (.ptr 3 0)), (7, .one (.bool (false))), (109, .one (slOf 7 (tmRows a.l))), (110, .one (.int .i64 ((tmRows a.l).length : Nat))), (111, .one (.int .i64 (((i + 1) : Nat) : Int)))] [(3, .obj a.c)] [] [] ⟨(zw rfl zo), (zw rfl zo), (zw rfl zo), (zw rfl zo), (by exact WkU.of_eq rfl zo), (zw rfl zo), (zw rfl zo), zo⟩ ⟨(by exact zb rfl), zo⟩ trivial zo rfl rfl ⟨zo, zo, ⟨_, rfl⟩, zo, zo, zo, zo, zo⟩ ⟨(by exact ⟨zo, zo, zo, zo, zo, zo, zo, zo⟩), zo⟩), i + 1, _, by omega, rfl, by rw [hinv]; rfl, rfl, rfl⟩
          | true =>
            refine zQ ?_;refine zV lac ?_;refine zn ?_;refine zq ?_;refine zaT ?_;refine zsk ?_;refine zq ?_;refine zbl ?_;refine zQ ?_;refine zV (lap _) ?_;refine zV lao ?_;refine zM lah ?_;refine zE laf ?_;refine zn ?_;refine zR ?_;refine zV laa ?_;refine zV laa ?_;refine zI lai ?_;refine zI laa ?_;refine zI laa ?_
            refine zI (lal (ih a.l[i] (List.getElem_mem _) ar ow' (hok.l _ (List.getElem_mem _)) (hdp.l _ (List.getElem_mem _)) how.1 (by omega)) rfl (by refine zC7 ?_;refine zC ?_;refine zC ?_;exact rfl)) ?_
            refine zV laA ?_;refine zV lab ?_;refine zn ?_;refine zR ?_;refine zV laB ?_;refine zV laa ?_;refine zn ?_
            exact ⟨a.l.length - (i + 1), _, _, by omega, (gh_lit [(1, .one (.int .i64 ar)), (2, .one (.int .i64 (ow'))), (3, .one (.ptr 3 0)), (7, .one (.bool (a.l[i].good ar ow'))), (109, .one (slOf 7 (tmRows a.l))), (110, .one (.int .i64 ((tmRows a.l).length : Nat))), (111, .one (.int .i64 (((i + 1) : Nat) : Int)))] [(3, .obj a.c)] [] [] ⟨(zw rfl zo), (zw rfl zo), (zw rfl zo), (zw rfl zo), (by exact WkU.of_eq rfl zo), (zw rfl zo), (zw rfl zo), zo⟩ ⟨(by exact zb rfl), zo⟩ trivial zo rfl rfl ⟨zo, zo, ⟨_, rfl⟩, zo, zo, zo, zo, zo⟩ ⟨(by exact ⟨zo, zo, zo, zo, zo, zo, zo, zo⟩), zo⟩), i + 1, _, by omega, rfl, by rw [hinv, hs]; rfl, rfl, rfl⟩
set_option maxHeartbeats 2000000 in
theorem isTerm_a (a : Tm) (ar : Int) (hok : TmOk a) (hdp : TmDp a) (hsz : a.nodes ≤ 1048576) : ACalls Tryz.prog 25 [a.u, .one (.int .i64 ar)] [] (.one (.bool (a.Good ar))) [] := by
  refine acalls_of_body Tryz.func25 rfl (by kernel_rfl) (Nat.le_of_ble_eq_true rfl) zo (by simp [namesL]) ?_
  refine zQ ?_;refine zM lan ?_;refine zV lab ?_;refine zn ?_;refine zQ ?_;refine zV lai ?_
  refine zV (lal (nodesOf_a a hsz) rfl (by refine zC7 ?_;exact rfl)) ?_
  cases hn : decide (((a.nodes : Nat) : Int) < 41) with
  | false =>
    refine zV lac ?_;refine zV laa ?_;refine zf ?_;refine zf ?_;refine zf ?_;refine zV (lam false) ?_;refine zV lab ?_;refine zn ?_;refine zre ?_
    rw [show a.Good ar = false by unfold Tm.Good; rw [show decide (((a.nodes : Nat) : Int) ≤ 40) = false by simp at hn ⊢; omega]; rfl]
    exact ret_same (.inr rfl) rfl zo
  | true =>
    refine zV lac ?_;refine zV laa ?_;refine zT lai ?_;refine zT laa ?_
    refine zT (lal (right_a a ar 0 hok hdp (by omega) (by omega)) rfl (by refine zC7 ?_;refine zC ?_;refine zC ?_;exact rfl)) ?_
    refine zV (lam true) ?_;refine zV lab ?_;refine zn ?_;refine zre ?_
    rw [show a.Good ar = a.good ar 0 by unfold Tm.Good; rw [show decide (((a.nodes : Nat) : Int) ≤ 40) = true by simp at hn ⊢; omega]; rfl]
    exact ret_same (.inr rfl) rfl zo
end Go.Proofs.YtnflnbdlgdjfmabGreatDoor
namespace Go.Proofs.YtnflnbdlgdjfmabGreatDoor
open Go.RowKit
set_option linter.unusedVariables false
set_option linter.unusedSimpArgs false
set_option maxRecDepth 100000
attribute [local irreducible] RunL AW LocOp ACalls Gh
set_option maxHeartbeats 8000000 in
theorem typeOf_a : ∀ (a : Tm) (env : List Ty), a.good 0 env.length = true → (∀ t ∈ env, Right t) → env.length + a.nodes ≤ 1048576 →
    ACalls Tryz.prog 39 [a.u, .one (slOf 2 (tyRows env))] [] (.tup [(tyT a env).1.u, .one (.bool (tyT a env).2)]) [] := by
  intro a
  induction a using Tm.ind' with
  | h a ih =>
  intro env hg he hsz
  have hne := nodes_eta a
  have hE := tyRows_length env
  have hL := tmRows_length a.l
  have hnn := nodesL_len a.l
  have hg2 := hg
  rw [goodT_eta, Bool.and_eq_true] at hg2
  have hfr := fit_right hg2.1
  have hwr := within_right (fun h7 => hfr (.inl h7)) he
  have hgl := hg2.2
  rw [← within_len] at hgl
  have hwl : (within a env).length ≤ env.length + 1 := by unfold within; split <;> simp
  refine acalls_of_body Tryz.func39 rfl (by kernel_rfl) (Nat.le_of_ble_eq_true rfl) zo (by simp [namesL]) ?_
  refine zQ ?_;refine zM lan ?_;refine zM lah ?_;refine zV lab ?_;refine zn ?_;refine zQ ?_;refine zV laq ?_;refine zV laq ?_;refine zM lah ?_;refine zM lah ?_;refine zE laf ?_;refine zE laf ?_;refine zn ?_;refine zQ ?_;refine zV lab ?_;refine zn ?_;refine zQ ?_;refine zV laa ?_;refine zV lab ?_;refine zn ?_;refine zq ?_;refine zQ ?_;refine zV lad ?_;refine zV lae ?_;refine zV lac ?_;refine zn ?_
  refine AW.midB (fun t h => t = tOfL [(1, .one (slOf 2 (tyRows env))), (2, .one (.ptr 2 0)), (4, .one (.ptr 4 0)), (5, .one (.bool false)), (6, .one (.ptr 6 0)), (7, .one (.ptr 7 0)), (8, .one (.nilsl)), (9, .one (slOf 2 (tyRows (within a env))))] ∧ h = ofL [(2, .obj a.c), (4, .obj Ty.any.c), (6, .obj Ty.num.c), (7, .obj Ty.truth.c)]) ?_ ?_
  · cases h7 : (a.k == 7) with
    | false =>
      refine zcF ?_;refine zsk ?_
      rw [show within a env = env by unfold within; rw [h7]; rfl]
      exact ⟨_, _, (gh_lit [(1, .one (slOf 2 (tyRows env))), (2, .one (.ptr 2 0)), (4, .one (.ptr 4 0)), (5, .one (.bool false)), (6, .one (.ptr 6 0)), (7, .one (.ptr 7 0)), (8, .one (.nilsl)), (9, .one (slOf 2 (tyRows (env))))] [(2, .obj a.c), (4, .obj Ty.any.c), (6, .obj Ty.num.c), (7, .obj Ty.truth.c)] [] [] ⟨(by exact WkU.of_eq rfl zo), (zw rfl zo), (zw rfl zo), (zw rfl zo), (zw rfl zo), (zw rfl zo), (by exact WkU.of_eq rfl zo), (by exact WkU.of_eq rfl zo), zo⟩ ⟨(by exact zb rfl), (by (refine Or.inl ⟨_, rfl, ?_⟩; show All2 _ _ _; exact ⟨WkC.le (LeC.refl _), WkC.le (LeC.nil _), zo⟩)), (by (refine Or.inl ⟨_, rfl, ?_⟩; show All2 _ _ _; exact ⟨WkC.le (LeC.refl _), WkC.le (LeC.nil _), zo⟩)), (by (refine Or.inl ⟨_, rfl, ?_⟩; show All2 _ _ _; exact ⟨WkC.le (LeC.refl _), WkC.le (LeC.nil _), zo⟩)), zo⟩ trivial zo rfl rfl ⟨zo, ⟨_, rfl⟩, ⟨_, rfl⟩, zo, ⟨_, rfl⟩, ⟨_, rfl⟩, zo, zo, zo⟩ ⟨(by exact ⟨zo, zo, zo, zo, zo, zo, zo, zo⟩), (by exact ⟨zo, zo, zo⟩), (by exact ⟨zo, zo, zo⟩), (by exact ⟨zo, zo, zo⟩), zo⟩), rfl, rfl⟩
    | true =>
      rw [show within a env = a.t :: env by unfold within; rw [h7]; rfl]
      have hx : tyRows (a.t :: env) = [a.t.c] ++ tyRows env := by simp [tyRows, Ty.cells_c]
      rw [hx]
      by_cases hee : env = []
      · have hxr : tyRows env = [] := by rw [hee]; rfl
        refine zcT ?_;refine zR ?_;refine zV lad ?_;refine zV (lai rfl rfl (by exact Cut.cons (by exact rfl) (Cut.cons (by exact rfl) Cut.nil))) ?_;refine zV laF ?_;refine zV laa ?_
        refine zV (loc_appendNone (rows := [a.t.c]) (k := 2) (c := slOf 2 (tyRows env)) (c0 := slFOf 2 [a.t.c]) (by exact rfl) (by exact rfl) (by exact .inl rfl) (by rw [hxr];exact .inr (.inl rfl)) (by intro r hr; rw [List.mem_singleton.1 hr]; rfl)) ?_
        refine zV lab ?_;refine zn ?_
        rw [show ([a.t.c] ++ tyRows env) = [a.t.c] by rw [hxr]; rfl]
        exact ⟨_, _, (gh_lit [(1, .one (slOf 2 (tyRows env))), (2, .one (.ptr 2 0)), (4, .one (.ptr 4 0)), (5, .one (.bool false)), (6, .one (.ptr 6 0)), (7, .one (.ptr 7 0)), (8, .one .nilsl), (9, .one (slOf 2 [a.t.c]))] [(2, .obj a.c), (4, .obj Ty.any.c), (6, .obj Ty.num.c), (7, .obj Ty.truth.c)] [] [] ⟨(by exact WkU.of_eq rfl zo), (zw rfl zo), (zw rfl zo), (zw rfl zo), (zw rfl zo), (zw rfl zo), (by exact WkU.of_eq rfl zo), (by exact WkC.le (LeC.slF (LeRows.refl _))), zo⟩ ⟨(by exact zb rfl), (by (refine Or.inl ⟨_, rfl, ?_⟩; show All2 _ _ _; exact ⟨WkC.le (LeC.refl _), WkC.le (LeC.nil _), zo⟩)), (by (refine Or.inl ⟨_, rfl, ?_⟩; show All2 _ _ _; exact ⟨WkC.le (LeC.refl _), WkC.le (LeC.nil _), zo⟩)), (by (refine Or.inl ⟨_, rfl, ?_⟩; show All2 _ _ _; exact ⟨WkC.le (LeC.refl _), WkC.le (LeC.nil _), zo⟩)), zo⟩ trivial zo rfl rfl ⟨zo, ⟨_, rfl⟩, ⟨_, rfl⟩, zo, ⟨_, rfl⟩, ⟨_, rfl⟩, zo, zo, zo⟩ ⟨(by exact ⟨zo, zo, zo, zo, zo, zo, zo, zo⟩), (by exact ⟨zo, zo, zo⟩), (by exact ⟨zo, zo, zo⟩), (by exact ⟨zo, zo, zo⟩), zo⟩), rfl, rfl⟩
      · refine zcT ?_; refine zR ?_; refine zV lad ?_; refine zV (lai rfl rfl (by exact Cut.cons (by exact rfl) (Cut.cons (by exact rfl) Cut.nil))) ?_; refine zV laF ?_; refine zV laa ?_
        refine zM (loc_appendD (rows := [a.t.c]) (news := tyRows env) (by exact rfl) (by exact rfl) (by exact .inl rfl) (by exact .inr (.inl rfl)) (by intro h; apply hee; have := congrArg List.length h; rw [tyRows_length] at this;exact List.length_eq_zero_iff.1 this) (allP_iff.2 (tyRows_len2 _)) (by intro r hr; rw [List.mem_singleton.1 hr]; rfl) (by exact rfl) (by exact rfl) (by simp only [List.length_cons, List.length_nil, hE]; omega) (by decide)) ?_
        refine zV lab ?_;refine zn ?_
        exact ⟨_, _, (gh_lit [(1, .one (slOf 2 (tyRows env))), (2, .one (.ptr 2 0)), (4, .one (.ptr 4 0)), (5, .one (.bool false)), (6, .one (.ptr 6 0)), (7, .one (.ptr 7 0)), (8, .one .nilsl), (9, .one (slOf 2 ([a.t.c] ++ tyRows env)))] [(2, .obj a.c), (4, .obj Ty.any.c), (6, .obj Ty.num.c), (7, .obj Ty.truth.c)] [24] [] ⟨(by exact WkU.of_eq rfl zo), (zw rfl zo), (zw rfl zo), (zw rfl zo), (zw rfl zo), (zw rfl zo), (by exact WkU.of_eq rfl zo), (by exact WkC.row (List.mem_cons_self ..) rfl (by exact List.length_append ..) (by exact LeRows.refl _)), zo⟩ ⟨(by exact zb rfl), (by (refine Or.inl ⟨_, rfl, ?_⟩; show All2 _ _ _; exact ⟨WkC.le (LeC.refl _), WkC.le (LeC.nil _), zo⟩)), (by (refine Or.inl ⟨_, rfl, ?_⟩; show All2 _ _ _; exact ⟨WkC.le (LeC.refl _), WkC.le (LeC.nil _), zo⟩)), (by (refine Or.inl ⟨_, rfl, ?_⟩; show All2 _ _ _; exact ⟨WkC.le (LeC.refl _), WkC.le (LeC.nil _), zo⟩)), zo⟩ ⟨⟨_, rfl, (by show closedRows ([a.t.c] ++ tyRows env) = true; rw [← hx]; exact closed_tyRows _)⟩, zo⟩ trivial rfl rfl ⟨zo, ⟨_, rfl⟩, ⟨_, rfl⟩, zo, ⟨_, rfl⟩, ⟨_, rfl⟩, zo, zo, zo⟩ ⟨(by exact ⟨zo, zo, zo, zo, zo, zo, zo, zo⟩), (by exact ⟨zo, zo, zo⟩), (by exact ⟨zo, zo, zo⟩), (by exact ⟨zo, zo, zo⟩), zo⟩), rfl, rfl⟩
  · rintro t h ⟨rfl, rfl⟩
    have hT : tyT a env = match tyL a.l (within a env) with | none => (.any, false) | some ks => tyFin a ks env := tyT_eta a env
    generalize within a env = env' at *
    refine zq ?_;refine zQ ?_;refine zV lad ?_;refine zV lae ?_;refine zV lay ?_;refine zV laa ?_;refine zn ?_;refine zbl ?_
    refine AW.gh (gh_lit [(1, .one (slOf 2 (tyRows env))), (2, .one (.ptr 2 0)), (4, .one (.ptr 4 0)), (5, .one (.bool false)), (6, .one (.ptr 6 0)), (7, .one (.ptr 7 0)), (8, .one (.own 105 (0) (0))), (9, .one (slOf 2 (tyRows (env')))), (26, .one (slOf 7 (tmRows a.l))), (27, .one (.int .i64 ((tmRows a.l).length : Nat))), (28, .one (.int .i64 ((0 : Nat) : Int)))] [(2, .obj a.c), (4, .obj Ty.any.c), (6, .obj Ty.num.c), (7, .obj Ty.truth.c), (105, .row 24 2 (0) (tyRows ([])))] [] [105] ⟨(by exact WkU.of_eq rfl zo), (zw rfl zo), (zw rfl zo), (zw rfl zo), (zw rfl zo), (zw rfl zo), (by exact WkC.nil (List.mem_cons_self ..)), (by exact WkU.of_eq rfl zo), (by exact WkU.of_eq rfl zo), (zw rfl zo), (zw rfl zo), zo⟩ ⟨(by exact zb rfl), (by exact zb rfl), (by exact zb rfl), (by exact zb rfl), (by exact Or.inr ⟨rfl, List.mem_cons_self .., _, _, by decide, rfl⟩), zo⟩ trivial ⟨rfl, zo⟩ rfl rfl ⟨zo, ⟨_, rfl⟩, ⟨_, rfl⟩, zo, ⟨_, rfl⟩, ⟨_, rfl⟩, ⟨_, _, _, _, rfl, Nat.le_refl _⟩, zo, zo, zo, zo, zo⟩ ⟨(by exact ⟨zo, zo, zo, zo, zo, zo, zo, zo⟩), (by exact ⟨zo, zo, zo⟩), (by exact ⟨zo, zo, zo⟩), (by exact ⟨zo, zo, zo⟩), (okRows_closed (by exact rfl)), zo⟩) ?_
    refine AW.lenSl 26 rfl fun hmax => ?_
    refine AW.loop (fun m t h => ∃ (i : Nat) (ks : List Ty), i ≤ a.l.length ∧ m = a.l.length - i ∧ ks.length = i ∧ (∀ x ∈ ks, Right x) ∧ tyL a.l env' = (tyL (a.l.drop i) env').map (ks ++ ·) ∧ t = tOfL [(1, .one (slOf 2 (tyRows env))), (2, .one (.ptr 2 0)), (4, .one (.ptr 4 0)), (5, .one (.bool false)), (6, .one (.ptr 6 0)), (7, .one (.ptr 7 0)), (8, .one (.own 105 (i) (i))), (9, .one (slOf 2 (tyRows (env')))), (26, .one (slOf 7 (tmRows a.l))), (27, .one (.int .i64 ((tmRows a.l).length : Nat))), (28, .one (.int .i64 ((i : Nat) : Int)))] ∧ h = ofL [(2, .obj a.c), (4, .obj Ty.any.c), (6, .obj Ty.num.c), (7, .obj Ty.truth.c), (105, .row 24 2 (i) (tyRows (ks)))]) a.l.length ⟨0, [], Nat.zero_le _, rfl, rfl, by simp, by simp, rfl, rfl⟩ ?_
    rintro m t h ⟨i, ks, hi, rfl, hks, hkr, hinv, rfl, rfl⟩
    have htk : (tyRows ks).length = i := by rw [tyRows_length, hks]
    cases hlt : decide ((i : Int) < ((tmRows a.l).length : Nat)) with
    | false =>
      have hil : i = a.l.length := by simp at hlt; omega
      have hkl : ks.length = a.l.length := by omega
      rw [hil, List.drop_length] at hinv
      have hT : tyT a env = tyFin a ks env := by rw [hT, hinv]; simp [tyL]
      refine zQ ?_;refine zV lac ?_;refine zn ?_;refine zq ?_;refine zaF ?_;refine zex ?_;refine zq ?_;refine zQ ?_;refine zV lad ?_;refine zV lae ?_;refine zn ?_;refine zbl ?_;refine zQ ?_;refine zV lac ?_;refine zV lab ?_;refine zn ?_
      refine AW.gh (gh_lit [(1, .one (slOf 2 (tyRows env))), (2, .one (.ptr 2 0)), (4, .one (.ptr 4 0)), (5, .one (.bool false)), (6, .one (.ptr 6 0)), (7, .one (.ptr 7 0)), (8, .one (slOf 2 (tyRows ks))), (47, .one (.int .i64 a.k)), (48, .one (.bool (a.k == 1)))] [(2, .obj a.c), (4, .obj Ty.any.c), (6, .obj Ty.num.c), (7, .obj Ty.truth.c)] [105] [] ⟨(by exact WkU.of_eq rfl zo), (zw rfl zo), (zw rfl zo), (zw rfl zo), (zw rfl zo), (zw rfl zo), (by exact WkC.row (List.mem_cons_self ..) rfl (by assumption) (by exact LeRows.refl _)), (zw rfl zo), (zw rfl zo), zo⟩ ⟨(by exact zb rfl), (by exact zb rfl), (by exact zb rfl), (by exact zb rfl), zo⟩ ⟨⟨_, rfl, closed_tyRows _⟩, zo⟩ trivial rfl rfl ⟨zo, ⟨_, rfl⟩, ⟨_, rfl⟩, zo, ⟨_, rfl⟩, ⟨_, rfl⟩, zo, zo, zo, zo⟩ ⟨(by exact ⟨zo, zo, zo, zo, zo, zo, zo, zo⟩), (by exact ⟨zo, zo, zo⟩), (by exact ⟨zo, zo, zo⟩), (by exact ⟨zo, zo, zo⟩), zo⟩) ?_
      clear hinv htk hlt
      rcases good_cases hg with ⟨e, el, n0, n1, _⟩ | ⟨e, el, _⟩ | ⟨e, el, _⟩ | ⟨e, _, _, x, y, el, h1, h2⟩ | ⟨e, _, _, x, y, z, el, h1, h2, h3⟩ | ⟨e, _, _, x, el, h1⟩ | ⟨e, _, _, x, el, h1⟩
      · have k1 : (a.k == 1) = true := by rw [e]; rfl
        have hi : a.n.toNat < env.length := by omega
        have hr1 := tyRows_get hi
        refine zaT ?_;refine zQ ?_;refine zV laa ?_;refine zV lad ?_;refine zV lae ?_
        refine zV (lap (a.n.toNat) rfl rfl (by omega) hr1) ?_
        refine zV lao ?_;refine zE laf ?_;refine zV lab ?_;refine zn ?_;refine zre ?_
        rw [show tyT a env = (env[a.n.toNat], true) by rw [hT]; simp [tyFin, k1, getT, hi]]
        refine rq ?_
        refine ret_ct (by exact .inr rfl) (by exact rfl) (by exact rfl) (by exact rfl) (by exact rfl) [] trivial (l' := (env[a.n.toNat]).c) (by exact wkRow_refl _) (by exact .le (.refl _)) (by exact zo) (by exact rfl) (by exact ⟨⟨zo, zo, zo⟩, zo, zo⟩) (by exact zo) (by exact rfl)
      · have k1 : (a.k == 1) = false := by rw [e]; rfl
        have k2 : (a.k == 2) = true := by rw [e]; rfl
        refine zaF ?_;refine zQ ?_;refine zV lac ?_;refine zV lab ?_;refine zn ?_;refine zaT ?_;refine zQ ?_;refine zV lai ?_;refine zE laf ?_;refine zV lab ?_;refine zn ?_;refine zre ?_
        rw [show tyT a env = (.num, true) by rw [hT]; simp [tyFin, k1, k2]]
        refine rq ?_
        refine ret_ct (by exact .inr rfl) (by exact rfl) (by exact rfl) (by exact rfl) (by exact rfl) [] trivial (l' := (Ty.num).c) (by exact wkRow_refl _) (by exact .le (.refl _)) (by exact zo) (by exact rfl) (by exact ⟨⟨zo, zo, zo⟩, zo, zo⟩) (by exact zo) (by exact rfl)
      · have k1 : (a.k == 1) = false := by rw [e]; rfl
        have k2 : (a.k == 2) = false := by rw [e]; rfl
        have k3 : (a.k == 3) = true := by rw [e]; rfl
        refine zaF ?_;refine zQ ?_;refine zV lac ?_;refine zV lab ?_;refine zn ?_;refine zaF ?_;refine zQ ?_;refine zV lac ?_;refine zV lab ?_;refine zn ?_;refine zaT ?_;refine zQ ?_;refine zV lai ?_;refine zE laf ?_;refine zV lab ?_;refine zn ?_;refine zre ?_
        rw [show tyT a env = (.truth, true) by rw [hT]; simp [tyFin, k1, k2, k3]]
        refine rq ?_
        refine ret_ct (by exact .inr rfl) (by exact rfl) (by exact rfl) (by exact rfl) (by exact rfl) [] trivial (l' := (Ty.truth).c) (by exact wkRow_refl _) (by exact .le (.refl _)) (by exact zo) (by exact rfl) (by exact ⟨⟨zo, zo, zo⟩, zo, zo⟩) (by exact zo) (by exact rfl)
      · obtain ⟨p, q, rfl⟩ := len2 (hkl.trans (by rw [el]; rfl))
        have rp := (right_iff _).2 (hkr p (by simp))
        have rq' := (right_iff _).2 (hkr q (by simp))
        have hr0 : (tyRows [p, q])[0]? = some p.c := by simp [tyRows, Ty.cells_c]
        have hr1 : (tyRows [p, q])[1]? = some q.c := by simp [tyRows, Ty.cells_c]
        have k1 : (a.k == 1) = false := by rw [beq_eq_false_iff_ne]; omega
        have k2 : (a.k == 2) = false := by rw [beq_eq_false_iff_ne]; omega
        have k3 : (a.k == 3) = false := by rw [beq_eq_false_iff_ne]; omega
        have k6 : (a.k == 6) = false := by rw [beq_eq_false_iff_ne]; omega
        have k7 : (a.k == 7) = false := by rw [beq_eq_false_iff_ne]; omega
        have s1 := fitsOf_a p .num rp rfl
        have s2 := fitsOf_a q .num rq' rfl
        rcases e with e | e | e
        · have k4 : (a.k == 4) = true := by rw [e]; rfl
          cases hp : p.fits .num with
          | false =>
            rw [hp] at s1
            refine zaF ?_;refine zQ ?_;refine zV lac ?_;refine zV lab ?_;refine zn ?_;refine zaF ?_;refine zQ ?_;refine zV lac ?_;refine zV lab ?_;refine zn ?_;refine zaF ?_;refine zQ ?_;refine zV lac ?_;refine zV lab ?_;refine zn ?_;refine zaT ?_;refine zq ?_;refine zRD ?_;refine zV lai ?_;refine zV laa ?_;refine zV (lap _) ?_;refine zV lao ?_;refine zV lai ?_
            refine zV (lal s1 rfl (by refine zC2 ?_;refine zC2 ?_;exact rfl)) ?_
            refine zV laa ?_;refine zs ?_;refine zs ?_;refine zs ?_;refine zs ?_;refine zs ?_;refine zV lax ?_;refine zE laf ?_;refine zV lab ?_;refine znD ?_;refine zre ?_
            rw [show tyT a env = (.num, false) by rw [hT]; simp [tyFin, k1, k2, k3, k4, getT, hp]]
            refine rq ?_
            refine ret_ct (by exact .inr rfl) (by exact rfl) (by exact rfl) (by exact rfl) (by exact rfl) [] trivial (l' := (Ty.num).c) (by exact wkRow_refl _) (by exact .le (.refl _)) (by exact zo) (by exact rfl) (by exact ⟨⟨zo, zo, zo⟩, zo, zo⟩) (by exact zo) (by exact rfl)
          | true =>
            rw [hp] at s1
            refine zaF ?_;refine zQ ?_;refine zV lac ?_;refine zV lab ?_;refine zn ?_;refine zaF ?_;refine zQ ?_;refine zV lac ?_;refine zV lab ?_;refine zn ?_;refine zaF ?_;refine zQ ?_;refine zV lac ?_;refine zV lab ?_;refine zn ?_;refine zaT ?_;refine zq ?_;refine zRD ?_;refine zV lai ?_;refine zV laa ?_;refine zV (lap _) ?_;refine zV lao ?_;refine zV lai ?_
            refine zV (lal s1 rfl (by refine zC2 ?_;refine zC2 ?_;exact rfl)) ?_
            refine zV laa ?_;refine zI laa ?_;refine zI (lap _) ?_;refine zI lao ?_;refine zI lai ?_
            refine zI (lal s2 rfl (by refine zC2 ?_;refine zC2 ?_;exact rfl)) ?_
            refine zV laA ?_;refine zE laf ?_;refine zV lab ?_;refine znD ?_;refine zre ?_
            rw [show tyT a env = (.num, q.fits .num) by rw [hT]; simp [tyFin, k1, k2, k3, k4, getT, hp]]
            refine rq ?_
            refine ret_ct (by exact .inr rfl) (by exact rfl) (by exact rfl) (by exact rfl) (by exact rfl) [] trivial (l' := (Ty.num).c) (by exact wkRow_refl _) (by exact .le (.refl _)) (by exact zo) (by exact rfl) (by exact ⟨⟨zo, zo, zo⟩, zo, zo⟩) (by exact zo) (by exact rfl)
        · have k4 : (a.k == 4) = false := by rw [e]; rfl
          have k5 : (a.k == 5) = true := by rw [e]; rfl
          cases hp : p.fits .num with
          | false =>
            rw [hp] at s1
            refine zaF ?_;refine zQ ?_;refine zV lac ?_;refine zV lab ?_;refine zn ?_;refine zaF ?_;refine zQ ?_;refine zV lac ?_;refine zV lab ?_;refine zn ?_;refine zaF ?_;refine zQ ?_;refine zV lac ?_;refine zV lab ?_;refine zn ?_;refine zaF ?_;refine zQ ?_;refine zV lac ?_;refine zV lab ?_;refine zn ?_;refine zaT ?_;refine zq ?_;refine zRD ?_;refine zV lai ?_;refine zV laa ?_;refine zV (lap _) ?_;refine zV lao ?_;refine zV lai ?_
            refine zV (lal s1 rfl (by refine zC2 ?_;refine zC2 ?_;exact rfl)) ?_
            refine zV laa ?_;refine zs ?_;refine zs ?_;refine zs ?_;refine zs ?_;refine zs ?_;refine zV lax ?_;refine zE laf ?_;refine zV lab ?_;refine znD ?_;refine zre ?_
            rw [show tyT a env = (.truth, false) by rw [hT]; simp [tyFin, k1, k2, k3, k4, k5, getT, hp]]
            refine rq ?_
            refine ret_ct (by exact .inr rfl) (by exact rfl) (by exact rfl) (by exact rfl) (by exact rfl) [] trivial (l' := (Ty.truth).c) (by exact wkRow_refl _) (by exact .le (.refl _)) (by exact zo) (by exact rfl) (by exact ⟨⟨zo, zo, zo⟩, zo, zo⟩) (by exact zo) (by exact rfl)
          | true =>
            rw [hp] at s1
            refine zaF ?_;refine zQ ?_;refine zV lac ?_;refine zV lab ?_;refine zn ?_;refine zaF ?_;refine zQ ?_;refine zV lac ?_;refine zV lab ?_;refine zn ?_;refine zaF ?_;refine zQ ?_;refine zV lac ?_;refine zV lab ?_;refine zn ?_;refine zaF ?_;refine zQ ?_;refine zV lac ?_;refine zV lab ?_;refine zn ?_;refine zaT ?_;refine zq ?_;refine zRD ?_;refine zV lai ?_;refine zV laa ?_;refine zV (lap _) ?_;refine zV lao ?_;refine zV lai ?_
            refine zV (lal s1 rfl (by refine zC2 ?_;refine zC2 ?_;exact rfl)) ?_
            refine zV laa ?_;refine zI laa ?_;refine zI (lap _) ?_;refine zI lao ?_;refine zI lai ?_
            refine zI (lal s2 rfl (by refine zC2 ?_;refine zC2 ?_;exact rfl)) ?_
            refine zV laA ?_;refine zE laf ?_;refine zV lab ?_;refine znD ?_;refine zre ?_
            rw [show tyT a env = (.truth, q.fits .num) by rw [hT]; simp [tyFin, k1, k2, k3, k4, k5, getT, hp]]
            refine rq ?_
            refine ret_ct (by exact .inr rfl) (by exact rfl) (by exact rfl) (by exact rfl) (by exact rfl) [] trivial (l' := (Ty.truth).c) (by exact wkRow_refl _) (by exact .le (.refl _)) (by exact zo) (by exact rfl) (by exact ⟨⟨zo, zo, zo⟩, zo, zo⟩) (by exact zo) (by exact rfl)
        · have k4 : (a.k == 4) = false := by rw [e]; rfl
          have k5 : (a.k == 5) = false := by rw [e]; rfl
          have k8 : (a.k == 8) = true := by rw [e]; rfl
          cases p0 : (p.k == 0) with
          | true =>
            refine zaF ?_;refine zQ ?_;refine zV lac ?_;refine zV lab ?_;refine zn ?_;refine zaF ?_;refine zQ ?_;refine zV lac ?_;refine zV lab ?_;refine zn ?_;refine zaF ?_;refine zQ ?_;refine zV lac ?_;refine zV lab ?_;refine zn ?_;refine zaF ?_;refine zQ ?_;refine zV lac ?_;refine zV lab ?_;refine zn ?_;refine zaF ?_;refine zQ ?_;refine zV lac ?_;refine zV lab ?_;refine zn ?_;refine zaF ?_;refine zQ ?_;refine zV lac ?_;refine zV lab ?_;refine zn ?_;refine zaF ?_;refine zQ ?_;refine zV lac ?_;refine zV lab ?_;refine zn ?_;refine zaT ?_;refine zq ?_;refine zQ ?_;refine zV laa ?_;refine zV (lap _) ?_;refine zV lak ?_;refine zV laj ?_;refine zV lac ?_;refine zn ?_;refine zaT ?_;refine zQ ?_
            refine zV (lal any0_a) ?_
            refine zE laf ?_;refine zV lab ?_;refine zn ?_;refine zre ?_
            rw [show tyT a env = (.any, true) by rw [hT]; simp [tyFin, k1, k2, k3, k4, k5, k6, k7, k8, getT, p0]]
            refine rq ?_
            refine ret_ct (by exact .inr rfl) (by exact rfl) (by exact rfl) (by exact rfl) (by exact rfl) [] trivial (l' := (Ty.any).c) (by exact wkRow_refl _) (by exact .le (.refl _)) (by exact zo) (by exact rfl) (by exact ⟨⟨zo, zo, zo⟩, zo, zo⟩) (by exact zo) (by exact rfl)
          | false =>
          cases p3 : (p.k != 3) with
          | true =>
            refine zaF ?_;refine zQ ?_;refine zV lac ?_;refine zV lab ?_;refine zn ?_;refine zaF ?_;refine zQ ?_;refine zV lac ?_;refine zV lab ?_;refine zn ?_;refine zaF ?_;refine zQ ?_;refine zV lac ?_;refine zV lab ?_;refine zn ?_;refine zaF ?_;refine zQ ?_;refine zV lac ?_;refine zV lab ?_;refine zn ?_;refine zaF ?_;refine zQ ?_;refine zV lac ?_;refine zV lab ?_;refine zn ?_;refine zaF ?_;refine zQ ?_;refine zV lac ?_;refine zV lab ?_;refine zn ?_;refine zaF ?_;refine zQ ?_;refine zV lac ?_;refine zV lab ?_;refine zn ?_;refine zaT ?_;refine zq ?_;refine zQ ?_;refine zV laa ?_;refine zV (lap _) ?_;refine zV lak ?_;refine zV laj ?_;refine zV lac ?_;refine zn ?_;refine zaF ?_;refine zsk ?_;refine zq ?_;refine zQ ?_;refine zV laa ?_;refine zV (lap _) ?_;refine zV lak ?_;refine zV laj ?_;refine zV lac ?_;refine zn ?_;refine zaT ?_;refine zQ ?_
            refine zV (lal any0_a) ?_
            refine zE laf ?_;refine zV lab ?_;refine zn ?_;refine zre ?_
            rw [show tyT a env = (.any, false) by rw [hT]; simp only [tyFin, k1, k2, k3, k4, k5, k6, k7, k8, getT, p0, p3, List.getD_cons_zero, if_true, if_false, Bool.false_eq_true]]
            refine rq ?_
            refine ret_ct (by exact .inr rfl) (by exact rfl) (by exact rfl) (by exact rfl) (by exact rfl) [] trivial (l' := (Ty.any).c) (by exact wkRow_refl _) (by exact .le (.refl _)) (by exact zo) (by exact rfl) (by exact ⟨⟨zo, zo, zo⟩, zo, zo⟩) (by exact zo) (by exact rfl)
          | false =>
            have p3' : p.k = 3 := by simpa using p3
            obtain ⟨c, d, hcd⟩ := len2 ((hkr p (by simp)).two p3')
            have rc := (right_iff _).2 ((hkr p (by simp)).part c (by rw [hcd]; simp))
            have rd := (right_iff _).2 ((hkr p (by simp)).part d (by rw [hcd]; simp))
            have hq0 : (tyRows p.l)[0]? = some c.c := by rw [hcd]; simp [tyRows, Ty.cells_c]
            have hq1 : (tyRows p.l)[1]? = some d.c := by rw [hcd]; simp [tyRows, Ty.cells_c]
            refine zaF ?_;refine zQ ?_;refine zV lac ?_;refine zV lab ?_;refine zn ?_;refine zaF ?_;refine zQ ?_;refine zV lac ?_;refine zV lab ?_;refine zn ?_;refine zaF ?_;refine zQ ?_;refine zV lac ?_;refine zV lab ?_;refine zn ?_;refine zaF ?_;refine zQ ?_;refine zV lac ?_;refine zV lab ?_;refine zn ?_;refine zaF ?_;refine zQ ?_;refine zV lac ?_;refine zV lab ?_;refine zn ?_;refine zaF ?_;refine zQ ?_;refine zV lac ?_;refine zV lab ?_;refine zn ?_;refine zaF ?_;refine zQ ?_;refine zV lac ?_;refine zV lab ?_;refine zn ?_;refine zaT ?_;refine zq ?_;refine zQ ?_;refine zV laa ?_;refine zV (lap _) ?_;refine zV lak ?_;refine zV laj ?_;refine zV lac ?_;refine zn ?_;refine zaF ?_;refine zsk ?_;refine zq ?_;refine zQ ?_;refine zV laa ?_;refine zV (lap _) ?_;refine zV lak ?_;refine zV laj ?_;refine zV lac ?_;refine zn ?_;refine zaF ?_;refine zsk ?_;refine zq ?_;refine zRD ?_;refine zV laa ?_;refine zV (lap _) ?_;refine zV lak ?_;refine zV laj ?_;refine zV (lap _) ?_;refine zV lao ?_;refine zV laa ?_;refine zV (lap _) ?_;refine zV lao ?_;refine zV laa ?_;refine zV (lap _) ?_;refine zV lak ?_;refine zV laj ?_;refine zV (lap _) ?_;refine zV lao ?_
            refine zV (lal (fitsOf_a q c rq' rc) rfl (by refine zC2 ?_;refine zC2 ?_;exact rfl)) ?_
            refine zE laf ?_;refine zV lab ?_;refine znD ?_;refine zre ?_
            rw [show tyT a env = (d, q.fits c) by rw [hT]; simp only [tyFin, k1, k2, k3, k4, k5, k6, k7, k8, getT, p0, p3, hcd, List.getD_cons_zero, List.getD_cons_succ, if_true, if_false, Bool.false_eq_true]]
            refine rq ?_
            refine ret_ct (by exact .inr rfl) (by exact rfl) (by exact rfl) (by exact rfl) (by exact rfl) [] trivial (l' := (d).c) (by exact wkRow_refl _) (by exact .le (.refl _)) (by exact zo) (by exact rfl) (by exact ⟨⟨zo, zo, zo⟩, zo, zo⟩) (by exact zo) (by exact rfl)
      · obtain ⟨p, q, r, rfl⟩ := len3 (hkl.trans (by rw [el]; rfl))
        have rp := (right_iff _).2 (hkr p (by simp))
        have rq' := (right_iff _).2 (hkr q (by simp))
        have rr := (right_iff _).2 (hkr r (by simp))
        have hr0 : (tyRows [p, q, r])[0]? = some p.c := by simp [tyRows, Ty.cells_c]
        have hr1 : (tyRows [p, q, r])[1]? = some q.c := by simp [tyRows, Ty.cells_c]
        have hr2 : (tyRows [p, q, r])[2]? = some r.c := by simp [tyRows, Ty.cells_c]
        have k1 : (a.k == 1) = false := by rw [e]; rfl
        have k2 : (a.k == 2) = false := by rw [e]; rfl
        have k3 : (a.k == 3) = false := by rw [e]; rfl
        have k4 : (a.k == 4) = false := by rw [e]; rfl
        have k5 : (a.k == 5) = false := by rw [e]; rfl
        have k6 : (a.k == 6) = true := by rw [e]; rfl
        have s1 := fitsOf_a p .truth rp rfl
        have s2 := fitsOf_a q r rq' rr
        have s3 := joinOf_a q r rq' rr
        cases hp : p.fits .truth with
        | false =>
          rw [hp] at s1
          refine zaF ?_;refine zQ ?_;refine zV lac ?_;refine zV lab ?_;refine zn ?_;refine zaF ?_;refine zQ ?_;refine zV lac ?_;refine zV lab ?_;refine zn ?_;refine zaF ?_;refine zQ ?_;refine zV lac ?_;refine zV lab ?_;refine zn ?_;refine zaF ?_;refine zQ ?_;refine zV lac ?_;refine zV lab ?_;refine zn ?_;refine zaF ?_;refine zQ ?_;refine zV lac ?_;refine zV lab ?_;refine zn ?_;refine zaT ?_;refine zq ?_;refine zRD ?_;refine zV laa ?_;refine zV (lap _) ?_;refine zV lao ?_;refine zV laa ?_;refine zV (lap _) ?_;refine zV lao ?_
          refine zV (lal s3 rfl (by refine zC2 ?_;refine zC2 ?_;exact rfl)) ?_
          refine zV laa ?_;refine zV (lap _) ?_;refine zV lao ?_;refine zV lai ?_
          refine zV (lal s1 rfl (by refine zC2 ?_;refine zC2 ?_;exact rfl)) ?_
          refine zV laa ?_;refine zs ?_;refine zs ?_;refine zs ?_;refine zs ?_;refine zs ?_;refine zs ?_;refine zs ?_;refine zV lax ?_;refine zE laf ?_;refine zV lab ?_;refine znD ?_;refine zre ?_
          rw [show tyT a env = (q.join r, false) by rw [hT]; simp [tyFin, k1, k2, k3, k4, k5, k6, getT, hp]]
          refine rq ?_
          refine ret_ct (by exact .inr rfl) (by exact rfl) (by exact rfl) (by exact rfl) (by exact rfl) [] trivial (l' := (q.join r).c) (by exact wkRow_refl _) (by exact .le (.refl _)) (by exact zo) (by exact rfl) (by exact ⟨⟨zo, zo, zo⟩, zo, zo⟩) (by exact zo) (by exact rfl)
        | true =>
          rw [hp] at s1
          refine zaF ?_;refine zQ ?_;refine zV lac ?_;refine zV lab ?_;refine zn ?_;refine zaF ?_;refine zQ ?_;refine zV lac ?_;refine zV lab ?_;refine zn ?_;refine zaF ?_;refine zQ ?_;refine zV lac ?_;refine zV lab ?_;refine zn ?_;refine zaF ?_;refine zQ ?_;refine zV lac ?_;refine zV lab ?_;refine zn ?_;refine zaF ?_;refine zQ ?_;refine zV lac ?_;refine zV lab ?_;refine zn ?_;refine zaT ?_;refine zq ?_;refine zRD ?_;refine zV laa ?_;refine zV (lap _) ?_;refine zV lao ?_;refine zV laa ?_;refine zV (lap _) ?_;refine zV lao ?_
          refine zV (lal s3 rfl (by refine zC2 ?_;refine zC2 ?_;exact rfl)) ?_
          refine zV laa ?_;refine zV (lap _) ?_;refine zV lao ?_;refine zV lai ?_
          refine zV (lal s1 rfl (by refine zC2 ?_;refine zC2 ?_;exact rfl)) ?_
          refine zV laa ?_;refine zI laa ?_;refine zI (lap _) ?_;refine zI lao ?_;refine zI laa ?_;refine zI (lap _) ?_;refine zI lao ?_
          refine zI (lal s2 rfl (by refine zC2 ?_;refine zC2 ?_;exact rfl)) ?_
          refine zV laA ?_;refine zE laf ?_;refine zV lab ?_;refine znD ?_;refine zre ?_
          rw [show tyT a env = (q.join r, q.fits r) by rw [hT]; simp [tyFin, k1, k2, k3, k4, k5, k6, getT, hp]]
          refine rq ?_
          refine ret_ct (by exact .inr rfl) (by exact rfl) (by exact rfl) (by exact rfl) (by exact rfl) [] trivial (l' := (q.join r).c) (by exact wkRow_refl _) (by exact .le (.refl _)) (by exact zo) (by exact rfl) (by exact ⟨⟨zo, zo, zo⟩, zo, zo⟩) (by exact zo) (by exact rfl)
      · obtain ⟨p, rfl⟩ := len1 (hkl.trans (by rw [el]; rfl))
        have hr0 : (tyRows [p])[0]? = some p.c := by simp [tyRows, Ty.cells_c]
        have k1 : (a.k == 1) = false := by rw [e]; rfl
        have k2 : (a.k == 2) = false := by rw [e]; rfl
        have k3 : (a.k == 3) = false := by rw [e]; rfl
        have k4 : (a.k == 4) = false := by rw [e]; rfl
        have k5 : (a.k == 5) = false := by rw [e]; rfl
        have k6 : (a.k == 6) = false := by rw [e]; rfl
        have k7 : (a.k == 7) = true := by rw [e]; rfl
        refine zaF ?_;refine zQ ?_;refine zV lac ?_;refine zV lab ?_;refine zn ?_;refine zaF ?_;refine zQ ?_;refine zV lac ?_;refine zV lab ?_;refine zn ?_;refine zaF ?_;refine zQ ?_;refine zV lac ?_;refine zV lab ?_;refine zn ?_;refine zaF ?_;refine zQ ?_;refine zV lac ?_;refine zV lab ?_;refine zn ?_;refine zaF ?_;refine zQ ?_;refine zV lac ?_;refine zV lab ?_;refine zn ?_;refine zaF ?_;refine zQ ?_;refine zV lac ?_;refine zV lab ?_;refine zn ?_;refine zaT ?_;refine zq ?_;refine zRD ?_;refine zV lad ?_;refine zV (lai rfl rfl (by exact Cut.cons (by exact rfl) (Cut.cons (by exact rfl) Cut.nil))) ?_;refine zV laa ?_;refine zV (lap _) ?_;refine zV lao ?_
        refine zV (lal (fun_a a.t p) rfl (by refine zC2 ?_;refine zC2 ?_;exact rfl)) ?_
        refine zE laf ?_;refine zV lab ?_;refine znD ?_;refine zre ?_
        rw [show tyT a env = (.to a.t p, true) by rw [hT]; simp [tyFin, k1, k2, k3, k4, k5, k6, k7, getT]]
        refine rq ?_
        refine ret_ct (by exact .inr rfl) (by exact rfl) (by exact rfl) (by exact rfl) (by exact rfl) [] trivial (l' := (Ty.to a.t p).c) (by exact wkRow_refl _) (by exact .le (.refl _)) (by exact zo) (by exact rfl) (by exact ⟨⟨zo, zo, zo⟩, zo, zo⟩) (by exact zo) (by exact rfl)
      · obtain ⟨p, rfl⟩ := len1 (hkl.trans (by rw [el]; rfl))
        have rp := (right_iff _).2 (hkr p (by simp))
        have rt := (right_iff _).2 (hfr (.inr e))
        have hr0 : (tyRows [p])[0]? = some p.c := by simp [tyRows, Ty.cells_c]
        have k1 : (a.k == 1) = false := by rw [e]; rfl
        have k2 : (a.k == 2) = false := by rw [e]; rfl
        have k3 : (a.k == 3) = false := by rw [e]; rfl
        have k4 : (a.k == 4) = false := by rw [e]; rfl
        have k5 : (a.k == 5) = false := by rw [e]; rfl
        have k6 : (a.k == 6) = false := by rw [e]; rfl
        have k7 : (a.k == 7) = false := by rw [e]; rfl
        have k8 : (a.k == 8) = false := by rw [e]; rfl
        refine zaF ?_;refine zQ ?_;refine zV lac ?_;refine zV lab ?_;refine zn ?_;refine zaF ?_;refine zQ ?_;refine zV lac ?_;refine zV lab ?_;refine zn ?_;refine zaF ?_;refine zQ ?_;refine zV lac ?_;refine zV lab ?_;refine zn ?_;refine zaF ?_;refine zQ ?_;refine zV lac ?_;refine zV lab ?_;refine zn ?_;refine zaF ?_;refine zQ ?_;refine zV lac ?_;refine zV lab ?_;refine zn ?_;refine zaF ?_;refine zQ ?_;refine zV lac ?_;refine zV lab ?_;refine zn ?_;refine zaF ?_;refine zQ ?_;refine zV lac ?_;refine zV lab ?_;refine zn ?_;refine zaF ?_;refine zsk ?_;refine zq ?_;refine zRD ?_;refine zV lad ?_;refine zV (lai rfl rfl (by exact Cut.cons (by exact rfl) (Cut.cons (by exact rfl) Cut.nil))) ?_;refine zV laa ?_;refine zV (lap _) ?_;refine zV lao ?_;refine zV lad ?_;refine zV (lai rfl rfl (by exact Cut.cons (by exact rfl) (Cut.cons (by exact rfl) Cut.nil))) ?_
        refine zV (lal (fitsOf_a p a.t rp rt) rfl (by refine zC2 ?_;refine zC2 ?_;exact rfl)) ?_
        refine zE laf ?_;refine zV lab ?_;refine znD ?_;refine zre ?_
        rw [show tyT a env = (a.t, p.fits a.t) by rw [hT]; simp [tyFin, k1, k2, k3, k4, k5, k6, k7, k8, getT]]
        refine rq ?_
        refine ret_ct (by exact .inr rfl) (by exact rfl) (by exact rfl) (by exact rfl) (by exact rfl) [] trivial (l' := (a.t).c) (by exact wkRow_refl _) (by exact .le (.refl _)) (by exact zo) (by exact rfl) (by exact ⟨⟨zo, zo, zo⟩, zo, zo⟩) (by exact zo) (by exact rfl)
    | true =>
      have hil : i < a.l.length := by simp at hlt; omega
      have hr1 := tmRows_get hil
      have hmem : a.l[i] ∈ a.l := List.getElem_mem hil
      have hn3 := nodes_mem hmem
      have hgi := goodL_mem hgl _ hmem
      have hc := ih a.l[i] hmem env' hgi hwr (by omega)
      rw [tyL_drop hil] at hinv
      cases hok : (tyT a.l[i] env').2 with
      | false =>
        rw [hok] at hc hinv
        refine zQ ?_;refine zV lac ?_;refine zn ?_;refine zq ?_;refine zaT ?_;refine zsk ?_;refine zq ?_;refine zbl ?_;refine zQ ?_;refine zV (lap _) ?_;refine zV lao ?_;refine zM lah ?_;refine zE laf ?_;refine zn ?_;refine zQ ?_;refine zV lai ?_;refine zV laa ?_
        refine zV (lal hc rfl (by refine zC7 ?_;refine zC ?_;exact rfl)) ?_
        refine zV laE ?_;refine zV lar ?_;refine zV lat ?_;refine zM lah ?_;refine zE laf ?_;refine zV lab ?_;refine zn ?_;refine zq ?_;refine zQ ?_;refine zV laa ?_;refine zV laz ?_;refine zn ?_;refine zcT ?_;refine zQ ?_
        refine zV (lal any0_a) ?_
        refine zE laf ?_;refine zV lab ?_;refine zn ?_;refine zre ?_
        rw [show tyT a env = (.any, false) by rw [hT, hinv]; rfl]
        refine rq ?_
        refine ret_ct (by exact .inr rfl) (by exact rfl) (by exact rfl) (by exact rfl) (by exact rfl) [] trivial (l' := (Ty.any).c) (by exact wkRow_refl _) (by exact .le (.refl _)) (by exact zo) (by exact rfl) (by exact ⟨⟨zo, zo, zo⟩, zo, zo⟩) (by exact zo) (by exact rfl)
      | true =>
        have hrt := ty_right hgi hwr hok
        rw [hok] at hc hinv
        generalize (tyT a.l[i] env').1 = ty at *
        refine zQ ?_;refine zV lac ?_;refine zn ?_;refine zq ?_;refine zaT ?_;refine zsk ?_;refine zq ?_;refine zbl ?_;refine zQ ?_;refine zV (lap _) ?_;refine zV lao ?_;refine zM lah ?_;refine zE laf ?_;refine zn ?_;refine zQ ?_;refine zV lai ?_;refine zV laa ?_
        refine zV (lal hc rfl (by refine zC7 ?_;refine zC ?_;exact rfl)) ?_
        refine zV laE ?_;refine zV lar ?_;refine zV lat ?_;refine zM lah ?_;refine zE laf ?_;refine zV lab ?_;refine zn ?_;refine zq ?_;refine zQ ?_;refine zV laa ?_;refine zV laz ?_;refine zn ?_;refine zcF ?_;refine zsk ?_;refine zR ?_;refine zV laa ?_;refine zV lai ?_;refine zV laF ?_
        refine zM (laK (by exact rfl) (by exact rfl) (by exact rfl) (by exact .inl rfl) (by exact htk) (by exact ⟨rfl, zo⟩) (by simp only [List.length_cons, List.length_nil]; omega)) ?_
        have hrows : tyRows ks ++ [ty.c] = tyRows (ks ++ [ty]) := by
          rw [tyRows_append]; simp [tyRows, Ty.cells_c]
        rw [hrows]
        refine zV lab ?_;refine zn ?_;refine zR ?_;refine zV laB ?_;refine zV laa ?_;refine zn ?_
        exact ⟨a.l.length - (i + 1), _, _, by omega, (gh_lit [(1, .one (slOf 2 (tyRows env))), (2, .one (.ptr 2 0)), (4, .one (.ptr 4 0)), (5, .one (.bool false)), (6, .one (.ptr 6 0)), (7, .one (.ptr 7 0)), (8, .one (.own 105 ((i + 1)) ((i + 1)))), (9, .one (slOf 2 (tyRows (env')))), (26, .one (slOf 7 (tmRows a.l))), (27, .one (.int .i64 ((tmRows a.l).length : Nat))), (28, .one (.int .i64 (((i + 1) : Nat) : Int)))] [(2, .obj a.c), (4, .obj Ty.any.c), (6, .obj Ty.num.c), (7, .obj Ty.truth.c), (105, .row 24 2 ((i + 1)) (tyRows ((ks ++ [ty]))))] [] [] ⟨(by exact WkU.of_eq rfl zo), (zw rfl zo), (zw rfl zo), (zw rfl zo), (zw rfl zo), (zw rfl zo), (by exact WkU.of_eq rfl zo), (by exact WkU.of_eq rfl zo), (by exact WkU.of_eq rfl zo), (zw rfl zo), (zw rfl zo), zo⟩ ⟨(by exact zb rfl), (by exact zb rfl), (by exact zb rfl), (by exact zb rfl), (by exact zb rfl), zo⟩ trivial zo rfl rfl ⟨zo, ⟨_, rfl⟩, ⟨_, rfl⟩, zo, ⟨_, rfl⟩, ⟨_, rfl⟩, ⟨_, _, _, _, rfl, Nat.le_refl _⟩, zo, zo, zo, zo, zo⟩ ⟨(by exact ⟨zo, zo, zo, zo, zo, zo, zo, zo⟩), (by exact ⟨zo, zo, zo⟩), (by exact ⟨zo, zo, zo⟩), (by exact ⟨zo, zo, zo⟩), (okRows_closed (by exact closed_tyRows _)), zo⟩), i + 1, ks ++ [ty], by omega, rfl, by simp [hks], by
          intro x hx
          rcases List.mem_append.1 hx with hx | hx
          · exact hkr x hx
          · rw [List.mem_singleton.1 hx]; exact hrt, by
          rw [hinv, if_pos rfl]; cases tyL (a.l.drop (i + 1)) env' <;> simp, rfl, rfl⟩
end Go.Proofs.YtnflnbdlgdjfmabGreatDoor
namespace Go.Proofs.YtnflnbdlgdjfmabGreatDoor
open Go.RowKit
set_option linter.unusedVariables false
set_option linter.unusedSimpArgs false
set_option maxRecDepth 100000
attribute [local irreducible] RunL AW LocOp ACalls Gh
theorem tyL_kinds : ∀ {l : List Tm} {env ks : List Ty}, tyL l env = some ks → ks = kindsR l env ∧ ∀ x ∈ l, (tyT x env).2 = true
  | [], env, ks, h => by simp only [tyL] at h; cases h; exact ⟨rfl, fun x hx => by cases hx⟩
  | a :: l, env, ks, h => by
    simp only [tyL] at h
    split at h
    · rename_i ha
      cases hl : tyL l env with
      | none => rw [hl] at h; cases h
      | some q =>
        rw [hl] at h; cases h
        obtain ⟨h1, h2⟩ := tyL_kinds hl
        refine ⟨by rw [h1]; rfl, fun x hx => ?_⟩
        rcases List.mem_cons.1 hx with rfl | hx
        · exact ha
        · exact h2 x hx
    · cases h
theorem tyT_parts {a : Tm} {env : List Ty} (h : (tyT a env).2 = true) : tyL a.l (within a env) = some (kindsR a.l (within a env)) ∧ ∀ x ∈ a.l, (tyT x (within a env)).2 = true := by
  rw [tyT_eta] at h
  cases hl : tyL a.l (within a env) with
  | none => rw [hl] at h; cases h
  | some ks =>
    obtain ⟨h1, h2⟩ := tyL_kinds hl
    exact ⟨by rw [h1], h2⟩
theorem kindsR_length (l : List Tm) (env : List Ty) : (kindsR l env).length = l.length := by simp [kindsR]
theorem kindsR_take {l : List Tm} {i : Nat} (h : i < l.length) (env : List Ty) : kindsR (l.take (i + 1)) env = kindsR (l.take i) env ++ [(tyT l[i] env).1] := by
  unfold kindsR; rw [List.take_add_one, List.getElem?_eq_getElem h, Option.toList_some, List.map_append]; rfl
theorem getT_get {l : List Ty} {i : Nat} (h : i < l.length) : getT l i = l[i] := by simp [getT, List.getD_eq_getElem?_getD, h]
theorem wcL_step {l : List Tm} {i : Nat} (h : i < l.length) {hs ws : List Ty} (h1 : i < hs.length) (h2 : i < ws.length) (env : List Ty) (m : Int) : wcL (l.drop i) (hs.drop i) (ws.drop i) env m = asT (wcT l[i] env m) hs[i] ws[i] m :: wcL (l.drop (i + 1)) (hs.drop (i + 1)) (ws.drop (i + 1)) env (m + l[i].nodes) := by
  rw [wcL_drop h, getT_get h1, getT_get h2]
set_option maxHeartbeats 8000000 in
theorem withCasts_a : ∀ (a : Tm) (env : List Ty) (m : Int), a.good 0 env.length = true → (∀ t ∈ env, Right t) → (tyT a env).2 = true → 0 ≤ m → m + a.nodes ≤ 1048576 → env.length + a.nodes ≤ 1048576 →
    ACalls Tryz.prog 40 [a.u, .one (slOf 2 (tyRows env)), .one (.int .i64 m)] [] (wcT a env m).u [] := by
  intro a
  induction a using Tm.ind' with
  | h a ih =>
  intro env m hg he hty h0 hsz hsz2
  have hne := nodes_eta a
  have hE := tyRows_length env
  have hL := tmRows_length a.l
  have hnn := nodesL_len a.l
  have hg2 := hg
  rw [goodT_eta, Bool.and_eq_true] at hg2
  have hfr := fit_right hg2.1
  have hwr := within_right (fun h7 => hfr (.inl h7)) he
  have hgl := hg2.2
  rw [← within_len] at hgl
  have hwl : (within a env).length ≤ env.length + 1 := by unfold within; split <;> simp
  refine acalls_of_body Tryz.func40 rfl (by kernel_rfl) (Nat.le_of_ble_eq_true rfl) zo (by simp [namesL]) ?_
  refine zQ ?_;refine zM lan ?_;refine zM lah ?_;refine zn ?_;refine zQ ?_;refine zV laq ?_;refine zM lah ?_;refine zE laf ?_;refine zn ?_;refine zQ ?_;refine zV laa ?_;refine zV lab ?_;refine zn ?_;refine zq ?_;refine zQ ?_;refine zV lad ?_;refine zV lae ?_;refine zV lac ?_;refine zn ?_
  refine AW.midB (fun t h => t = tOfL [(2, .one (.int .i64 m)), (3, .one (.ptr 3 0)), (6, .one (.ptr 6 0)), (7, .one (.ptr 7 0)), (8, .one (slOf 2 (tyRows (within a env))))] ∧ h = ofL [(3, .obj a.c), (6, .obj Tm.zero.c), (7, .obj Ty.num.c)]) ?_ ?_
  · cases h7 : (a.k == 7) with
    | false =>
      refine zcF ?_;refine zsk ?_
      rw [show within a env = env by unfold within; rw [h7]; rfl]
      exact ⟨_, _, (gh_lit [(2, .one (.int .i64 m)), (3, .one (.ptr 3 0)), (6, .one (.ptr 6 0)), (7, .one (.ptr 7 0)), (8, .one (slOf 2 (tyRows (env))))] [(3, .obj a.c), (6, .obj Tm.zero.c), (7, .obj Ty.num.c)] [] [] ⟨(zw rfl zo), (zw rfl zo), (zw rfl zo), (zw rfl zo), (by exact WkU.of_eq rfl zo), zo⟩ ⟨(by exact zb rfl), (by (refine Or.inl ⟨_, rfl, ?_⟩; show All2 _ _ _; exact ⟨WkC.le (LeC.refl _), WkC.le (LeC.refl _), WkC.le (LeC.refl _), WkC.le (LeC.nil _), WkC.le (LeC.refl _), WkC.le (LeC.nil _), WkC.le (LeC.nil _), zo⟩)), (by (refine Or.inl ⟨_, rfl, ?_⟩; show All2 _ _ _; exact ⟨WkC.le (LeC.refl _), WkC.le (LeC.nil _), zo⟩)), zo⟩ trivial zo rfl rfl ⟨zo, ⟨_, rfl⟩, ⟨_, rfl⟩, ⟨_, rfl⟩, zo, zo⟩ ⟨(by exact ⟨zo, zo, zo, zo, zo, zo, zo, zo⟩), (by exact ⟨zo, zo, zo, zo, zo, zo, zo, zo⟩), (by exact ⟨zo, zo, zo⟩), zo⟩), rfl, rfl⟩
    | true =>
      rw [show within a env = a.t :: env by unfold within; rw [h7]; rfl]
      have hx : tyRows (a.t :: env) = [a.t.c] ++ tyRows env := by simp [tyRows, Ty.cells_c]
      rw [hx]
      by_cases hee : env = []
      · have hxr : tyRows env = [] := by rw [hee]; rfl
        refine zcT ?_;refine zR ?_;refine zV lad ?_;refine zV (lai rfl rfl (by exact Cut.cons (by exact rfl) (Cut.cons (by exact rfl) Cut.nil))) ?_;refine zV laF ?_;refine zV laa ?_
        refine zV (loc_appendNone (rows := [a.t.c]) (k := 2) (c := slOf 2 (tyRows env)) (c0 := slFOf 2 [a.t.c]) (by exact rfl) (by exact rfl) (by exact .inl rfl) (by rw [hxr];exact .inr (.inl rfl)) (by intro r hr; rw [List.mem_singleton.1 hr]; rfl)) ?_
        refine zV lab ?_;refine zn ?_
        rw [show ([a.t.c] ++ tyRows env) = [a.t.c] by rw [hxr]; rfl]
        exact ⟨_, _, (gh_lit [(2, .one (.int .i64 m)), (3, .one (.ptr 3 0)), (6, .one (.ptr 6 0)), (7, .one (.ptr 7 0)), (8, .one (slOf 2 [a.t.c]))] [(3, .obj a.c), (6, .obj Tm.zero.c), (7, .obj Ty.num.c)] [] [] ⟨(zw rfl zo), (zw rfl zo), (zw rfl zo), (zw rfl zo), (by exact WkC.le (LeC.slF (LeRows.refl _))), zo⟩ ⟨(by exact zb rfl), (by (refine Or.inl ⟨_, rfl, ?_⟩; show All2 _ _ _; exact ⟨WkC.le (LeC.refl _), WkC.le (LeC.refl _), WkC.le (LeC.refl _), WkC.le (LeC.nil _), WkC.le (LeC.refl _), WkC.le (LeC.nil _), WkC.le (LeC.nil _), zo⟩)), (by (refine Or.inl ⟨_, rfl, ?_⟩; show All2 _ _ _; exact ⟨WkC.le (LeC.refl _), WkC.le (LeC.nil _), zo⟩)), zo⟩ trivial zo rfl rfl ⟨zo, ⟨_, rfl⟩, ⟨_, rfl⟩, ⟨_, rfl⟩, zo, zo⟩ ⟨(by exact ⟨zo, zo, zo, zo, zo, zo, zo, zo⟩), (by exact ⟨zo, zo, zo, zo, zo, zo, zo, zo⟩), (by exact ⟨zo, zo, zo⟩), zo⟩), rfl, rfl⟩
      · refine zcT ?_; refine zR ?_; refine zV lad ?_; refine zV (lai rfl rfl (by exact Cut.cons (by exact rfl) (Cut.cons (by exact rfl) Cut.nil))) ?_; refine zV laF ?_; refine zV laa ?_
        refine zM (loc_appendD (rows := [a.t.c]) (news := tyRows env) (by exact rfl) (by exact rfl) (by exact .inl rfl) (by exact .inr (.inl rfl)) (by intro h; apply hee; have := congrArg List.length h; rw [tyRows_length] at this;exact List.length_eq_zero_iff.1 this) (allP_iff.2 (tyRows_len2 _)) (by intro r hr; rw [List.mem_singleton.1 hr]; rfl) (by exact rfl) (by exact rfl) (by simp only [List.length_cons, List.length_nil, hE]; omega) (by decide)) ?_
        refine zV lab ?_;refine zn ?_
        exact ⟨_, _, (gh_lit [(2, .one (.int .i64 m)), (3, .one (.ptr 3 0)), (6, .one (.ptr 6 0)), (7, .one (.ptr 7 0)), (8, .one (slOf 2 ([a.t.c] ++ tyRows env)))] [(3, .obj a.c), (6, .obj Tm.zero.c), (7, .obj Ty.num.c)] [30] [] ⟨(zw rfl zo), (zw rfl zo), (zw rfl zo), (zw rfl zo), (by exact WkC.row (List.mem_cons_self ..) rfl (by exact List.length_append ..) (by exact LeRows.refl _)), zo⟩ ⟨(by exact zb rfl), (by (refine Or.inl ⟨_, rfl, ?_⟩; show All2 _ _ _; exact ⟨WkC.le (LeC.refl _), WkC.le (LeC.refl _), WkC.le (LeC.refl _), WkC.le (LeC.nil _), WkC.le (LeC.refl _), WkC.le (LeC.nil _), WkC.le (LeC.nil _), zo⟩)), (by (refine Or.inl ⟨_, rfl, ?_⟩; show All2 _ _ _; exact ⟨WkC.le (LeC.refl _), WkC.le (LeC.nil _), zo⟩)), zo⟩ ⟨⟨_, rfl, (by show closedRows ([a.t.c] ++ tyRows env) = true; rw [← hx]; exact closed_tyRows _)⟩, zo⟩ trivial rfl rfl ⟨zo, ⟨_, rfl⟩, ⟨_, rfl⟩, ⟨_, rfl⟩, zo, zo⟩ ⟨(by exact ⟨zo, zo, zo, zo, zo, zo, zo, zo⟩), (by exact ⟨zo, zo, zo, zo, zo, zo, zo, zo⟩), (by exact ⟨zo, zo, zo⟩), zo⟩), rfl, rfl⟩
  · rintro t h ⟨rfl, rfl⟩
    have hT := tyT_parts hty
    have hW := wcT_eta a env m
    generalize henv : within a env = env' at *
    obtain ⟨hT, hTk⟩ := hT
    have hkr : ∀ x ∈ kindsR a.l env', Right x := by
      intro x hx
      obtain ⟨b, hb, rfl⟩ := List.mem_map.1 hx
      exact ty_right (goodL_mem hgl b hb) hwr (hTk b hb)
    refine zQ ?_;refine zV lab ?_;refine zV lab ?_;refine zn ?_;refine zq ?_;refine zQ ?_;refine zV lad ?_;refine zV lae ?_;refine zV lay ?_;refine zV laa ?_;refine zn ?_;refine zbl ?_
    refine AW.gh (gh_lit [(2, .one (.int .i64 m)), (3, .one (.ptr 3 0)), (6, .one (.ptr 6 0)), (7, .one (.ptr 7 0)), (8, .one (slOf 2 (tyRows (env')))), (9, .one (.own 105 0 0)), (10, .one .nilsl), (32, .one (slOf 7 (tmRows a.l))), (33, .one (.int .i64 ((tmRows a.l).length : Nat))), (34, .one (.int .i64 ((0 : Nat) : Int)))] [(3, .obj a.c), (6, .obj Tm.zero.c), (7, .obj Ty.num.c), (105, .row 24 2 0 (tyRows []))] [] [105] ⟨(zw rfl zo), (zw rfl zo), (zw rfl zo), (zw rfl zo), (by exact WkU.of_eq rfl zo), (by exact WkC.nil (List.mem_cons_self ..)), (by exact WkU.of_eq rfl zo), (by exact WkU.of_eq rfl zo), (zw rfl zo), (zw rfl zo), zo⟩ ⟨(by exact zb rfl), (by exact zb rfl), (by exact zb rfl), (by exact Or.inr ⟨rfl, List.mem_cons_self .., _, _, by decide, rfl⟩), zo⟩ trivial ⟨rfl, zo⟩ rfl rfl ⟨zo, ⟨_, rfl⟩, ⟨_, rfl⟩, ⟨_, rfl⟩, zo, ⟨_, _, _, _, rfl, Nat.le_refl _⟩, zo, zo, zo, zo, zo⟩ ⟨(by exact ⟨zo, zo, zo, zo, zo, zo, zo, zo⟩), (by exact ⟨zo, zo, zo, zo, zo, zo, zo, zo⟩), (by exact ⟨zo, zo, zo⟩), (okRows_closed (by exact rfl)), zo⟩) ?_
    refine AW.gh (gh_lit [(2, .one (.int .i64 m)), (3, .one (.ptr 3 0)), (6, .one (.ptr 6 0)), (7, .one (.ptr 7 0)), (8, .one (slOf 2 (tyRows (env')))), (9, .one (.own 105 (0) (0))), (10, .one (.own 106 (0) (0))), (32, .one (slOf 7 (tmRows a.l))), (33, .one (.int .i64 ((tmRows a.l).length : Nat))), (34, .one (.int .i64 ((0 : Nat) : Int)))] [(3, .obj a.c), (6, .obj Tm.zero.c), (7, .obj Ty.num.c), (105, .row 24 2 (0) (tyRows ([]))), (106, .row 24 2 (0) (tyRows ([])))] [] [106] ⟨(zw rfl zo), (zw rfl zo), (zw rfl zo), (zw rfl zo), (by exact WkU.of_eq rfl zo), (by exact WkU.of_eq rfl zo), (by exact WkC.nil (List.mem_cons_self ..)), (by exact WkU.of_eq rfl zo), (zw rfl zo), (zw rfl zo), zo⟩ ⟨(by exact zb rfl), (by exact zb rfl), (by exact zb rfl), (by exact zb rfl), (by exact Or.inr ⟨rfl, List.mem_cons_self .., _, _, by decide, rfl⟩), zo⟩ trivial ⟨rfl, zo⟩ rfl rfl ⟨zo, ⟨_, rfl⟩, ⟨_, rfl⟩, ⟨_, rfl⟩, zo, ⟨_, _, _, _, rfl, Nat.le_refl _⟩, ⟨_, _, _, _, rfl, Nat.le_refl _⟩, zo, zo, zo, zo⟩ ⟨(by exact ⟨zo, zo, zo, zo, zo, zo, zo, zo⟩), (by exact ⟨zo, zo, zo, zo, zo, zo, zo, zo⟩), (by exact ⟨zo, zo, zo⟩), (okRows_closed (by exact rfl)), (okRows_closed (by exact rfl)), zo⟩) ?_
    refine AW.lenSl 32 rfl fun hmax => ?_
    refine AW.loop (fun m' t h => ∃ i : Nat, i ≤ a.l.length ∧ m' = a.l.length - i ∧ t = tOfL [(2, .one (.int .i64 m)), (3, .one (.ptr 3 0)), (6, .one (.ptr 6 0)), (7, .one (.ptr 7 0)), (8, .one (slOf 2 (tyRows (env')))), (9, .one (.own 105 (i) (i))), (10, .one (.own 106 (i) (i))), (32, .one (slOf 7 (tmRows a.l))), (33, .one (.int .i64 ((tmRows a.l).length : Nat))), (34, .one (.int .i64 ((i : Nat) : Int)))] ∧ h = ofL [(3, .obj a.c), (6, .obj Tm.zero.c), (7, .obj Ty.num.c), (105, .row 24 2 (i) (tyRows (kindsR (a.l.take (i)) env'))), (106, .row 24 2 (i) (tyRows (kindsR (a.l.take (i)) env')))]) a.l.length ⟨0, Nat.zero_le _, rfl, rfl, rfl⟩ ?_
    rintro m' t h ⟨i, hi, rfl, rfl, rfl⟩
    have htk : (tyRows (kindsR (a.l.take i) env')).length = i := by rw [tyRows_length, kindsR_length, List.length_take]; omega
    cases hlt : decide ((i : Int) < ((tmRows a.l).length : Nat)) with
    | false =>
      have hil : i = a.l.length := by simp at hlt; omega
      rw [show kindsR (a.l.take i) env' = kindsR a.l env' by rw [hil, List.take_length]] at htk ⊢
      have hkl : (kindsR a.l env').length = a.l.length := kindsR_length ..
      have hfin : (tyFin a (kindsR a.l env') env).2 = true := by
        have := hty
        rw [tyT_eta, henv, hT] at this
        exact this
      generalize kindsR a.l env' = ks at *
      refine zQ ?_;refine zV lac ?_;refine zn ?_;refine zq ?_;refine zaF ?_;refine zex ?_;refine zq ?_;refine zQ ?_;refine zV lad ?_;refine zV lae ?_;refine zn ?_
      refine AW.gh (gh_lit [(2, .one (.int .i64 m)), (3, .one (.ptr 3 0)), (6, .one (.ptr 6 0)), (7, .one (.ptr 7 0)), (8, .one (slOf 2 (tyRows (env')))), (9, .one (slOf 2 (tyRows ks))), (10, .one (.own 106 i i)), (54, .one (.int .i64 a.k))] [(3, .obj a.c), (6, .obj Tm.zero.c), (7, .obj Ty.num.c), (106, .row 24 2 i (tyRows ks))] [105] [] ⟨(zw rfl zo), (zw rfl zo), (zw rfl zo), (zw rfl zo), (by exact WkU.of_eq rfl zo), (by exact WkC.row (List.mem_cons_self ..) rfl (by assumption) (by exact LeRows.refl _)), (by exact WkU.of_eq rfl zo), (zw rfl zo), zo⟩ ⟨(by exact zb rfl), (by exact zb rfl), (by exact zb rfl), (by exact zb rfl), zo⟩ ⟨⟨_, rfl, closed_tyRows _⟩, zo⟩ trivial rfl rfl ⟨zo, ⟨_, rfl⟩, ⟨_, rfl⟩, ⟨_, rfl⟩, zo, zo, ⟨_, _, _, _, rfl, Nat.le_refl _⟩, zo, zo⟩ ⟨(by exact ⟨zo, zo, zo, zo, zo, zo, zo, zo⟩), (by exact ⟨zo, zo, zo, zo, zo, zo, zo, zo⟩), (by exact ⟨zo, zo, zo⟩), (okRows_closed (by exact closed_tyRows _)), zo⟩) ?_
      refine AW.midC (fun t h => ∃ ws : List Ty, ws = wantsR a ks ∧ ws.length = ks.length ∧ t = tOfL [(2, .one (.int .i64 m)), (3, .one (.ptr 3 0)), (6, .one (.ptr 6 0)), (8, .one (slOf 2 (tyRows env'))), (9, .one (slOf 2 (tyRows ks))), (10, .one (slOf 2 (tyRows ws)))] ∧ h = ofL [(3, .obj a.c), (6, .obj Tm.zero.c)]) ?_ ?_
      · refine zbl ?_
        rcases good_cases hg with ⟨e, el, _⟩ | ⟨e, el, _⟩ | ⟨e, el, _⟩ | ⟨e, _, _, x, y, el, h1, h2⟩ | ⟨e, _, _, x, y, z, el, h1, h2, h3⟩ | ⟨e, _, _, x, el, h1⟩ | ⟨e, _, _, x, el, h1⟩
        · have k4 : (a.k == 4) = false := by rw [e]; rfl
          have k5 : (a.k == 5) = false := by rw [e]; rfl
          have k6 : (a.k == 6) = false := by rw [e]; rfl
          have k8 : (a.k == 8) = false := by rw [e]; rfl
          have k9 : (a.k == 9) = false := by rw [e]; rfl
          refine zq ?_;refine zQ ?_;refine zV lac ?_;refine zV lab ?_;refine zn ?_;refine zaF ?_;refine zR ?_;refine zV lac ?_;refine zV lab ?_;refine zn ?_;refine zaF ?_;refine zQ ?_;refine zV lac ?_;refine zV lab ?_;refine zn ?_;refine zaF ?_;refine zQ ?_;refine zV lac ?_;refine zV lab ?_;refine zn ?_;refine zaF ?_;refine zQ ?_;refine zV lac ?_;refine zV lab ?_;refine zn ?_;refine zaF ?_;refine zsk ?_
          exact ⟨_, _, (gh_lit [(2, .one (.int .i64 m)), (3, .one (.ptr 3 0)), (6, .one (.ptr 6 0)), (8, .one (slOf 2 (tyRows env'))), (9, .one (slOf 2 (tyRows ks))), (10, .one (slOf 2 (tyRows ks)))] [(3, .obj a.c), (6, .obj Tm.zero.c)] [106] [] ⟨(zw rfl zo), (zw rfl zo), (zw rfl zo), (by exact WkU.of_eq rfl zo), (by exact WkU.of_eq rfl zo), (by exact WkC.row (List.mem_cons_self ..) rfl (by assumption) (by exact LeRows.refl _)), zo⟩ ⟨(by exact zb rfl), (by exact zb rfl), zo⟩ ⟨⟨_, rfl, closed_tyRows _⟩, zo⟩ trivial rfl rfl ⟨zo, ⟨_, rfl⟩, ⟨_, rfl⟩, zo, zo, zo, zo⟩ ⟨(by exact ⟨zo, zo, zo, zo, zo, zo, zo, zo⟩), (by exact ⟨zo, zo, zo, zo, zo, zo, zo, zo⟩), zo⟩), ks, by simp [wantsR, k4, k5, k6, k8, k9], rfl, rfl, rfl⟩
        · have k4 : (a.k == 4) = false := by rw [e]; rfl
          have k5 : (a.k == 5) = false := by rw [e]; rfl
          have k6 : (a.k == 6) = false := by rw [e]; rfl
          have k8 : (a.k == 8) = false := by rw [e]; rfl
          have k9 : (a.k == 9) = false := by rw [e]; rfl
          refine zq ?_;refine zQ ?_;refine zV lac ?_;refine zV lab ?_;refine zn ?_;refine zaF ?_;refine zR ?_;refine zV lac ?_;refine zV lab ?_;refine zn ?_;refine zaF ?_;refine zQ ?_;refine zV lac ?_;refine zV lab ?_;refine zn ?_;refine zaF ?_;refine zQ ?_;refine zV lac ?_;refine zV lab ?_;refine zn ?_;refine zaF ?_;refine zQ ?_;refine zV lac ?_;refine zV lab ?_;refine zn ?_;refine zaF ?_;refine zsk ?_
          exact ⟨_, _, (gh_lit [(2, .one (.int .i64 m)), (3, .one (.ptr 3 0)), (6, .one (.ptr 6 0)), (8, .one (slOf 2 (tyRows env'))), (9, .one (slOf 2 (tyRows ks))), (10, .one (slOf 2 (tyRows ks)))] [(3, .obj a.c), (6, .obj Tm.zero.c)] [106] [] ⟨(zw rfl zo), (zw rfl zo), (zw rfl zo), (by exact WkU.of_eq rfl zo), (by exact WkU.of_eq rfl zo), (by exact WkC.row (List.mem_cons_self ..) rfl (by assumption) (by exact LeRows.refl _)), zo⟩ ⟨(by exact zb rfl), (by exact zb rfl), zo⟩ ⟨⟨_, rfl, closed_tyRows _⟩, zo⟩ trivial rfl rfl ⟨zo, ⟨_, rfl⟩, ⟨_, rfl⟩, zo, zo, zo, zo⟩ ⟨(by exact ⟨zo, zo, zo, zo, zo, zo, zo, zo⟩), (by exact ⟨zo, zo, zo, zo, zo, zo, zo, zo⟩), zo⟩), ks, by simp [wantsR, k4, k5, k6, k8, k9], rfl, rfl, rfl⟩
        · have k4 : (a.k == 4) = false := by rw [e]; rfl
          have k5 : (a.k == 5) = false := by rw [e]; rfl
          have k6 : (a.k == 6) = false := by rw [e]; rfl
          have k8 : (a.k == 8) = false := by rw [e]; rfl
          have k9 : (a.k == 9) = false := by rw [e]; rfl
          refine zq ?_;refine zQ ?_;refine zV lac ?_;refine zV lab ?_;refine zn ?_;refine zaF ?_;refine zR ?_;refine zV lac ?_;refine zV lab ?_;refine zn ?_;refine zaF ?_;refine zQ ?_;refine zV lac ?_;refine zV lab ?_;refine zn ?_;refine zaF ?_;refine zQ ?_;refine zV lac ?_;refine zV lab ?_;refine zn ?_;refine zaF ?_;refine zQ ?_;refine zV lac ?_;refine zV lab ?_;refine zn ?_;refine zaF ?_;refine zsk ?_
          exact ⟨_, _, (gh_lit [(2, .one (.int .i64 m)), (3, .one (.ptr 3 0)), (6, .one (.ptr 6 0)), (8, .one (slOf 2 (tyRows env'))), (9, .one (slOf 2 (tyRows ks))), (10, .one (slOf 2 (tyRows ks)))] [(3, .obj a.c), (6, .obj Tm.zero.c)] [106] [] ⟨(zw rfl zo), (zw rfl zo), (zw rfl zo), (by exact WkU.of_eq rfl zo), (by exact WkU.of_eq rfl zo), (by exact WkC.row (List.mem_cons_self ..) rfl (by assumption) (by exact LeRows.refl _)), zo⟩ ⟨(by exact zb rfl), (by exact zb rfl), zo⟩ ⟨⟨_, rfl, closed_tyRows _⟩, zo⟩ trivial rfl rfl ⟨zo, ⟨_, rfl⟩, ⟨_, rfl⟩, zo, zo, zo, zo⟩ ⟨(by exact ⟨zo, zo, zo, zo, zo, zo, zo, zo⟩), (by exact ⟨zo, zo, zo, zo, zo, zo, zo, zo⟩), zo⟩), ks, by simp [wantsR, k4, k5, k6, k8, k9], rfl, rfl, rfl⟩
        · obtain ⟨p, q, hks⟩ := len2 (hkl.trans (by rw [el]; rfl))
          have hi2 : i = 2 := by rw [hil, el]; rfl
          have k6 : (a.k == 6) = false := by rw [beq_eq_false_iff_ne]; omega
          have k9 : (a.k == 9) = false := by rw [beq_eq_false_iff_ne]; omega
          have hrw : tyRows ks = [p.c, q.c] := by rw [hks]; simp [tyRows, Ty.cells_c]
          rw [hrw, hi2]
          rcases e with e | e | e
          · have k4 : (a.k == 4) = true := by rw [e]; rfl
            refine zq ?_;refine zQ ?_;refine zV lac ?_;refine zV lab ?_;refine zn ?_;refine zaT ?_;refine zsk ?_;refine zaT ?_;refine zRD ?_;refine zV laa ?_;refine zV laa ?_;refine zV lai ?_;refine zV lai ?_;refine zV (laG 0) ?_;refine zE laH ?_;refine zV (laG 1) ?_;refine zE laH ?_;refine znD ?_
            exact ⟨_, _, (gh_lit [(2, .one (.int .i64 m)), (3, .one (.ptr 3 0)), (6, .one (.ptr 6 0)), (8, .one (slOf 2 (tyRows env'))), (9, .one (slOf 2 _)), (10, .one (slOf 2 ([Ty.num.c, Ty.num.c])))] [(3, .obj a.c), (6, .obj Tm.zero.c)] [106] [] ⟨(zw rfl zo), (zw rfl zo), (zw rfl zo), (by exact WkU.of_eq rfl zo), (by exact WkU.of_eq rfl zo), (by exact WkC.row (List.mem_cons_self ..) rfl (by exact rfl) (by exact LeRows.refl _)), zo⟩ ⟨(by exact zb rfl), (by exact zb rfl), zo⟩ ⟨⟨_, rfl, rfl⟩, zo⟩ trivial rfl rfl ⟨zo, ⟨_, rfl⟩, ⟨_, rfl⟩, zo, zo, zo, zo⟩ ⟨(by exact ⟨zo, zo, zo, zo, zo, zo, zo, zo⟩), (by exact ⟨zo, zo, zo, zo, zo, zo, zo, zo⟩), zo⟩), [.num, .num], by simp [wantsR, k4], by rw [hks]; rfl, by simp only [tyRows_map]; rfl, rfl⟩
          · have k4 : (a.k == 4) = false := by rw [e]; rfl
            have k5 : (a.k == 5) = true := by rw [e]; rfl
            refine zq ?_;refine zQ ?_;refine zV lac ?_;refine zV lab ?_;refine zn ?_;refine zaF ?_;refine zR ?_;refine zV lac ?_;refine zV lab ?_;refine zn ?_;refine zaT ?_;refine zRD ?_;refine zV laa ?_;refine zV laa ?_;refine zV lai ?_;refine zV lai ?_;refine zV (laG 0) ?_;refine zE laH ?_;refine zV (laG 1) ?_;refine zE laH ?_;refine znD ?_
            exact ⟨_, _, (gh_lit [(2, .one (.int .i64 m)), (3, .one (.ptr 3 0)), (6, .one (.ptr 6 0)), (8, .one (slOf 2 (tyRows env'))), (9, .one (slOf 2 _)), (10, .one (slOf 2 ([Ty.num.c, Ty.num.c])))] [(3, .obj a.c), (6, .obj Tm.zero.c)] [106] [] ⟨(zw rfl zo), (zw rfl zo), (zw rfl zo), (by exact WkU.of_eq rfl zo), (by exact WkU.of_eq rfl zo), (by exact WkC.row (List.mem_cons_self ..) rfl (by exact rfl) (by exact LeRows.refl _)), zo⟩ ⟨(by exact zb rfl), (by exact zb rfl), zo⟩ ⟨⟨_, rfl, rfl⟩, zo⟩ trivial rfl rfl ⟨zo, ⟨_, rfl⟩, ⟨_, rfl⟩, zo, zo, zo, zo⟩ ⟨(by exact ⟨zo, zo, zo, zo, zo, zo, zo, zo⟩), (by exact ⟨zo, zo, zo, zo, zo, zo, zo, zo⟩), zo⟩), [.num, .num], by simp [wantsR, k5], by rw [hks]; rfl, by simp only [tyRows_map]; rfl, rfl⟩
          · have k4 : (a.k == 4) = false := by rw [e]; rfl
            have k5 : (a.k == 5) = false := by rw [e]; rfl
            have k8 : (a.k == 8) = true := by rw [e]; rfl
            have hx0 : ([p.c, q.c] : List (List C))[0]? = some p.c := rfl
            cases p0 : (p.k == 0) with
            | true =>
              have hq0 : (tyRows (Ty.to .any .any).l)[0]? = some Ty.any.c := rfl
              refine zq ?_;refine zQ ?_;refine zV lac ?_;refine zV lab ?_;refine zn ?_;refine zaF ?_;refine zR ?_;refine zV lac ?_;refine zV lab ?_;refine zn ?_;refine zaF ?_;refine zQ ?_;refine zV lac ?_;refine zV lab ?_;refine zn ?_;refine zaF ?_;refine zQ ?_;refine zV lac ?_;refine zV lab ?_;refine zn ?_;refine zaT ?_;refine zq ?_;refine zQ ?_;refine zV laa ?_;refine zV (lap _) ?_;refine zV lak ?_;refine zV laj ?_;refine zV lac ?_;refine zn ?_;refine zaT ?_;refine zR ?_;refine zV laa ?_
              refine zV (lal any0_a) ?_
              refine zV (lal any0_a) ?_
              refine zV (lal (fun_a .any .any) rfl (by refine zC2 ?_;refine zC2 ?_;exact rfl)) ?_
              refine zV (laG 0) ?_;refine zE laH ?_;refine zn ?_;refine zR ?_;refine zV laa ?_;refine zV laa ?_;refine zV (laG 0) ?_;refine zV (loc_fieldAddrE rfl rfl (by simp [*]; done)) ?_;refine zV (loc_loadE rfl rfl (by exact rfl) rfl) ?_;refine zV (lap _) ?_;refine zV lao ?_;refine zV (laG 1) ?_;refine zE laH ?_;refine zn ?_
              exact ⟨_, _, (gh_lit [(2, .one (.int .i64 m)), (3, .one (.ptr 3 0)), (6, .one (.ptr 6 0)), (8, .one (slOf 2 (tyRows env'))), (9, .one (slOf 2 _)), (10, .one (slOf 2 ([(Ty.to .any .any).c, Ty.any.c])))] [(3, .obj a.c), (6, .obj Tm.zero.c)] [106] [] ⟨(zw rfl zo), (zw rfl zo), (zw rfl zo), (by exact WkU.of_eq rfl zo), (by exact WkU.of_eq rfl zo), (by exact WkC.row (List.mem_cons_self ..) rfl (by exact rfl) (by exact LeRows.refl _)), zo⟩ ⟨(by exact zb rfl), (by exact zb rfl), zo⟩ ⟨⟨_, rfl, rfl⟩, zo⟩ trivial rfl rfl ⟨zo, ⟨_, rfl⟩, ⟨_, rfl⟩, zo, zo, zo, zo⟩ ⟨(by exact ⟨zo, zo, zo, zo, zo, zo, zo, zo⟩), (by exact ⟨zo, zo, zo, zo, zo, zo, zo, zo⟩), zo⟩), [.to .any .any, .any], by simp [wantsR, k4, k5, k6, k8, hks, getT, p0], by rw [hks]; rfl, by simp only [tyRows_map]; rfl, rfl⟩
            | false =>
              have hT2 := hty
              rw [tyT_eta] at hT2
              have p3 : p.k = 3 := by
                have h8 := hfin
                simp only [tyFin, hks, getT, List.getD_cons_zero, p0, show (a.k == 1) = false by rw [e]; rfl, show (a.k == 2) = false by rw [e]; rfl, show (a.k == 3) = false by rw [e]; rfl, show (a.k == 7) = false by rw [e]; rfl, k4, k5, k6, k8, Bool.false_eq_true, if_false, if_true] at h8
                split at h8
                · cases h8
                · rename_i h9; simpa using h9
              obtain ⟨c, d, hcd⟩ := len2 ((hkr p (by rw [hks]; simp)).two p3)
              have hq0 : (tyRows p.l)[0]? = some c.c := by rw [hcd]; simp [tyRows, Ty.cells_c]
              refine zq ?_;refine zQ ?_;refine zV lac ?_;refine zV lab ?_;refine zn ?_;refine zaF ?_;refine zR ?_;refine zV lac ?_;refine zV lab ?_;refine zn ?_;refine zaF ?_;refine zQ ?_;refine zV lac ?_;refine zV lab ?_;refine zn ?_;refine zaF ?_;refine zQ ?_;refine zV lac ?_;refine zV lab ?_;refine zn ?_;refine zaT ?_;refine zq ?_;refine zQ ?_;refine zV laa ?_;refine zV (lap _) ?_;refine zV lak ?_;refine zV laj ?_;refine zV lac ?_;refine zn ?_;refine zaF ?_;refine zsk ?_;refine zR ?_;refine zV laa ?_;refine zV laa ?_;refine zV (laG 0) ?_;refine zV (loc_fieldAddrE rfl rfl (by simp [*]; done)) ?_;refine zV (loc_loadE rfl rfl (by exact rfl) rfl) ?_;refine zV (lap _) ?_;refine zV lao ?_;refine zV (laG 1) ?_;refine zE laH ?_;refine zn ?_
              exact ⟨_, _, (gh_lit [(2, .one (.int .i64 m)), (3, .one (.ptr 3 0)), (6, .one (.ptr 6 0)), (8, .one (slOf 2 (tyRows env'))), (9, .one (slOf 2 _)), (10, .one (slOf 2 ([p.c, c.c])))] [(3, .obj a.c), (6, .obj Tm.zero.c)] [106] [] ⟨(zw rfl zo), (zw rfl zo), (zw rfl zo), (by exact WkU.of_eq rfl zo), (by exact WkU.of_eq rfl zo), (by exact WkC.row (List.mem_cons_self ..) rfl (by exact rfl) (by exact LeRows.refl _)), zo⟩ ⟨(by exact zb rfl), (by exact zb rfl), zo⟩ ⟨⟨_, rfl, rfl⟩, zo⟩ trivial rfl rfl ⟨zo, ⟨_, rfl⟩, ⟨_, rfl⟩, zo, zo, zo, zo⟩ ⟨(by exact ⟨zo, zo, zo, zo, zo, zo, zo, zo⟩), (by exact ⟨zo, zo, zo, zo, zo, zo, zo, zo⟩), zo⟩), [p, c], by simp [wantsR, k4, k5, k6, k8, hks, getT, p0, hcd], by rw [hks]; rfl, by simp only [tyRows_map]; rfl, rfl⟩
        · obtain ⟨p, q, r, hks⟩ := len3 (hkl.trans (by rw [el]; rfl))
          have hi2 : i = 3 := by rw [hil, el]; rfl
          have k4 : (a.k == 4) = false := by rw [e]; rfl
          have k5 : (a.k == 5) = false := by rw [e]; rfl
          have k6 : (a.k == 6) = true := by rw [e]; rfl
          have hrw : tyRows ks = [p.c, q.c, r.c] := by rw [hks]; simp [tyRows, Ty.cells_c]
          have hx1 : ([p.c, q.c, r.c] : List (List C))[1]? = some q.c := rfl
          have hx2 : ([p.c, q.c, r.c] : List (List C))[2]? = some r.c := rfl
          have s3 := joinOf_a q r ((right_iff _).2 (hkr q (by rw [hks]; simp))) ((right_iff _).2 (hkr r (by rw [hks]; simp)))
          rw [hrw, hi2]
          refine zq ?_;refine zQ ?_;refine zV lac ?_;refine zV lab ?_;refine zn ?_;refine zaF ?_;refine zR ?_;refine zV lac ?_;refine zV lab ?_;refine zn ?_;refine zaF ?_;refine zQ ?_;refine zV lac ?_;refine zV lab ?_;refine zn ?_;refine zaT ?_;refine zq ?_;refine zRD ?_;refine zV laa ?_;refine zV (lap _) ?_;refine zV lao ?_;refine zV laa ?_;refine zV (lap _) ?_;refine zV lao ?_
          refine zV (lal s3 rfl (by refine zC2 ?_;refine zC2 ?_;exact rfl)) ?_
          refine zM lah ?_;refine zE laf ?_;refine znD ?_;refine zR ?_;refine zV laq ?_;refine zV lai ?_;refine zV lai ?_;refine zV (laF (by exact rfl) (by exact rfl) (by decide) (by decide) (by exact RowsOf.cons (by exact rfl) (RowsOf.cons (by exact rfl) (RowsOf.cons (by exact rfl) RowsOf.nil))) (by exact AllP.cons (by exact rfl) (AllP.cons (by exact rfl) (AllP.cons (by exact rfl) AllP.nil)))) ?_;refine zV lab ?_;refine zn ?_
          exact ⟨_, _, (gh_lit [(2, .one (.int .i64 m)), (3, .one (.ptr 3 0)), (6, .one (.ptr 6 0)), (8, .one (slOf 2 (tyRows env'))), (9, .one (slOf 2 [p.c, q.c, r.c])), (10, .one (slOf 2 [Ty.truth.c, (q.join r).c, (q.join r).c]))] [(3, .obj a.c), (6, .obj Tm.zero.c)] [] [] ⟨(zw rfl zo), (zw rfl zo), (zw rfl zo), (by exact WkU.of_eq rfl zo), (by exact WkU.of_eq rfl zo), (by exact WkC.le (LeC.slF ⟨⟨LeC.refl _, LeC.nil _, zo⟩, leRow_refl _, leRow_refl _, zo⟩)), zo⟩ ⟨(by exact zb rfl), (by exact zb rfl), zo⟩ trivial zo rfl rfl ⟨zo, ⟨_, rfl⟩, ⟨_, rfl⟩, zo, zo, zo, zo⟩ ⟨(by exact ⟨zo, zo, zo, zo, zo, zo, zo, zo⟩), (by exact ⟨zo, zo, zo, zo, zo, zo, zo, zo⟩), zo⟩), [.truth, q.join r, q.join r], by simp [wantsR, k4, k5, k6, hks, getT], by rw [hks]; rfl, by simp only [tyRows_map]; rfl, rfl⟩
        · have k4 : (a.k == 4) = false := by rw [e]; rfl
          have k5 : (a.k == 5) = false := by rw [e]; rfl
          have k6 : (a.k == 6) = false := by rw [e]; rfl
          have k8 : (a.k == 8) = false := by rw [e]; rfl
          have k9 : (a.k == 9) = false := by rw [e]; rfl
          refine zq ?_;refine zQ ?_;refine zV lac ?_;refine zV lab ?_;refine zn ?_;refine zaF ?_;refine zR ?_;refine zV lac ?_;refine zV lab ?_;refine zn ?_;refine zaF ?_;refine zQ ?_;refine zV lac ?_;refine zV lab ?_;refine zn ?_;refine zaF ?_;refine zQ ?_;refine zV lac ?_;refine zV lab ?_;refine zn ?_;refine zaF ?_;refine zQ ?_;refine zV lac ?_;refine zV lab ?_;refine zn ?_;refine zaF ?_;refine zsk ?_
          exact ⟨_, _, (gh_lit [(2, .one (.int .i64 m)), (3, .one (.ptr 3 0)), (6, .one (.ptr 6 0)), (8, .one (slOf 2 (tyRows env'))), (9, .one (slOf 2 (tyRows ks))), (10, .one (slOf 2 (tyRows ks)))] [(3, .obj a.c), (6, .obj Tm.zero.c)] [106] [] ⟨(zw rfl zo), (zw rfl zo), (zw rfl zo), (by exact WkU.of_eq rfl zo), (by exact WkU.of_eq rfl zo), (by exact WkC.row (List.mem_cons_self ..) rfl (by assumption) (by exact LeRows.refl _)), zo⟩ ⟨(by exact zb rfl), (by exact zb rfl), zo⟩ ⟨⟨_, rfl, closed_tyRows _⟩, zo⟩ trivial rfl rfl ⟨zo, ⟨_, rfl⟩, ⟨_, rfl⟩, zo, zo, zo, zo⟩ ⟨(by exact ⟨zo, zo, zo, zo, zo, zo, zo, zo⟩), (by exact ⟨zo, zo, zo, zo, zo, zo, zo, zo⟩), zo⟩), ks, by simp [wantsR, k4, k5, k6, k8, k9], rfl, rfl, rfl⟩
        · obtain ⟨p, hks⟩ := len1 (hkl.trans (by rw [el]; rfl))
          have hi2 : i = 1 := by rw [hil, el]; rfl
          have k4 : (a.k == 4) = false := by rw [e]; rfl
          have k5 : (a.k == 5) = false := by rw [e]; rfl
          have k6 : (a.k == 6) = false := by rw [e]; rfl
          have k8 : (a.k == 8) = false := by rw [e]; rfl
          have k9 : (a.k == 9) = true := by rw [e]; rfl
          have hrw : tyRows ks = [p.c] := by rw [hks]; simp [tyRows, Ty.cells_c]
          rw [hrw, hi2]
          refine zq ?_;refine zQ ?_;refine zV lac ?_;refine zV lab ?_;refine zn ?_;refine zaF ?_;refine zR ?_;refine zV lac ?_;refine zV lab ?_;refine zn ?_;refine zaF ?_;refine zQ ?_;refine zV lac ?_;refine zV lab ?_;refine zn ?_;refine zaF ?_;refine zQ ?_;refine zV lac ?_;refine zV lab ?_;refine zn ?_;refine zaF ?_;refine zQ ?_;refine zV lac ?_;refine zV lab ?_;refine zn ?_;refine zaT ?_;refine zR ?_;refine zV laa ?_;refine zV lad ?_;refine zV (lai rfl rfl (by exact Cut.cons (by exact rfl) (Cut.cons (by exact rfl) Cut.nil))) ?_;refine zV (laG 0) ?_;refine zE laH ?_;refine zn ?_
          exact ⟨_, _, (gh_lit [(2, .one (.int .i64 m)), (3, .one (.ptr 3 0)), (6, .one (.ptr 6 0)), (8, .one (slOf 2 (tyRows env'))), (9, .one (slOf 2 _)), (10, .one (slOf 2 ([a.t.c])))] [(3, .obj a.c), (6, .obj Tm.zero.c)] [106] [] ⟨(zw rfl zo), (zw rfl zo), (zw rfl zo), (by exact WkU.of_eq rfl zo), (by exact WkU.of_eq rfl zo), (by exact WkC.row (List.mem_cons_self ..) rfl (by exact rfl) (by exact LeRows.refl _)), zo⟩ ⟨(by exact zb rfl), (by exact zb rfl), zo⟩ ⟨⟨_, rfl, rfl⟩, zo⟩ trivial rfl rfl ⟨zo, ⟨_, rfl⟩, ⟨_, rfl⟩, zo, zo, zo, zo⟩ ⟨(by exact ⟨zo, zo, zo, zo, zo, zo, zo, zo⟩), (by exact ⟨zo, zo, zo, zo, zo, zo, zo, zo⟩), zo⟩), [a.t], by simp [wantsR, k4, k5, k6, k8, k9], by rw [hks]; rfl, by simp only [tyRows_map]; rfl, rfl⟩
      · rintro t h ⟨ws, hws, hwsl, rfl, rfl⟩
        rw [hW, ← hws]
        refine zQ ?_;refine zV lad ?_;refine zV lae ?_;refine zV lab ?_;refine zn ?_;refine zQ ?_;refine zV lad ?_;refine zE lav ?_;refine zn ?_;refine zQ ?_;refine zV laa ?_;refine zV laI ?_;refine zV lab ?_;refine zn ?_;refine zq ?_;refine zQ ?_;refine zV laa ?_;refine zV lay ?_;refine zV laa ?_;refine zn ?_;refine zbl ?_
        refine AW.gh (gh_lit [(2, .one (.int .i64 m)), (3, .one (.ptr 3 0)), (6, .one (.ptr 6 0)), (8, .one (slOf 2 (tyRows env'))), (9, .one (slOf 2 (tyRows ks))), (10, .one (slOf 2 (tyRows ws))), (17, .one (.int .i64 (m + 1))), (108, .one (slOf 7 (tmRows a.l))), (109, .one (.int .i64 ((tmRows a.l).length : Nat))), (110, .one (.int .i64 ((0 : Nat) : Int)))] [(3, .obj [.int .i64 a.k, .int .i64 a.n, .int .i64 a.t.k, slOf 2 (tyRows a.t.l), .int .i64 a.f.k, slOf 2 (tyRows a.f.l), .own 107 (0) (0)]), (6, .obj Tm.zero.c), (107, .row 27 7 (0) (tmRows ([])))] [] [107] ⟨(zw rfl zo), (zw rfl zo), (zw rfl zo), (by exact WkU.of_eq rfl zo), (by exact WkU.of_eq rfl zo), (by exact WkU.of_eq rfl zo), (zw rfl zo), (by exact WkU.of_eq rfl zo), (zw rfl zo), (zw rfl zo), zo⟩ ⟨(by (refine Or.inl ⟨_, rfl, ?_⟩; show All2 _ _ _;exact ⟨WkC.le (LeC.refl _), WkC.le (LeC.refl _), WkC.le (LeC.refl _), WkC.le (LeC.refl _), WkC.le (LeC.refl _), WkC.le (LeC.refl _), WkC.nil (List.mem_cons_self ..), zo⟩)), (by exact zb rfl), (by exact Or.inr ⟨rfl, List.mem_cons_self .., _, _, by decide, rfl⟩), zo⟩ trivial ⟨rfl, zo⟩ rfl rfl ⟨zo, ⟨_, rfl⟩, ⟨_, rfl⟩, zo, zo, zo, zo, zo, zo, zo, zo⟩ ⟨(by exact ⟨zo, zo, zo, zo, zo, zo, ⟨_, _, _, _, rfl, Nat.le_refl _⟩, zo⟩), (by exact ⟨zo, zo, zo, zo, zo, zo, zo, zo⟩), (okRows_closed (by exact rfl)), zo⟩) ?_
        refine AW.lenSl 108 rfl fun hmax2 => ?_
        refine AW.loop (fun m' t h => ∃ (j : Nat) (ys : List Tm), j ≤ a.l.length ∧ m' = a.l.length - j ∧ ys.length = j ∧ wcL a.l ks ws env' (m + 1) = ys ++ wcL (a.l.drop j) (ks.drop j) (ws.drop j) env' (m + 1 + nodesL (a.l.take j)) ∧ t = tOfL [(2, .one (.int .i64 m)), (3, .one (.ptr 3 0)), (6, .one (.ptr 6 0)), (8, .one (slOf 2 (tyRows env'))), (9, .one (slOf 2 (tyRows ks))), (10, .one (slOf 2 (tyRows ws))), (17, .one (.int .i64 (m + 1 + nodesL (a.l.take (j))))), (108, .one (slOf 7 (tmRows a.l))), (109, .one (.int .i64 ((tmRows a.l).length : Nat))), (110, .one (.int .i64 ((j : Nat) : Int)))] ∧ h = ofL [(3, .obj [.int .i64 a.k, .int .i64 a.n, .int .i64 a.t.k, slOf 2 (tyRows a.t.l), .int .i64 a.f.k, slOf 2 (tyRows a.f.l), .own 107 (j) (j)]), (6, .obj Tm.zero.c), (107, .row 27 7 (j) (tmRows (ys)))]) a.l.length ⟨0, [], Nat.zero_le _, rfl, rfl, by simp [nodesL], by simp [nodesL], rfl⟩ ?_
        rintro m' t h ⟨j, ys, hj, rfl, hys, hinv, rfl, rfl⟩
        have htk : (tmRows ys).length = j := by rw [tmRows_length, hys]
        cases hlt2 : decide ((j : Int) < ((tmRows a.l).length : Nat)) with
        | false =>
          have hjl : j = a.l.length := by simp at hlt2; omega
          refine zQ ?_;refine zV lac ?_;refine zn ?_;refine zq ?_;refine zaF ?_;refine zex ?_;refine zQ ?_;refine zV lai ?_;refine zE laf ?_;refine zn ?_;refine zre ?_
          rw [show wcL a.l ks ws env' (m + 1) = ys by rw [hinv, hjl, List.drop_length]; simp [wcL]]
          refine rq ?_
          refine ret_cell (by exact .inr rfl) (by exact rfl) (by exact rfl) (by exact rfl) [107] (by exact ⟨⟨_, rfl, closed_tmRows _⟩, zo⟩) (l' := (Tm.mk a.k a.n a.t a.f ys).c) (by exact ⟨.le (.refl _), .le (.refl _), .le (.refl _), .le (.refl _), .le (.refl _), .le (.refl _), .row (List.mem_cons_self ..) rfl htk (LeRows.refl _), zo⟩) (by exact ⟨zo, zo, zo, zo, zo, zo, zo, zo⟩) (by exact rfl)
        | true =>
          have hjl : j < a.l.length := by simp at hlt2; omega
          have hjk : j < ks.length := by omega
          have hjw : j < ws.length := by omega
          have hr1 := tmRows_get hjl
          have hr2 := tyRows_get hjk
          have hr3 := tyRows_get hjw
          have hmem : a.l[j] ∈ a.l := List.getElem_mem hjl
          have hnt := nodesL_take hjl
          have hnl := nodesL_take_le a.l (j + 1)
          have hn3 := nodes_mem hmem
          rw [wcL_step hjl hjk hjw] at hinv
          have hc := ih a.l[j] hmem env' (m + 1 + nodesL (a.l.take j)) (goodL_mem hgl _ hmem) hwr (hTk _ hmem) (by omega) (by omega) (by omega)
          generalize wcT a.l[j] env' (m + 1 + nodesL (a.l.take j)) = y at *
          generalize hpp : ks[j] = p at *
          generalize hqq : ws[j] = q at *
          refine zQ ?_;refine zV lac ?_;refine zn ?_;refine zq ?_;refine zaT ?_;refine zsk ?_;refine zq ?_;refine zbl ?_;refine zQ ?_;refine zV laa ?_;refine zV (lap _) ?_;refine zV lao ?_;refine zM lah ?_;refine zV lab ?_;refine zE laf ?_;refine zn ?_;refine zQ ?_;refine zV lai ?_;refine zV laa ?_;refine zV laa ?_
          refine zV (lal hc rfl (by refine zC7 ?_;refine zC ?_;refine zC ?_;exact rfl)) ?_
          refine zM lah ?_;refine zE laf ?_;refine zn ?_;refine zq ?_;refine zq ?_;refine zRD ?_;refine zV laa ?_;refine zV laa ?_;refine zV (lap _) ?_;refine zV lao ?_;refine zV laa ?_;refine zV laa ?_;refine zV (lap _) ?_;refine zV lao ?_
          have hsm := rsame_a p q
          cases hs : p.same q with
          | true =>
            rw [hs] at hsm
            rw [show asT y p q (m + 1 + nodesL (a.l.take j)) = y by unfold asT; rw [hs]; rfl] at hinv
            refine zV (lal hsm rfl (by refine zC2 ?_;refine zC2 ?_;exact rfl)) ?_
            refine zV laz ?_;refine znD ?_
            refine AW.midC (fun t h => t = tOfL [(2, .one (.int .i64 m)), (3, .one (.ptr 3 0)), (6, .one (.ptr 6 0)), (8, .one (slOf 2 (tyRows env'))), (9, .one (slOf 2 (tyRows ks))), (10, .one (slOf 2 (tyRows ws))), (17, .one (.int .i64 (m + 1 + nodesL (a.l.take (j))))), (19, .one (.ptr 19 0)), (20, .one (.ptr 20 0)), (108, .one (slOf 7 (tmRows a.l))), (109, .one (.int .i64 ((tmRows a.l).length : Nat))), (110, .one (.int .i64 ((j : Nat) : Int)))] ∧ h = ofL [(3, .obj [.int .i64 a.k, .int .i64 a.n, .int .i64 a.t.k, slOf 2 (tyRows a.t.l), .int .i64 a.f.k, slOf 2 (tyRows a.f.l), .own 107 (j) (j)]), (6, .obj Tm.zero.c), (19, .obj a.l[j].c), (20, .obj (y).c), (107, .row 27 7 (j) (tmRows ys))]) ?_ ?_
            · refine zcF ?_; refine zsk ?_
              exact ⟨_, _, (gh_lit [(2, .one (.int .i64 m)), (3, .one (.ptr 3 0)), (6, .one (.ptr 6 0)), (8, .one (slOf 2 (tyRows env'))), (9, .one (slOf 2 (tyRows ks))), (10, .one (slOf 2 (tyRows ws))), (17, .one (.int .i64 (m + 1 + nodesL (a.l.take (j))))), (19, .one (.ptr 19 0)), (20, .one (.ptr 20 0)), (108, .one (slOf 7 (tmRows a.l))), (109, .one (.int .i64 ((tmRows a.l).length : Nat))), (110, .one (.int .i64 ((j : Nat) : Int)))] [(3, .obj [.int .i64 a.k, .int .i64 a.n, .int .i64 a.t.k, slOf 2 (tyRows a.t.l), .int .i64 a.f.k, slOf 2 (tyRows a.f.l), .own 107 (j) (j)]), (6, .obj Tm.zero.c), (19, .obj a.l[j].c), (20, .obj (y).c), (107, .row 27 7 (j) (tmRows ys))] [] [] ⟨(zw rfl zo), (zw rfl zo), (zw rfl zo), (by exact WkU.of_eq rfl zo), (by exact WkU.of_eq rfl zo), (by exact WkU.of_eq rfl zo), (zw rfl zo), (zw rfl zo), (zw rfl zo), (by exact WkU.of_eq rfl zo), (zw rfl zo), (zw rfl zo), zo⟩ ⟨(by exact zb rfl), (by exact zb rfl), (by exact zb rfl), (by exact zb rfl), (by exact zb rfl), zo⟩ trivial zo rfl rfl ⟨zo, ⟨_, rfl⟩, ⟨_, rfl⟩, zo, zo, zo, zo, ⟨_, rfl⟩, ⟨_, rfl⟩, zo, zo, zo, zo⟩ ⟨(by exact ⟨zo, zo, zo, zo, zo, zo, ⟨_, _, _, _, rfl, Nat.le_refl _⟩, zo⟩), (by exact ⟨zo, zo, zo, zo, zo, zo, zo, zo⟩), (by exact ⟨zo, zo, zo, zo, zo, zo, zo, zo⟩), (by exact ⟨zo, zo, zo, zo, zo, zo, zo, zo⟩), (okRows_closed (by exact closed_tmRows _)), zo⟩), rfl, rfl⟩
            · rintro t h ⟨rfl, rfl⟩
              have hno := nodesOf_a a.l[j] (by omega)
              refine zQ ?_;refine zV lad ?_;refine zV lae ?_;refine zV lai ?_;refine zV laF ?_
              refine zM (laK (by exact rfl) (by exact rfl) (by exact rfl) (by exact .inl rfl) (by exact htk) (by exact ⟨rfl, zo⟩) (by simp only [List.length_cons, List.length_nil]; omega)) ?_
              rw [show tmRows ys ++ [y.c] = tmRows (ys ++ [y]) by rw [tmRows_append]; simp [tmRows, Tm.cells_c]]
              refine zV lad ?_;refine zE lav ?_;refine zn ?_;refine zR ?_;refine zV laa ?_;refine zV lai ?_
              refine zV (lal hno rfl (by refine zC7 ?_;exact rfl)) ?_
              refine zV laI ?_;refine zV lab ?_;refine zn ?_;refine zR ?_;refine zV laB ?_;refine zV laa ?_;refine zn ?_
              rw [show m + 1 + ((nodesL (a.l.take j) : Nat) : Int) + ((a.l[j].nodes : Nat) : Int) = m + 1 + ((nodesL (a.l.take (j + 1)) : Nat) : Int) by rw [hnt]; omega] at hinv ⊢
              exact ⟨a.l.length - (j + 1), _, _, by omega, (gh_lit [(2, .one (.int .i64 m)), (3, .one (.ptr 3 0)), (6, .one (.ptr 6 0)), (8, .one (slOf 2 (tyRows env'))), (9, .one (slOf 2 (tyRows ks))), (10, .one (slOf 2 (tyRows ws))), (17, .one (.int .i64 (m + 1 + nodesL (a.l.take (j + 1))))), (108, .one (slOf 7 (tmRows a.l))), (109, .one (.int .i64 ((tmRows a.l).length : Nat))), (110, .one (.int .i64 (((j + 1) : Nat) : Int)))] [(3, .obj [.int .i64 a.k, .int .i64 a.n, .int .i64 a.t.k, slOf 2 (tyRows a.t.l), .int .i64 a.f.k, slOf 2 (tyRows a.f.l), .own 107 ((j + 1)) ((j + 1))]), (6, .obj Tm.zero.c), (107, .row 27 7 ((j + 1)) (tmRows ((ys ++ [y]))))] [] [] ⟨(zw rfl zo), (zw rfl zo), (zw rfl zo), (by exact WkU.of_eq rfl zo), (by exact WkU.of_eq rfl zo), (by exact WkU.of_eq rfl zo), (zw rfl zo), (by exact WkU.of_eq rfl zo), (zw rfl zo), (zw rfl zo), zo⟩ ⟨(by exact zb rfl), (by exact zb rfl), (by exact zb rfl), zo⟩ trivial zo rfl rfl ⟨zo, ⟨_, rfl⟩, ⟨_, rfl⟩, zo, zo, zo, zo, zo, zo, zo, zo⟩ ⟨(by exact ⟨zo, zo, zo, zo, zo, zo, ⟨_, _, _, _, rfl, Nat.le_refl _⟩, zo⟩), (by exact ⟨zo, zo, zo, zo, zo, zo, zo, zo⟩), (okRows_closed (by exact closed_tmRows _)), zo⟩), j + 1, ys ++ [y], by omega, rfl, by simp [hys], by rw [hinv, List.append_assoc]; rfl, rfl, rfl⟩
          | false =>
            rw [hs] at hsm
            rw [show asT y p q (m + 1 + nodesL (a.l.take j)) = .mk 10 (m + 1 + nodesL (a.l.take j)) q p [y] by unfold asT; rw [hs]; rfl] at hinv
            refine zV (lal hsm rfl (by refine zC2 ?_;refine zC2 ?_;exact rfl)) ?_
            refine zV laz ?_;refine znD ?_
            refine AW.midC (fun t h => t = tOfL [(2, .one (.int .i64 m)), (3, .one (.ptr 3 0)), (6, .one (.ptr 6 0)), (8, .one (slOf 2 (tyRows env'))), (9, .one (slOf 2 (tyRows ks))), (10, .one (slOf 2 (tyRows ws))), (17, .one (.int .i64 (m + 1 + nodesL (a.l.take (j))))), (19, .one (.ptr 19 0)), (20, .one (.ptr 20 0)), (108, .one (slOf 7 (tmRows a.l))), (109, .one (.int .i64 ((tmRows a.l).length : Nat))), (110, .one (.int .i64 ((j : Nat) : Int)))] ∧ h = ofL [(3, .obj [.int .i64 a.k, .int .i64 a.n, .int .i64 a.t.k, slOf 2 (tyRows a.t.l), .int .i64 a.f.k, slOf 2 (tyRows a.f.l), .own 107 (j) (j)]), (6, .obj Tm.zero.c), (19, .obj a.l[j].c), (20, .obj (Tm.mk 10 (m + 1 + nodesL (a.l.take (j))) q p [y]).c), (107, .row 27 7 (j) (tmRows ys))]) ?_ ?_
            · have hyc : (Tm.mk 10 (m + 1 + nodesL (a.l.take j)) q p [y]).c = [.int .i64 10, .int .i64 (m + 1 + nodesL (a.l.take j)), .int .i64 q.k, slOf 2 (tyRows q.l), .int .i64 p.k, slOf 2 (tyRows p.l), slOf 7 [y.c]] := by
                show [_, _, _, _, _, _, slOf 7 (tmRows [y])] = _
                simp only [tmRows, Tm.cells_c]; rfl
              rw [hyc]
              refine zcT ?_;refine zRD ?_;refine zV laa ?_;refine zV laa ?_;refine zV laa ?_;refine zV (lap _) ?_;refine zV lao ?_;refine zV laa ?_;refine zV laa ?_;refine zV (lap _) ?_;refine zV lao ?_;refine zV lai ?_;refine zV laF ?_;refine zV laq ?_;refine zE laf ?_;refine znD ?_
              exact ⟨_, _, (gh_lit [(2, .one (.int .i64 m)), (3, .one (.ptr 3 0)), (6, .one (.ptr 6 0)), (8, .one (slOf 2 (tyRows env'))), (9, .one (slOf 2 (tyRows ks))), (10, .one (slOf 2 (tyRows ws))), (17, .one (.int .i64 (m + 1 + nodesL (a.l.take (j))))), (19, .one (.ptr 19 0)), (20, .one (.ptr 20 0)), (108, .one (slOf 7 (tmRows a.l))), (109, .one (.int .i64 ((tmRows a.l).length : Nat))), (110, .one (.int .i64 ((j : Nat) : Int)))] [(3, .obj [.int .i64 a.k, .int .i64 a.n, .int .i64 a.t.k, slOf 2 (tyRows a.t.l), .int .i64 a.f.k, slOf 2 (tyRows a.f.l), .own 107 (j) (j)]), (6, .obj Tm.zero.c), (19, .obj a.l[j].c), (20, .obj [.int .i64 10, .int .i64 (m + 1 + nodesL (a.l.take j)), .int .i64 q.k, slOf 2 (tyRows q.l), .int .i64 p.k, slOf 2 (tyRows p.l), slOf 7 [y.c]]), (107, .row 27 7 (j) (tmRows ys))] [] [] ⟨(zw rfl zo), (zw rfl zo), (zw rfl zo), (by exact WkU.of_eq rfl zo), (by exact WkU.of_eq rfl zo), (by exact WkU.of_eq rfl zo), (zw rfl zo), (zw rfl zo), (zw rfl zo), (by exact WkU.of_eq rfl zo), (zw rfl zo), (zw rfl zo), zo⟩ ⟨(by exact zb rfl), (by exact zb rfl), (by exact zb rfl), (by (refine Or.inl ⟨_, rfl, ?_⟩; show All2 _ _ _; exact ⟨WkC.le (LeC.refl _), WkC.le (LeC.refl _), WkC.le (LeC.refl _), WkC.le (LeC.refl _), WkC.le (LeC.refl _), WkC.le (LeC.refl _), WkC.le (LeC.slF (LeRows.refl _)), zo⟩)), (by exact zb rfl), zo⟩ trivial zo rfl rfl ⟨zo, ⟨_, rfl⟩, ⟨_, rfl⟩, zo, zo, zo, zo, ⟨_, rfl⟩, ⟨_, rfl⟩, zo, zo, zo, zo⟩ ⟨(by exact ⟨zo, zo, zo, zo, zo, zo, ⟨_, _, _, _, rfl, Nat.le_refl _⟩, zo⟩), (by exact ⟨zo, zo, zo, zo, zo, zo, zo, zo⟩), (by exact ⟨zo, zo, zo, zo, zo, zo, zo, zo⟩), (by exact ⟨zo, zo, zo, zo, zo, zo, zo, zo⟩), (okRows_closed (by exact closed_tmRows _)), zo⟩), rfl, rfl⟩
            · rintro t h ⟨rfl, rfl⟩
              generalize Tm.mk 10 (m + 1 + nodesL (a.l.take j)) q p [y] = z at *
              have hno := nodesOf_a a.l[j] (by omega)
              refine zQ ?_;refine zV lad ?_;refine zV lae ?_;refine zV lai ?_;refine zV laF ?_
              refine zM (laK (by exact rfl) (by exact rfl) (by exact rfl) (by exact .inl rfl) (by exact htk) (by exact ⟨rfl, zo⟩) (by simp only [List.length_cons, List.length_nil]; omega)) ?_
              rw [show tmRows ys ++ [z.c] = tmRows (ys ++ [z]) by rw [tmRows_append]; simp [tmRows, Tm.cells_c]]
              refine zV lad ?_;refine zE lav ?_;refine zn ?_;refine zR ?_;refine zV laa ?_;refine zV lai ?_
              refine zV (lal hno rfl (by refine zC7 ?_;exact rfl)) ?_
              refine zV laI ?_;refine zV lab ?_;refine zn ?_;refine zR ?_;refine zV laB ?_;refine zV laa ?_;refine zn ?_
              rw [show m + 1 + ((nodesL (a.l.take j) : Nat) : Int) + ((a.l[j].nodes : Nat) : Int) = m + 1 + ((nodesL (a.l.take (j + 1)) : Nat) : Int) by rw [hnt]; omega] at hinv ⊢
              exact ⟨a.l.length - (j + 1), _, _, by omega, (gh_lit [(2, .one (.int .i64 m)), (3, .one (.ptr 3 0)), (6, .one (.ptr 6 0)), (8, .one (slOf 2 (tyRows env'))), (9, .one (slOf 2 (tyRows ks))), (10, .one (slOf 2 (tyRows ws))), (17, .one (.int .i64 (m + 1 + nodesL (a.l.take (j + 1))))), (108, .one (slOf 7 (tmRows a.l))), (109, .one (.int .i64 ((tmRows a.l).length : Nat))), (110, .one (.int .i64 (((j + 1) : Nat) : Int)))] [(3, .obj [.int .i64 a.k, .int .i64 a.n, .int .i64 a.t.k, slOf 2 (tyRows a.t.l), .int .i64 a.f.k, slOf 2 (tyRows a.f.l), .own 107 ((j + 1)) ((j + 1))]), (6, .obj Tm.zero.c), (107, .row 27 7 ((j + 1)) (tmRows ((ys ++ [z]))))] [] [] ⟨(zw rfl zo), (zw rfl zo), (zw rfl zo), (by exact WkU.of_eq rfl zo), (by exact WkU.of_eq rfl zo), (by exact WkU.of_eq rfl zo), (zw rfl zo), (by exact WkU.of_eq rfl zo), (zw rfl zo), (zw rfl zo), zo⟩ ⟨(by exact zb rfl), (by exact zb rfl), (by exact zb rfl), zo⟩ trivial zo rfl rfl ⟨zo, ⟨_, rfl⟩, ⟨_, rfl⟩, zo, zo, zo, zo, zo, zo, zo, zo⟩ ⟨(by exact ⟨zo, zo, zo, zo, zo, zo, ⟨_, _, _, _, rfl, Nat.le_refl _⟩, zo⟩), (by exact ⟨zo, zo, zo, zo, zo, zo, zo, zo⟩), (okRows_closed (by exact closed_tmRows _)), zo⟩), j + 1, ys ++ [z], by omega, rfl, by simp [hys], by rw [hinv, List.append_assoc]; rfl, rfl, rfl⟩
    | true =>
      have hil : i < a.l.length := by simp at hlt; omega
      have hr1 := tmRows_get hil
      have hmem : a.l[i] ∈ a.l := List.getElem_mem hil
      have hn3 := nodes_mem hmem
      have hgi := goodL_mem hgl _ hmem
      have hc := typeOf_a a.l[i] env' hgi hwr (by omega)
      have hrows : tyRows (kindsR (a.l.take i) env') ++ [(tyT a.l[i] env').1.c] = tyRows (kindsR (a.l.take (i + 1)) env') := by
        rw [kindsR_take hil, tyRows_append]; simp [tyRows, Ty.cells_c]
      refine zQ ?_;refine zV lac ?_;refine zn ?_;refine zq ?_;refine zaT ?_;refine zsk ?_;refine zq ?_;refine zbl ?_;refine zQ ?_;refine zV (lap _) ?_;refine zV lao ?_;refine zM lah ?_;refine zE laf ?_;refine zn ?_;refine zQ ?_;refine zV lai ?_;refine zV laa ?_
      refine zV (lal hc rfl (by refine zC7 ?_;refine zC ?_;exact rfl)) ?_
      refine zV laE ?_;refine zV lar ?_;refine zV lat ?_;refine zM lah ?_;refine zE laf ?_;refine zV lab ?_;refine zn ?_;refine zRD ?_;refine zV laa ?_;refine zV lai ?_;refine zV laF ?_
      refine zM (laK (by exact rfl) (by exact rfl) (by exact rfl) (by exact .inl rfl) (by exact htk) (by exact ⟨rfl, zo⟩) (by simp only [List.length_cons, List.length_nil]; omega)) ?_
      refine zV laa ?_;refine zV lai ?_;refine zV laF ?_
      refine zM (laK (by exact rfl) (by exact rfl) (by exact rfl) (by exact .inl rfl) (by exact htk) (by exact ⟨rfl, zo⟩) (by simp only [List.length_cons, List.length_nil]; omega)) ?_
      rw [hrows]
      refine zV lab ?_;refine zV lab ?_;refine znD ?_;refine zR ?_;refine zV laB ?_;refine zV laa ?_;refine zn ?_
      exact ⟨a.l.length - (i + 1), _, _, by omega, (gh_lit [(2, .one (.int .i64 m)), (3, .one (.ptr 3 0)), (6, .one (.ptr 6 0)), (7, .one (.ptr 7 0)), (8, .one (slOf 2 (tyRows (env')))), (9, .one (.own 105 ((i + 1)) ((i + 1)))), (10, .one (.own 106 ((i + 1)) ((i + 1)))), (32, .one (slOf 7 (tmRows a.l))), (33, .one (.int .i64 ((tmRows a.l).length : Nat))), (34, .one (.int .i64 (((i + 1) : Nat) : Int)))] [(3, .obj a.c), (6, .obj Tm.zero.c), (7, .obj Ty.num.c), (105, .row 24 2 ((i + 1)) (tyRows (kindsR (a.l.take (i + 1)) env'))), (106, .row 24 2 ((i + 1)) (tyRows (kindsR (a.l.take (i + 1)) env')))] [] [] ⟨(zw rfl zo), (zw rfl zo), (zw rfl zo), (zw rfl zo), (by exact WkU.of_eq rfl zo), (by exact WkU.of_eq rfl zo), (by exact WkU.of_eq rfl zo), (by exact WkU.of_eq rfl zo), (zw rfl zo), (zw rfl zo), zo⟩ ⟨(by exact zb rfl), (by exact zb rfl), (by exact zb rfl), (by exact zb rfl), (by exact zb rfl), zo⟩ trivial zo rfl rfl ⟨zo, ⟨_, rfl⟩, ⟨_, rfl⟩, ⟨_, rfl⟩, zo, ⟨_, _, _, _, rfl, Nat.le_refl _⟩, ⟨_, _, _, _, rfl, Nat.le_refl _⟩, zo, zo, zo, zo⟩ ⟨(by exact ⟨zo, zo, zo, zo, zo, zo, zo, zo⟩), (by exact ⟨zo, zo, zo, zo, zo, zo, zo, zo⟩), (by exact ⟨zo, zo, zo⟩), (okRows_closed (by exact closed_tyRows _)), (okRows_closed (by exact closed_tyRows _)), zo⟩), i + 1, by omega, rfl, rfl, rfl⟩
end Go.Proofs.YtnflnbdlgdjfmabGreatDoor
namespace Go.Proofs.YtnflnbdlgdjfmabGreatDoor
open Go.RowKit
set_option linter.unusedVariables false
set_option linter.unusedSimpArgs false
set_option maxRecDepth 100000
attribute [local irreducible] RunL AW LocOp ACalls Gh
set_option maxHeartbeats 4000000 in
theorem checkTerm_a (a : Tm) (hok : TmOk a) (hdp : TmDp a) (hsz : a.nodes ≤ 1048576) : ACalls Tryz.prog 21 [a.u] [] (checkU a) [] := by
  rw [← checkR_eq]
  refine acalls_of_body Tryz.func21 rfl (by kernel_rfl) (Nat.le_of_ble_eq_true rfl) zo (by simp [namesL]) ?_
  refine zQ ?_;refine zM lan ?_;refine zM lah ?_;refine zM lah ?_;refine zV lab ?_;refine zn ?_;refine zq ?_;refine zQ ?_;refine zV lai ?_
  refine zV (lal (isTerm_a a 0 hok hdp hsz) rfl (by refine zC7 ?_;refine zC ?_;exact rfl)) ?_
  cases hg : a.Good 0 with
  | false =>
    refine zV laz ?_;refine zn ?_;refine zcT ?_;refine zQ ?_;refine zV laq ?_
    refine zV (lal any0_a) ?_
    refine zE laf ?_;refine zE laf ?_;refine zV lab ?_;refine zn ?_;refine zre ?_
    rw [show checkR a = errU 1 by unfold checkR; rw [hg]; rfl]
    refine rq ?_
    refine ret_cct (by exact .inr rfl) (by exact rfl) (by exact rfl) (by exact rfl) (by exact rfl) (by exact rfl) (by exact rfl) (by exact rfl) [] trivial (l' := Tm.zero.c) (k' := Ty.any.c) (by exact ⟨.le (.refl _), .le (.refl _), .le (.refl _), .le (.nil _), .le (.refl _), .le (.nil _), .le (.nil _), zo⟩) (by exact wkRow_refl _) (by exact .le (.refl _)) (by exact zo) (by exact rfl) (by exact ⟨⟨zo, zo, zo, zo, zo, zo, zo, zo⟩, ⟨zo, zo, zo⟩, zo, zo⟩) (by exact zo) (by exact rfl)
  | true =>
  have hg' := hg
  unfold Tm.Good at hg'
  simp only [Bool.and_eq_true, decide_eq_true_eq] at hg'
  have hty := typeOf_a a [] hg'.2 (fun t h => by cases h) (by simpa using hsz)
  cases ho : (tyT a []).2 with
  | false =>
    rw [ho] at hty
    refine zV laz ?_;refine zn ?_;refine zcF ?_;refine zsk ?_;refine zQ ?_;refine zV lai ?_
    refine zV (lal hty rfl (by refine zC7 ?_;refine ⟨_, _, rfl, (by exact LeU.one' rfl (LeC.nil _)), (by exact zo), ?_⟩;exact rfl)) ?_
    refine zV laE ?_;refine zV lar ?_;refine zV lat ?_;refine zM lah ?_;refine zE laf ?_;refine zV lab ?_;refine zn ?_;refine zq ?_;refine zQ ?_;refine zV laa ?_;refine zV laz ?_;refine zn ?_;refine zcT ?_;refine zQ ?_;refine zV laq ?_
    refine zV (lal any0_a) ?_
    refine zE laf ?_;refine zE laf ?_;refine zV lab ?_;refine zn ?_;refine zre ?_
    rw [show checkR a = errU 2 by unfold checkR; rw [hg, ho]; rfl]
    refine rq ?_
    refine ret_cct (by exact .inr rfl) (by exact rfl) (by exact rfl) (by exact rfl) (by exact rfl) (by exact rfl) (by exact rfl) (by exact rfl) [] trivial (l' := Tm.zero.c) (k' := Ty.any.c) (by exact ⟨.le (.refl _), .le (.refl _), .le (.refl _), .le (.nil _), .le (.refl _), .le (.nil _), .le (.nil _), zo⟩) (by exact wkRow_refl _) (by exact .le (.refl _)) (by exact zo) (by exact rfl) (by exact ⟨⟨zo, zo, zo, zo, zo, zo, zo, zo⟩, ⟨zo, zo, zo⟩, zo, zo⟩) (by exact zo) (by exact rfl)
  | true =>
    rw [ho] at hty
    refine zV laz ?_;refine zn ?_;refine zcF ?_;refine zsk ?_;refine zQ ?_;refine zV lai ?_
    refine zV (lal hty rfl (by refine zC7 ?_;refine ⟨_, _, rfl, (by exact LeU.one' rfl (LeC.nil _)), (by exact zo), ?_⟩;exact rfl)) ?_
    refine zV laE ?_;refine zV lar ?_;refine zV lat ?_;refine zM lah ?_;refine zE laf ?_;refine zV lab ?_;refine zn ?_;refine zq ?_;refine zQ ?_;refine zV laa ?_;refine zV laz ?_;refine zn ?_;refine zcF ?_;refine zsk ?_;refine zq ?_;refine zRD ?_;refine zV lai ?_
    refine zV (lal (withCasts_a a [] 0 hg'.2 (fun t h => by cases h) ho (Int.le_refl _) (by omega) (by simpa using hsz)) rfl (by refine zC7 ?_;refine ⟨_, _, rfl, (by exact LeU.one' rfl (LeC.nil _)), (by exact zo), ?_⟩;refine zC ?_;exact rfl)) ?_
    refine zV lai ?_;refine zE laf ?_;refine zE laf ?_;refine zV lab ?_;refine znD ?_;refine zre ?_
    rw [show checkR a = walkU (some (wcT a [] 0, (tyT a []).1)) by unfold checkR; rw [hg, ho]; rfl]
    refine rq ?_
    refine ret_cct (by exact .inr rfl) (by exact rfl) (by exact rfl) (by exact rfl) (by exact rfl) (by exact rfl) (by exact rfl) (by exact rfl) [] trivial (l' := (wcT a [] 0).c) (k' := ((tyT a []).1).c) (by exact wkRow_refl _) (by exact wkRow_refl _) (by exact .le (.refl _)) (by exact zo) (by exact rfl) (by exact ⟨⟨zo, zo, zo, zo, zo, zo, zo, zo⟩, ⟨zo, zo, zo⟩, zo, zo⟩) (by exact zo) (by exact rfl)
theorem sameT_rfl : ∀ a : Tm, a.same a = true := fun a => by
  induction a using Tm.ind' with
  | h a ih =>
  rw [sameT_eta, same_refl, same_refl]
  have : ∀ l : List Tm, (∀ x ∈ l, x.same x = true) → sameTL l l = true := by
    intro l
    induction l with
    | nil => intro _; rfl
    | cons b l ihl => intro h; simp only [sameTL]; rw [h b (List.mem_cons_self ..), ihl fun x hx => h x (List.mem_cons_of_mem _ hx)]; rfl
  rw [this a.l ih]
  simp
end Go.Proofs.YtnflnbdlgdjfmabGreatDoor
