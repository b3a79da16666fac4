/-
  Merged texts of the proof. Conditions: those typed in each theorem.
-/
import Derived.Test.YtnflnbdlgdjfmabGreatDoorX3
set_option linter.unusedVariables false
set_option linter.unusedSimpArgs false
namespace Go.Proofs.YtnflnbdlgdjfmabGreatDoor
open Go.RowKit
set_option maxRecDepth 100000
attribute [local irreducible] RunL AW LocOp ACalls Gh
set_option maxHeartbeats 1000000 in
theorem nodes_a : ∀ a : Tm, a.nodes ≤ 1048576 → ACalls Tryz.prog 35 [a.u] [] (.one (.int .i64 (a.nodes : Nat))) [] := by
  intro a
  induction a using Tm.ind' with
  | h a ih =>
  intro hsz
  refine zB Tryz.func35 ?_
  refine zQ ?_;refine zM lan ?_;refine zV lab ?_;refine zn (zQ ?_);refine zV lab ?_;refine zn (zq (zQ ?_));refine zV lad ?_;refine zV lae ?_;refine zV lay ?_;refine zV laa ?_;refine zn (zbl ?_)
  rw [lbt] at hsz ⊢
  refine AW.gh (laZ [(3, .one (.int .i64 (((1 + nodesL (a.l.take 0)) : Nat) : Int))), (7, .one (slOf 7 (tmRows a.l))), (8, .one (.int .i64 ((tmRows a.l).length : Nat))), (9, .one (.int .i64 ((0 : Nat) : Int)))] [] [] [] ⟨(zw rfl zo), (by exact WkU.of_eq rfl zo), (zw rfl zo), (zw rfl zo), zo⟩ trivial zo zo rfl rfl ⟨zo, zo, zo, zo, zo⟩ trivial) ?_
  refine AW.lenSl 7 rfl fun hmax => ?_
  refine AW.loop (fun m t h => ∃ i : Nat, i ≤ a.l.length ∧ m = a.l.length - i ∧ t = tOfL [(3, .one (.int .i64 (((1 + nodesL (a.l.take i)) : Nat) : Int))), (7, .one (slOf 7 (tmRows a.l))), (8, .one (.int .i64 ((tmRows a.l).length : Nat))), (9, .one (.int .i64 (i : Nat)))] ∧ h = ofL []) a.l.length ⟨0, Nat.zero_le _, rfl, rfl, rfl⟩ ?_
  rintro m t h ⟨i, hi, rfl, rfl, rfl⟩
  have hL := la7 a.l
  cases hlt : decide ((i : Int) < ((tmRows a.l).length : Nat)) with
  | false =>
    have hil : i = a.l.length := by simp at hlt; omega
    refine zQ ?_;refine zV lac ?_;refine zn (zq ?_);refine zaF ?_;refine zex (zQ ?_);refine zV laa ?_;refine zV lab ?_;refine zn (zre ?_)
    rw [show nodesL a.l = nodesL (a.l.take i) by rw [hil, List.take_length]]
    exact la1 (.inr rfl) rfl zo
  | true =>
    have hil : i < a.l.length := by simp at hlt; omega
    have hr1 := lbJ hil
    have hn1 := ldy hil
    have hn2 := lcy a.l (i + 1)
    have hn3 := lb9 (List.getElem_mem hil)
    refine zQ ?_;refine zV lac ?_;refine zn (zq ?_);refine zaT ?_;refine zsk (zq (zbl (zQ ?_)));refine zV (lap _) ?_;refine zV lao ?_;refine zM lah ?_;refine zE laf ?_;refine zn (zR ?_);refine zV laa ?_;refine zV laj ?_
    refine zV (lal (ih a.l[i] (List.getElem_mem _) (by omega)) rfl (by refine ⟨_, _, rfl, (by exact LeU.of_eq rfl zo), (by (exact ⟨zo, zo, zo, zo, zo, zo, zo, zo⟩)), ?_⟩;exact rfl)) ?_
    have he : (((1 + nodesL (a.l.take i)) : Nat) : Int) + (a.l[i].nodes : Nat) = (((1 + nodesL (a.l.take (i + 1))) : Nat) : Int) := by omega
    refine zV laI ?_
    rw [he]
    refine zV lab ?_;refine zn (zR ?_);refine zV laD ?_;refine zV laa ?_;refine zn ?_
    exact ⟨a.l.length - (i + 1), _, _, by omega, (laZ [(3, .one (.int .i64 (((1 + nodesL (a.l.take (i + 1))) : Nat) : Int))), (7, .one (slOf 7 (tmRows a.l))), (8, .one (.int .i64 ((tmRows a.l).length : Nat))), (9, .one (.int .i64 ((i + 1 : Nat) : Int)))] [] [] [] ⟨(zw rfl zo), (by exact WkU.of_eq rfl zo), (zw rfl zo), (zw rfl zo), zo⟩ trivial zo zo rfl rfl ⟨zo, zo, zo, zo, zo⟩ trivial), i + 1, by omega, rfl, rfl, rfl⟩
set_option maxHeartbeats 2000000 in
theorem num_a (t : Tm) (ar ow : Int) (hok : t.n ≤ 9223372036854775807) (h0 : 0 ≤ ow) (h1 : ow ≤ 1048576) :
    ACalls Tryz.prog 76 [t.u, .one (.int .i64 ar), .one (.int .i64 ow)] [] (.one (.bool (t.num ar ow))) [] := by
  refine zB Tryz.func76 ?_
  cases k1 : (t.k == 1) with
  | true =>
    cases h2 : decide (t.n ≥ 0) with
    | true =>
      have h2' : 0 ≤ t.n := by simpa using h2
      refine zQ ?_;refine zM lan ?_;refine zV lab ?_;refine zn (zq (zQ ?_));refine zV lad ?_;refine zV lae ?_;refine zn (zbl (zQ ?_));refine zV lac ?_;refine zV lab ?_;refine zn ?_;refine zaT ?_;refine zQ ?_;refine zV lad ?_;refine zV lae ?_;refine zV lac ?_;refine zV laa ?_;refine zT lad ?_;refine zT lae ?_;refine zT laa ?_;refine zT laJ ?_;refine zT laa ?_;refine zT lac ?_;refine zV (lam true) ?_;refine zV lab ?_;refine zn (zre ?_)
      rw [show t.num ar ow = decide (t.n - ow < ar) by simp [Tm.num, k1, h2]]
      exact la1 (.inr rfl) rfl zo
    | false =>
      refine zQ ?_;refine zM lan ?_;refine zV lab ?_;refine zn (zq (zQ ?_));refine zV lad ?_;refine zV lae ?_;refine zn (zbl (zQ ?_));refine zV lac ?_;refine zV lab ?_;refine zn ?_;refine zaT ?_;refine zQ ?_;refine zV lad ?_;refine zV lae ?_;refine zV lac ?_;refine zV laa ?_;refine zf ?_;refine zf ?_;refine zf ?_;refine zf ?_;refine zf ?_;refine zf ?_;refine zV (lam false) ?_;refine zV lab ?_;refine zn (zre ?_)
      rw [show t.num ar ow = false by simp [Tm.num, k1, h2]]
      exact la1 (.inr rfl) rfl zo
  | false =>
  cases k2 : (t.k == 2) with
  | true =>
    cases h2 : decide (t.n ≥ -1000000) with
    | true =>
      refine zQ ?_;refine zM lan ?_;refine zV lab ?_;refine zn (zq (zQ ?_));refine zV lad ?_;refine zV lae ?_;refine zn (zbl (zQ ?_));refine zV lac ?_;refine zV lab ?_;refine zn ?_;refine zaF ?_;refine zQ ?_;refine zV lac ?_;refine zV lab ?_;refine zn ?_;refine zaT ?_;refine zQ ?_;refine zV lad ?_;refine zV lae ?_;refine zV lac ?_;refine zV laa ?_;refine zT lad ?_;refine zT lae ?_;refine zT lac ?_;refine zV (lam true) ?_;refine zV lab ?_;refine zn (zre ?_)
      rw [show t.num ar ow = decide (t.n ≤ 1000000) by simp [Tm.num, k1, k2, h2]]
      exact la1 (.inr rfl) rfl zo
    | false =>
      refine zQ ?_;refine zM lan ?_;refine zV lab ?_;refine zn (zq (zQ ?_));refine zV lad ?_;refine zV lae ?_;refine zn (zbl (zQ ?_));refine zV lac ?_;refine zV lab ?_;refine zn ?_;refine zaF ?_;refine zQ ?_;refine zV lac ?_;refine zV lab ?_;refine zn ?_;refine zaT ?_;refine zQ ?_;refine zV lad ?_;refine zV lae ?_;refine zV lac ?_;refine zV laa ?_;refine zf ?_;refine zf ?_;refine zf ?_;refine zV (lam false) ?_;refine zV lab ?_;refine zn (zre ?_)
      rw [show t.num ar ow = false by simp [Tm.num, k1, k2, h2]]
      exact la1 (.inr rfl) rfl zo
  | false =>
  cases k3 : (t.k == 3) with
  | true =>
    cases h2 : (t.n == 0) with
    | true =>
      refine zQ ?_;refine zM lan ?_;refine zV lab ?_;refine zn (zq (zQ ?_));refine zV lad ?_;refine zV lae ?_;refine zn (zbl (zQ ?_));refine zV lac ?_;refine zV lab ?_;refine zn ?_;refine zaF ?_;refine zQ ?_;refine zV lac ?_;refine zV lab ?_;refine zn ?_;refine zaF ?_;refine zQ ?_;refine zV lac ?_;refine zV lab ?_;refine zn ?_;refine zaT ?_;refine zQ ?_;refine zV lad ?_;refine zV lae ?_;refine zV lac ?_;refine zV laa ?_;refine zt ?_;refine zt ?_;refine zt ?_;refine zV (lam true) ?_;refine zV lab ?_;refine zn (zre ?_)
      rw [show t.num ar ow = true by simp [Tm.num, k1, k2, k3, h2]]
      exact la1 (.inr rfl) rfl zo
    | false =>
      refine zQ ?_;refine zM lan ?_;refine zV lab ?_;refine zn (zq (zQ ?_));refine zV lad ?_;refine zV lae ?_;refine zn (zbl (zQ ?_));refine zV lac ?_;refine zV lab ?_;refine zn ?_;refine zaF ?_;refine zQ ?_;refine zV lac ?_;refine zV lab ?_;refine zn ?_;refine zaF ?_;refine zQ ?_;refine zV lac ?_;refine zV lab ?_;refine zn ?_;refine zaT ?_;refine zQ ?_;refine zV lad ?_;refine zV lae ?_;refine zV lac ?_;refine zV laa ?_;refine zF lad ?_;refine zF lae ?_;refine zF lac ?_;refine zV (lam false) ?_;refine zV lab ?_;refine zn (zre ?_)
      rw [show t.num ar ow = (t.n == 1) by simp [Tm.num, k1, k2, k3, h2]]
      exact la1 (.inr rfl) rfl zo
  | false =>
    refine zQ ?_;refine zM lan ?_;refine zV lab ?_;refine zn (zq (zQ ?_));refine zV lad ?_;refine zV lae ?_;refine zn (zbl (zQ ?_));refine zV lac ?_;refine zV lab ?_;refine zn ?_;refine zaF ?_;refine zQ ?_;refine zV lac ?_;refine zV lab ?_;refine zn ?_;refine zaF ?_;refine zQ ?_;refine zV lac ?_;refine zV lab ?_;refine zn ?_;refine zaF ?_;refine zsk (zQ ?_);refine zV lad ?_;refine zV lae ?_;refine zV lac ?_;refine zV lab ?_;refine zn (zre ?_)
    rw [show t.num ar ow = (t.n == 0) by simp [Tm.num, k1, k2, k3]]
    exact la1 (.inr rfl) rfl zo
theorem arity_at {k : Int} (h1 : decide (k < 1) = false) (h9 : decide (k > 9) = false) : arityC[k.toNat * 1]? = some (.int .i64 (arity k)) := by
  simp at h1 h9
  obtain ⟨n, rfl⟩ : ∃ n : Nat, k = n := ⟨k.toNat, by omega⟩
  have : n < 10 := by omega
  match n, this with
  | 0, _ | 1, _ | 2, _ | 3, _ | 4, _ | 5, _ | 6, _ | 7, _ | 8, _ | 9, _ => rfl
set_option maxHeartbeats 4000000 in
theorem tgood_a : ∀ (a : Tm) (ar ow : Int), TmOk a → 0 ≤ ow → ow + a.nodes ≤ 1048576 →
    ACalls Tryz.prog 42 [a.u, .one (.int .i64 ar), .one (.int .i64 ow)] [] (.one (.bool (a.good ar ow))) [] := by
  intro a
  induction a using Tm.ind' with
  | h a ih =>
  intro ar ow hok h0 hsz
  have hnp := lco a
  have hne := lbt a
  refine zB Tryz.func42 ?_
  cases h1 : decide (a.k < 1) with
  | true =>
    refine zQ ?_;refine zM lan ?_;refine zV lab ?_;refine zn (zq (zq ?_));refine zRD ?_;refine zV lad ?_;refine zV lae ?_;refine zV lac ?_;refine zV laa ?_;refine zt ?_;refine zt ?_;refine zt ?_;refine zV (lam true) ?_;refine zV laa ?_;refine zs ?_;refine zs ?_;refine zs ?_;refine zs ?_;refine zs ?_;refine zs ?_;refine zs ?_;refine zs ?_;refine zV laA ?_;refine zV laa ?_;refine zs ?_;refine zs ?_;refine zs ?_;refine zs ?_;refine zs ?_;refine zV laA ?_;refine znD ?_;refine zcT ?_;refine zQ ?_;refine zV lab ?_;refine zn (zre ?_)
    rw [show a.good ar ow = false by rw [lbd, Tm.fit, h1]; rfl]
    exact la1 (.inr rfl) rfl zo
  | false =>
  cases h2 : decide (a.k > 9) with
  | true =>
    refine zQ ?_;refine zM lan ?_;refine zV lab ?_;refine zn (zq (zq ?_));refine zRD ?_;refine zV lad ?_;refine zV lae ?_;refine zV lac ?_;refine zV laa ?_;refine zF lad ?_;refine zF lae ?_;refine zF lac ?_;refine zV (lam false) ?_;refine zV laa ?_;refine zt ?_;refine zt ?_;refine zt ?_;refine zt ?_;refine zt ?_;refine zt ?_;refine zt ?_;refine zt ?_;refine zV (lam true) ?_;refine zV laa ?_;refine zs ?_;refine zs ?_;refine zs ?_;refine zs ?_;refine zs ?_;refine zV laA ?_;refine znD ?_;refine zcT ?_;refine zQ ?_;refine zV lab ?_;refine zn (zre ?_)
    rw [show a.good ar ow = false by rw [lbd, Tm.fit, h2]; simp]
    exact la1 (.inr rfl) rfl zo
  | false =>
  have har := arity_at h1 h2
  have hk1 : 0 ≤ a.k := by simp at h1; omega
  have hk2 : a.k < (10 : Nat) := by simp at h2; omega
  cases h3 : ((((tmRows a.l).length : Nat) : Int) != arity a.k) with
  | true =>
    refine zQ ?_;refine zM lan ?_;refine zV lab ?_;refine zn (zq (zq ?_));refine zRD ?_;refine zV lad ?_;refine zV lae ?_;refine zV lac ?_;refine zV laa ?_;refine zF lad ?_;refine zF lae ?_;refine zF lac ?_;refine zV (lam false) ?_;refine zV laa ?_;refine zF lad ?_;refine zF lae ?_;refine zF lay ?_;refine zF lad ?_;refine zF lae ?_;refine zF (lcM rfl rfl (by omega) (by omega)) ?_;refine zF (lai rfl (by assumption)) ?_;refine zF lac ?_;refine zV (lam false) ?_;refine zV laa ?_;refine zt ?_;refine zt ?_;refine zt ?_;refine zt ?_;refine zt ?_;refine zV (lam true) ?_;refine znD ?_;refine zcT ?_;refine zQ ?_;refine zV lab ?_;refine zn (zre ?_)
    rw [show a.good ar ow = false by
      rw [la7] at h3
      have h3' : (((a.l.length : Nat) : Int) == arity a.k) = false := by simpa using h3
      rw [lbd, Tm.fit, h3']; simp]
    exact la1 (.inr rfl) rfl zo
  | false =>
  have h3' : (((a.l.length : Nat) : Int) == arity a.k) = true := by
    rw [la7] at h3; simpa using h3
  refine zQ ?_;refine zM lan ?_;refine zV lab ?_;refine zn (zq (zq ?_));refine zRD ?_;refine zV lad ?_;refine zV lae ?_;refine zV lac ?_;refine zV laa ?_;refine zF lad ?_;refine zF lae ?_;refine zF lac ?_;refine zV (lam false) ?_;refine zV laa ?_;refine zF lad ?_;refine zF lae ?_;refine zF lay ?_;refine zF lad ?_;refine zF lae ?_;refine zF (lcM rfl rfl (by omega) (by omega)) ?_;refine zF (lai rfl (by assumption)) ?_;refine zF lac ?_;refine zV (lam false) ?_;refine zV laa ?_;refine zF lad ?_;refine zF (laj rfl rfl (by exact Cut.cons (by exact rfl) (Cut.cons (by exact rfl) Cut.nil))) ?_;refine zF laq ?_
  refine zF (lal (lfX a.f .any) rfl (by refine ⟨_, _, rfl, (by exact LeU.of_eq rfl zo), (by (exact ⟨zo, zo, zo⟩)), ?_⟩;refine ⟨_, _, rfl, (by (refine LeU.agg' rfl ?_;exact ⟨LeC.refl _, LeC.nil _, zo⟩)), (by (exact ⟨zo, zo, zo⟩)), ?_⟩;exact rfl)) ?_
  cases h4 : a.f.same .any with
  | false =>
    refine zF laz ?_;refine zV (lam false) ?_;refine znD ?_;refine zcT ?_;refine zQ ?_;refine zV lab ?_;refine zn (zre ?_)
    rw [show a.good ar ow = false by rw [lbd, Tm.fit, h4]; simp]
    exact la1 (.inr rfl) rfl zo
  | true =>
  cases h7 : (a.k == 7) with
  | true =>
    refine zF laz ?_;refine zV (lam false) ?_;refine znD ?_;refine zcF ?_;refine zsk (zQ ?_);refine zV lad ?_;refine zV lae ?_;refine zV lac ?_;refine zV laa ?_;refine zt ?_;refine zt ?_;refine zt ?_;refine zV (lam true) ?_;refine zV lab ?_;refine zn (zq (zQ ?_));refine zV laa ?_;refine zV laa ?_;refine zI lad ?_;refine zI (laj rfl rfl (by exact Cut.cons (by exact rfl) (Cut.cons (by exact rfl) Cut.nil))) ?_
    refine zI (lal (Good_a a.t) rfl (by refine ⟨_, _, rfl, (by exact LeU.of_eq rfl zo), (by (exact ⟨zo, zo, zo⟩)), ?_⟩;exact rfl)) ?_
    cases h5 : a.t.good 4 with
    | false =>
      refine zI laz ?_;refine zV laA ?_;refine zV laa ?_;refine zs ?_;refine zs ?_;refine zs ?_;refine RunL.skip (.inr ⟨rfl, _, rfl, rfl⟩) ?_;refine RunL.skip (.inr ⟨rfl, _, rfl, rfl⟩) ?_;refine RunL.skip (.inr ⟨rfl, _, rfl, rfl⟩) ?_;refine RunL.skip (.inr ⟨rfl, _, rfl, rfl⟩) ?_;refine RunL.skip (.inr ⟨rfl, _, rfl, rfl⟩) ?_;refine zs ?_;refine zV laA ?_;refine zV laa ?_;refine zs ?_;refine zs ?_;refine zs ?_;refine zs ?_;refine zs ?_;refine zV laA ?_;refine zn ?_;refine zcT ?_;refine zQ ?_;refine zV lab ?_;refine zn (zre ?_)
      rw [show a.good ar ow = false by rw [lbd, Tm.fit, h7, h5]; simp]
      exact la1 (.inr rfl) rfl zo
    | true =>
    refine zI laz ?_;refine zV laA ?_;refine zV laa ?_;refine zI laa ?_;refine zI laz ?_;refine zI laa ?_;refine zs ?_;refine zs ?_;refine zs ?_;refine zs ?_;refine zs ?_;refine zI law ?_;refine zV law ?_;refine zV laa ?_;refine zI laj ?_;refine zI laa ?_;refine zI laa ?_
    refine zI (lal (num_a a ar ow hok.n h0 (by omega)) rfl (by refine ⟨_, _, rfl, (by exact LeU.of_eq rfl zo), (by (exact ⟨zo, zo, zo, zo, zo, zo, zo, zo⟩)), ?_⟩;refine zC ?_;refine zC ?_;exact rfl)) ?_
    cases h6 : a.num ar ow with
    | false =>
      refine zI laz ?_;refine zV law ?_;refine zn ?_;refine zcT ?_;refine zQ ?_;refine zV lab ?_;refine zn (zre ?_)
      rw [show a.good ar ow = false by rw [lbd, Tm.fit, h6]; simp]
      exact la1 (.inr rfl) rfl zo
    | true =>
    refine zI laz ?_;refine zV law ?_;refine zn ?_;refine zcF ?_;refine zsk (zq (zQ ?_));refine zV lad ?_;refine zV lae ?_;refine zV lac ?_;refine zn ?_;refine zaT ?_;refine zR ?_;refine zV laa ?_;refine zV laI ?_;refine zV lab ?_;refine zn (zq (zQ ?_));refine zV lad ?_;refine zV lae ?_;refine zV lay ?_;refine zV laa ?_;refine zn (zbl ?_)
    rw [show a.good ar ow = goodL (a.l.drop 0) ar (ow + 1) by rw [lbd, Tm.fit, h1, h2, h3', h4, h5, h6, h7]; simp]
    refine AW.gh (laZ [(1, .one (.int .i64 ar)), (2, .one (.int .i64 (ow + 1))), (74, .one (slOf 7 (tmRows a.l))), (75, .one (.int .i64 ((tmRows a.l).length : Nat))), (76, .one (.int .i64 ((0 : Nat) : Int)))] [] [] [] ⟨(zw rfl zo), (zw rfl zo), (by exact WkU.of_eq rfl zo), (zw rfl zo), (zw rfl zo), zo⟩ trivial zo zo rfl rfl ⟨zo, zo, zo, zo, zo, zo⟩ trivial) ?_
    refine AW.lenSl 74 rfl fun hmax => ?_
    refine AW.loop (fun m t h => ∃ i : Nat, i ≤ a.l.length ∧ m = a.l.length - i ∧ goodL (a.l.drop 0) ar (ow + 1) = goodL (a.l.drop i) ar (ow + 1) ∧ t = tOfL [(1, .one (.int .i64 ar)), (2, .one (.int .i64 (ow + 1))), (74, .one (slOf 7 (tmRows a.l))), (75, .one (.int .i64 ((tmRows a.l).length : Nat))), (76, .one (.int .i64 ((i : Nat) : Int)))] ∧ h = ofL []) a.l.length ⟨0, Nat.zero_le _, rfl, rfl, rfl, rfl⟩ ?_
    rintro m t h ⟨i, hi, rfl, hinv, rfl, rfl⟩
    have hL := la7 a.l
    cases hlt : decide ((i : Int) < ((tmRows a.l).length : Nat)) with
    | false =>
      have hil : i = a.l.length := by simp at hlt; omega
      refine zQ ?_;refine zV lac ?_;refine zn (zq ?_);refine zaF ?_;refine zex (zQ ?_);refine zV lab ?_;refine zn (zre ?_)
      rw [hinv, hil, show goodL (a.l.drop a.l.length) ar (ow + 1) = true by rw [List.drop_length]; rfl]
      exact la1 (.inr rfl) rfl zo
    | true =>
      have hil : i < a.l.length := by simp at hlt; omega
      have hr1 := lbJ hil
      have hn3 := lb9 (List.getElem_mem hil)
      refine zQ ?_;refine zV lac ?_;refine zn (zq ?_);refine zaT ?_;refine zsk (zq (zbl (zQ ?_)));refine zV (lap _) ?_;refine zV lao ?_;refine zM lah ?_;refine zE laf ?_;refine zn (zQ ?_);refine zV laj ?_;refine zV laa ?_;refine zV laa ?_
      refine zV (lal (ih a.l[i] (List.getElem_mem _) ar (ow + 1) (hok.l _ (List.getElem_mem _)) (by omega) (by omega)) rfl (by refine ⟨_, _, rfl, (by exact LeU.of_eq rfl zo), (by (exact ⟨zo, zo, zo, zo, zo, zo, zo, zo⟩)), ?_⟩;refine zC ?_;refine zC ?_;exact rfl)) ?_
      have hs := ldf hil ar (ow + 1)
      cases hq : a.l[i].good ar (ow + 1) with
      | false =>
        rw [hq, Bool.false_and] at hs
        refine zV laz ?_;refine zn ?_;refine zcT ?_;refine zQ ?_;refine zV lab ?_;refine zn (zre ?_)
        rw [hinv, hs]
        exact la1 (.inr rfl) rfl zo
      | true =>
        rw [hq, Bool.true_and] at hs
        refine zV laz ?_;refine zn ?_;refine zcF ?_;refine zsk (zR ?_);refine zV laD ?_;refine zV laa ?_;refine zn ?_
        exact ⟨a.l.length - (i + 1), _, _, by omega, (laZ [(1, .one (.int .i64 ar)), (2, .one (.int .i64 (ow + 1))), (74, .one (slOf 7 (tmRows a.l))), (75, .one (.int .i64 ((tmRows a.l).length : Nat))), (76, .one (.int .i64 ((i + 1 : Nat) : Int)))] [] [] [] ⟨(zw rfl zo), (zw rfl zo), (by exact WkU.of_eq rfl zo), (zw rfl zo), (zw rfl zo), zo⟩ trivial zo zo rfl rfl ⟨zo, zo, zo, zo, zo, zo⟩ trivial), i + 1, by omega, rfl, by rw [hinv, hs], rfl, rfl⟩
  | false =>
  cases h9 : (a.k == 9) with
  | true =>
    have h9' : (!(a.k == 9)) = false := by rw [h9]; rfl
    refine zF laz ?_;refine zV (lam false) ?_;refine znD ?_;refine zcF ?_;refine zsk (zQ ?_);refine zV lad ?_;refine zV lae ?_;refine zV lac ?_;refine zV laa ?_;refine zF lad ?_;refine zF lae ?_;refine zF lac ?_;refine zV (lam false) ?_;refine zV lab ?_;refine zn (zq (zQ ?_));refine zV laa ?_;refine zV laa ?_;refine zT lad ?_;refine zT (laj rfl rfl (by exact Cut.cons (by exact rfl) (Cut.cons (by exact rfl) Cut.nil))) ?_
    refine zT (lal (Good_a a.t) rfl (by refine ⟨_, _, rfl, (by exact LeU.of_eq rfl zo), (by (exact ⟨zo, zo, zo⟩)), ?_⟩;exact rfl)) ?_
    cases h5 : a.t.good 4 with
    | false =>
      refine zT laz ?_;refine zV (lam true) ?_;refine zV laa ?_;refine zs ?_;refine zs ?_;refine zs ?_;refine RunL.skip (.inr ⟨rfl, _, rfl, rfl⟩) ?_;refine RunL.skip (.inr ⟨rfl, _, rfl, rfl⟩) ?_;refine RunL.skip (.inr ⟨rfl, _, rfl, rfl⟩) ?_;refine RunL.skip (.inr ⟨rfl, _, rfl, rfl⟩) ?_;refine RunL.skip (.inr ⟨rfl, _, rfl, rfl⟩) ?_;refine zs ?_;refine zV laA ?_;refine zV laa ?_;refine zs ?_;refine zs ?_;refine zs ?_;refine zs ?_;refine zs ?_;refine zV laA ?_;refine zn ?_;refine zcT ?_;refine zQ ?_;refine zV lab ?_;refine zn (zre ?_)
      rw [show a.good ar ow = false by rw [lbd, Tm.fit, h7, h9, h5]; simp]
      exact la1 (.inr rfl) rfl zo
    | true =>
    refine zT laz ?_;refine zV (lam true) ?_;refine zV laa ?_;refine zI laa ?_;refine zI laz ?_;refine zI laa ?_;refine zf ?_;refine zf ?_;refine zf ?_;refine zf ?_;refine zf ?_;refine zI (lam false) ?_;refine zV law ?_;refine zV laa ?_;refine zI laj ?_;refine zI laa ?_;refine zI laa ?_
    refine zI (lal (num_a a ar ow hok.n h0 (by omega)) rfl (by refine ⟨_, _, rfl, (by exact LeU.of_eq rfl zo), (by (exact ⟨zo, zo, zo, zo, zo, zo, zo, zo⟩)), ?_⟩;refine zC ?_;refine zC ?_;exact rfl)) ?_
    cases h6 : a.num ar ow with
    | false =>
      refine zI laz ?_;refine zV law ?_;refine zn ?_;refine zcT ?_;refine zQ ?_;refine zV lab ?_;refine zn (zre ?_)
      rw [show a.good ar ow = false by rw [lbd, Tm.fit, h6]; simp]
      exact la1 (.inr rfl) rfl zo
    | true =>
    refine zI laz ?_;refine zV law ?_;refine zn ?_;refine zcF ?_;refine zsk (zq (zQ ?_));refine zV lad ?_;refine zV lae ?_;refine zV lac ?_;refine zn ?_;refine zaF ?_;refine zsk (zq (zQ ?_));refine zV lad ?_;refine zV lae ?_;refine zV lay ?_;refine zV laa ?_;refine zn (zbl ?_)
    rw [show a.good ar ow = goodL (a.l.drop 0) ar (ow) by rw [lbd, Tm.fit, h1, h2, h3', h4, h5, h6, h7, h9]; simp]
    refine AW.gh (laZ [(1, .one (.int .i64 ar)), (2, .one (.int .i64 (ow))), (74, .one (slOf 7 (tmRows a.l))), (75, .one (.int .i64 ((tmRows a.l).length : Nat))), (76, .one (.int .i64 ((0 : Nat) : Int)))] [] [] [] ⟨(zw rfl zo), (zw rfl zo), (by exact WkU.of_eq rfl zo), (zw rfl zo), (zw rfl zo), zo⟩ trivial zo zo rfl rfl ⟨zo, zo, zo, zo, zo, zo⟩ trivial) ?_
    refine AW.lenSl 74 rfl fun hmax => ?_
    refine AW.loop (fun m t h => ∃ i : Nat, i ≤ a.l.length ∧ m = a.l.length - i ∧ goodL (a.l.drop 0) ar (ow) = goodL (a.l.drop i) ar (ow) ∧ t = tOfL [(1, .one (.int .i64 ar)), (2, .one (.int .i64 (ow))), (74, .one (slOf 7 (tmRows a.l))), (75, .one (.int .i64 ((tmRows a.l).length : Nat))), (76, .one (.int .i64 ((i : Nat) : Int)))] ∧ h = ofL []) a.l.length ⟨0, Nat.zero_le _, rfl, rfl, rfl, rfl⟩ ?_
    rintro m t h ⟨i, hi, rfl, hinv, rfl, rfl⟩
    have hL := la7 a.l
    cases hlt : decide ((i : Int) < ((tmRows a.l).length : Nat)) with
    | false =>
      have hil : i = a.l.length := by simp at hlt; omega
      refine zQ ?_;refine zV lac ?_;refine zn (zq ?_);refine zaF ?_;refine zex (zQ ?_);refine zV lab ?_;refine zn (zre ?_)
      rw [hinv, hil, show goodL (a.l.drop a.l.length) ar (ow) = true by rw [List.drop_length]; rfl]
      exact la1 (.inr rfl) rfl zo
    | true =>
      have hil : i < a.l.length := by simp at hlt; omega
      have hr1 := lbJ hil
      have hn3 := lb9 (List.getElem_mem hil)
      refine zQ ?_;refine zV lac ?_;refine zn (zq ?_);refine zaT ?_;refine zsk (zq (zbl (zQ ?_)));refine zV (lap _) ?_;refine zV lao ?_;refine zM lah ?_;refine zE laf ?_;refine zn (zQ ?_);refine zV laj ?_;refine zV laa ?_;refine zV laa ?_
      refine zV (lal (ih a.l[i] (List.getElem_mem _) ar (ow) (hok.l _ (List.getElem_mem _)) (by omega) (by omega)) rfl (by refine ⟨_, _, rfl, (by exact LeU.of_eq rfl zo), (by (exact ⟨zo, zo, zo, zo, zo, zo, zo, zo⟩)), ?_⟩;refine zC ?_;refine zC ?_;exact rfl)) ?_
      have hs := ldf hil ar (ow)
      cases hq : a.l[i].good ar (ow) with
      | false =>
        rw [hq, Bool.false_and] at hs
        refine zV laz ?_;refine zn ?_;refine zcT ?_;refine zQ ?_;refine zV lab ?_;refine zn (zre ?_)
        rw [hinv, hs]
        exact la1 (.inr rfl) rfl zo
      | true =>
        rw [hq, Bool.true_and] at hs
        refine zV laz ?_;refine zn ?_;refine zcF ?_;refine zsk (zR ?_);refine zV laD ?_;refine zV laa ?_;refine zn ?_
        exact ⟨a.l.length - (i + 1), _, _, by omega, (laZ [(1, .one (.int .i64 ar)), (2, .one (.int .i64 (ow))), (74, .one (slOf 7 (tmRows a.l))), (75, .one (.int .i64 ((tmRows a.l).length : Nat))), (76, .one (.int .i64 ((i + 1 : Nat) : Int)))] [] [] [] ⟨(zw rfl zo), (zw rfl zo), (by exact WkU.of_eq rfl zo), (zw rfl zo), (zw rfl zo), zo⟩ trivial zo zo rfl rfl ⟨zo, zo, zo, zo, zo, zo⟩ trivial), i + 1, by omega, rfl, by rw [hinv, hs], rfl, rfl⟩
  | false =>
    have h9' : (!(a.k == 9)) = true := by rw [h9]; rfl
    refine zF laz ?_;refine zV (lam false) ?_;refine znD ?_;refine zcF ?_;refine zsk (zQ ?_);refine zV lad ?_;refine zV lae ?_;refine zV lac ?_;refine zV laa ?_;refine zF lad ?_;refine zF lae ?_;refine zF lac ?_;refine zV (lam false) ?_;refine zV lab ?_;refine zn (zq (zQ ?_));refine zV laa ?_;refine zV laa ?_;refine zf ?_;refine zf ?_;refine zf ?_;refine zf ?_;refine zV (lam false) ?_;refine zV laa ?_;refine zI laa ?_;refine zI laz ?_;refine zI laa ?_;refine zT lad ?_;refine zT (laj rfl rfl (by exact Cut.cons (by exact rfl) (Cut.cons (by exact rfl) Cut.nil))) ?_;refine zT laq ?_
    refine zT (lal (lfX a.t .any) rfl (by refine ⟨_, _, rfl, (by exact LeU.of_eq rfl zo), (by (exact ⟨zo, zo, zo⟩)), ?_⟩;refine ⟨_, _, rfl, (by (refine LeU.agg' rfl ?_;exact ⟨LeC.refl _, LeC.nil _, zo⟩)), (by (exact ⟨zo, zo, zo⟩)), ?_⟩;exact rfl)) ?_
    cases h5 : a.t.same .any with
    | false =>
      refine zT laz ?_;refine zI (lam true) ?_;refine zV law ?_;refine zV laa ?_;refine zs ?_;refine zs ?_;refine zs ?_;refine zs ?_;refine zs ?_;refine zV laA ?_;refine zn ?_;refine zcT ?_;refine zQ ?_;refine zV lab ?_;refine zn (zre ?_)
      rw [show a.good ar ow = false by rw [lbd, Tm.fit, h7, h9, h5]; simp]
      exact la1 (.inr rfl) rfl zo
    | true =>
    refine zT laz ?_;refine zI (lam true) ?_;refine zV law ?_;refine zV laa ?_;refine zI laj ?_;refine zI laa ?_;refine zI laa ?_
    refine zI (lal (num_a a ar ow hok.n h0 (by omega)) rfl (by refine ⟨_, _, rfl, (by exact LeU.of_eq rfl zo), (by (exact ⟨zo, zo, zo, zo, zo, zo, zo, zo⟩)), ?_⟩;refine zC ?_;refine zC ?_;exact rfl)) ?_
    cases h6 : a.num ar ow with
    | false =>
      refine zI laz ?_;refine zV law ?_;refine zn ?_;refine zcT ?_;refine zQ ?_;refine zV lab ?_;refine zn (zre ?_)
      rw [show a.good ar ow = false by rw [lbd, Tm.fit, h6]; simp]
      exact la1 (.inr rfl) rfl zo
    | true =>
    refine zI laz ?_;refine zV law ?_;refine zn ?_;refine zcF ?_;refine zsk (zq (zQ ?_));refine zV lad ?_;refine zV lae ?_;refine zV lac ?_;refine zn ?_;refine zaF ?_;refine zsk (zq (zQ ?_));refine zV lad ?_;refine zV lae ?_;refine zV lay ?_;refine zV laa ?_;refine zn (zbl ?_)
    rw [show a.good ar ow = goodL (a.l.drop 0) ar (ow) by rw [lbd, Tm.fit, h1, h2, h3', h4, h5, h6, h7, h9]; simp]
    refine AW.gh (laZ [(1, .one (.int .i64 ar)), (2, .one (.int .i64 (ow))), (74, .one (slOf 7 (tmRows a.l))), (75, .one (.int .i64 ((tmRows a.l).length : Nat))), (76, .one (.int .i64 ((0 : Nat) : Int)))] [] [] [] ⟨(zw rfl zo), (zw rfl zo), (by exact WkU.of_eq rfl zo), (zw rfl zo), (zw rfl zo), zo⟩ trivial zo zo rfl rfl ⟨zo, zo, zo, zo, zo, zo⟩ trivial) ?_
    refine AW.lenSl 74 rfl fun hmax => ?_
    refine AW.loop (fun m t h => ∃ i : Nat, i ≤ a.l.length ∧ m = a.l.length - i ∧ goodL (a.l.drop 0) ar (ow) = goodL (a.l.drop i) ar (ow) ∧ t = tOfL [(1, .one (.int .i64 ar)), (2, .one (.int .i64 (ow))), (74, .one (slOf 7 (tmRows a.l))), (75, .one (.int .i64 ((tmRows a.l).length : Nat))), (76, .one (.int .i64 ((i : Nat) : Int)))] ∧ h = ofL []) a.l.length ⟨0, Nat.zero_le _, rfl, rfl, rfl, rfl⟩ ?_
    rintro m t h ⟨i, hi, rfl, hinv, rfl, rfl⟩
    have hL := la7 a.l
    cases hlt : decide ((i : Int) < ((tmRows a.l).length : Nat)) with
    | false =>
      have hil : i = a.l.length := by simp at hlt; omega
      refine zQ ?_;refine zV lac ?_;refine zn (zq ?_);refine zaF ?_;refine zex (zQ ?_);refine zV lab ?_;refine zn (zre ?_)
      rw [hinv, hil, show goodL (a.l.drop a.l.length) ar (ow) = true by rw [List.drop_length]; rfl]
      exact la1 (.inr rfl) rfl zo
    | true =>
      have hil : i < a.l.length := by simp at hlt; omega
      have hr1 := lbJ hil
      have hn3 := lb9 (List.getElem_mem hil)
      refine zQ ?_;refine zV lac ?_;refine zn (zq ?_);refine zaT ?_;refine zsk (zq (zbl (zQ ?_)));refine zV (lap _) ?_;refine zV lao ?_;refine zM lah ?_;refine zE laf ?_;refine zn (zQ ?_);refine zV laj ?_;refine zV laa ?_;refine zV laa ?_
      refine zV (lal (ih a.l[i] (List.getElem_mem _) ar (ow) (hok.l _ (List.getElem_mem _)) (by omega) (by omega)) rfl (by refine ⟨_, _, rfl, (by exact LeU.of_eq rfl zo), (by (exact ⟨zo, zo, zo, zo, zo, zo, zo, zo⟩)), ?_⟩;refine zC ?_;refine zC ?_;exact rfl)) ?_
      have hs := ldf hil ar (ow)
      cases hq : a.l[i].good ar (ow) with
      | false =>
        rw [hq, Bool.false_and] at hs
        refine zV laz ?_;refine zn ?_;refine zcT ?_;refine zQ ?_;refine zV lab ?_;refine zn (zre ?_)
        rw [hinv, hs]
        exact la1 (.inr rfl) rfl zo
      | true =>
        rw [hq, Bool.true_and] at hs
        refine zV laz ?_;refine zn ?_;refine zcF ?_;refine zsk (zR ?_);refine zV laD ?_;refine zV laa ?_;refine zn ?_
        exact ⟨a.l.length - (i + 1), _, _, by omega, (laZ [(1, .one (.int .i64 ar)), (2, .one (.int .i64 (ow))), (74, .one (slOf 7 (tmRows a.l))), (75, .one (.int .i64 ((tmRows a.l).length : Nat))), (76, .one (.int .i64 ((i + 1 : Nat) : Int)))] [] [] [] ⟨(zw rfl zo), (zw rfl zo), (by exact WkU.of_eq rfl zo), (zw rfl zo), (zw rfl zo), zo⟩ trivial zo zo rfl rfl ⟨zo, zo, zo, zo, zo, zo⟩ trivial), i + 1, by omega, rfl, by rw [hinv, hs], rfl, rfl⟩
set_option maxHeartbeats 1000000 in
theorem tGood_a (a : Tm) (ar : Int) (hok : TmOk a) (hsz : a.nodes ≤ 1048576) :
    ACalls Tryz.prog 23 [a.u, .one (.int .i64 ar)] [] (.one (.bool (a.Good ar))) [] := by
  refine zB Tryz.func23 ?_
  refine zQ ?_;refine zM lan ?_;refine zV lab ?_;refine zn (zQ ?_);refine zV laj ?_
  refine zV (lal (nodes_a a hsz) rfl (by refine ⟨_, _, rfl, (by exact LeU.of_eq rfl zo), (by (exact ⟨zo, zo, zo, zo, zo, zo, zo, zo⟩)), ?_⟩;exact rfl)) ?_
  cases h1 : decide (((a.nodes : Nat) : Int) ≤ 40) with
  | false =>
    refine zV lac ?_;refine zV laa ?_;refine zf ?_;refine zf ?_;refine zf ?_;refine zV (lam false) ?_;refine zV lab ?_;refine zn (zre ?_)
    rw [show a.Good ar = false by rw [Tm.Good, h1]; rfl]
    exact la1 (.inr rfl) rfl zo
  | true =>
    refine zV lac ?_;refine zV laa ?_;refine zT laj ?_;refine zT laa ?_
    refine zT (lal (tgood_a a ar 0 hok (by omega) (by omega)) rfl (by refine ⟨_, _, rfl, (by exact LeU.of_eq rfl zo), (by (exact ⟨zo, zo, zo, zo, zo, zo, zo, zo⟩)), ?_⟩;refine zC ?_;refine zC ?_;exact rfl)) ?_
    refine zV (lam true) ?_;refine zV lab ?_;refine zn (zre ?_)
    rw [show a.Good ar = a.good ar 0 by rw [Tm.Good, h1]; rfl]
    exact la1 (.inr rfl) rfl zo
theorem lbW {P : Program} {x y z : Tmp} {tx ty : TypeId} {bx bz n m : Nat} {l l' k k' : List C} {c c' : C} {e : Exit} {t : Nat → U} {h : Nat → Option Blk} {O' : List (Nat × Blk)} [T : TAgg P tx n] [S : TAgg P ty m] (he : e = .normal ∨ e = .ret)
    (hx : t x = .one (.ptr bx 0)) (hbx : h bx = some (.obj l)) (hlx : l.length = n) (hy : t y = .one (.ptr bz 0)) (hby : h bz = some (.obj k)) (hly : k.length = m) (hz : t z = .one c)
    (fz : List Nat) (hfz : AllP (ClosedAt h) fz) (hwx : All2 (WkC h fz []) l l') (hwy : All2 (WkC h fz []) k k') (hwz : WkC h fz [] c c') (hO : AllP (fun p => ∃ x0, h p.1 = some x0 ∧ WkBlk h fz [] x0 p.2) O') (hd : disj fz (namesL O') = true)
    (hok : okU' (ofL O') (.tup [.agg l', .agg k', .one c'])) (hok2 : AllP (fun p => okBlk' (ofL O') p.2) O') {r : U} (hr : r = .tup [.agg l', .agg k', .one c']) : RetQ P #[.cell x tx, .cell y ty, .tmp z] r O' e t h := by
  subst hr
  exact ⟨he, [.agg l, .agg k, .one c], ⟨⟨bx, l, hx, hbx, .inl ⟨n, T, hlx, rfl⟩⟩, ⟨bz, k, hy, hby, .inl ⟨m, S, hly, rfl⟩⟩, hz, zo⟩, ⟨zo, zo, zo, zo⟩, .tup [.agg l, .agg k, .one c], rfl, fz, hfz, ⟨hwx, hwy, hwz, zo⟩, hO, hd, hok, hok2⟩
theorem lbn {P : Program} {x z : Tmp} {tx : TypeId} {bx n : Nat} {l l' : List C} {c c' : C} {e : Exit} {t : Nat → U} {h : Nat → Option Blk} {O' : List (Nat × Blk)} [T : TAgg P tx n] (he : e = .normal ∨ e = .ret)
    (hx : t x = .one (.ptr bx 0)) (hbx : h bx = some (.obj l)) (hlx : l.length = n) (hz : t z = .one c)
    (fz : List Nat) (hfz : AllP (ClosedAt h) fz) (hwx : All2 (WkC h fz []) l l') (hwz : WkC h fz [] c c') (hO : AllP (fun p => ∃ x0, h p.1 = some x0 ∧ WkBlk h fz [] x0 p.2) O') (hd : disj fz (namesL O') = true)
    (hok : okU' (ofL O') (.tup [.agg l', .one c'])) (hok2 : AllP (fun p => okBlk' (ofL O') p.2) O') {r : U} (hr : r = .tup [.agg l', .one c']) : RetQ P #[.cell x tx, .tmp z] r O' e t h := by
  subst hr
  exact ⟨he, [.agg l, .one c], ⟨⟨bx, l, hx, hbx, .inl ⟨n, T, hlx, rfl⟩⟩, hz, zo⟩, ⟨zo, zo, zo⟩, .tup [.agg l, .one c], rfl, fz, hfz, ⟨hwx, hwz, zo⟩, hO, hd, hok, hok2⟩
set_option maxHeartbeats 1000000 in
theorem none_a (e : Int) : ACalls Tryz.prog 57 [.one (.int .i64 e)] [] (errU e) [] := by
  refine zB Tryz.func57 ?_
  refine zQ ?_;refine zM lah ?_;refine zM lah ?_;refine zV lab ?_;refine zn (zQ ?_);refine zV laq ?_;refine zV laq ?_;refine zV laa ?_;refine zE laf ?_;refine zE laf ?_;refine zV lab ?_;refine zn (zre ?_)
  refine rq ?_
  refine lbW (by exact .inr rfl) (by exact rfl) (by exact rfl) (by exact rfl) (by exact rfl) (by exact rfl) (by exact rfl) (by exact rfl) [] trivial (l' := Tm.zero.c) (k' := Ty.any.c)
    (by exact ⟨.le (.refl _), .le (.refl _), .le (.refl _), .le (.nil _), .le (.refl _), .le (.nil _), .le (.nil _), trivial⟩) (by exact ⟨.le (.refl _), .le (.nil _), trivial⟩) (by exact .le (.refl _)) (by exact trivial) (by exact rfl) (by exact ⟨⟨trivial, trivial, trivial, trivial, trivial, trivial, trivial, trivial⟩, ⟨trivial, trivial, trivial⟩, trivial, trivial⟩) (by exact trivial) (by exact rfl)
set_option maxHeartbeats 1000000 in
theorem as_a (t : Tm) (a b : Ty) (n : Int) : ACalls Tryz.prog 99 [t.u, a.u, b.u, .one (.int .i64 n)] [] (asT t a b n).u [] := by
  refine zB Tryz.func99 ?_
  refine zQ ?_;refine zM lan ?_;refine zM lan ?_;refine zM lan ?_;refine zM lah ?_;refine zn (zq (zQ ?_));refine zV laj ?_;refine zV laj ?_
  refine zV (lal (lfX a b) rfl (by refine ⟨_, _, rfl, (by exact LeU.of_eq rfl zo), (by (exact ⟨zo, zo, zo⟩)), ?_⟩;refine ⟨_, _, rfl, (by exact LeU.of_eq rfl zo), (by (exact ⟨zo, zo, zo⟩)), ?_⟩;exact rfl)) ?_
  cases hs : a.same b with
  | true =>
    refine zn ?_;refine zcT ?_;refine zQ ?_;refine zV laj ?_;refine zE laf ?_;refine zn (zre ?_)
    rw [show asT t a b n = t by unfold asT; rw [hs]; rfl]
    refine rq ?_
    refine lbg (by exact .inr rfl) (by exact rfl) (by exact rfl) (by exact rfl) [] trivial (l' := t.c) (by exact laX _) (by exact ⟨zo, zo, zo, zo, zo, zo, zo, zo⟩) (by exact rfl)
  | false =>
    refine zn ?_;refine zcF ?_;refine zsk (zQ ?_);refine zV laa ?_;refine zV laj ?_;refine zV laj ?_;refine zV laj ?_;refine zV laF ?_;refine zV laq ?_;refine zE laf ?_;refine zn (zre ?_)
    rw [show asT t a b n = .mk 10 n b a [t] by unfold asT; rw [hs]; rfl]
    refine rq ?_
    refine lbg (by exact .inr rfl) (by exact rfl) (by exact rfl) (by exact rfl) [] trivial (l' := (Tm.mk 10 n b a [t]).c) (by exact ⟨.le (.refl _), .le (.refl _), .le (.refl _), .le (.refl _), .le (.refl _), .le (.refl _), .le (LeC.slF (by show LeRows [t.c] (tmRows [t]); simp only [tmRows, Tm.cells_c];exact LeRows.refl _)), zo⟩) (by exact ⟨zo, zo, zo, zo, zo, zo, zo, zo⟩) (by exact rfl)
set_option maxHeartbeats 1000000 in
theorem kidto_a (x : Kid) (w : Ty) : ACalls Tryz.prog 63 [x.u, w.u] [] (tmU (x.to w)) [] := by
  refine zB Tryz.func63 ?_
  refine zQ ?_;refine zM lan ?_;refine zM lan ?_;refine zM lah ?_;refine zV lab ?_;refine zn (zq (zQ ?_));refine zV lad ?_;refine zV (laj rfl rfl (by exact Cut.cons (by exact rfl) (Cut.cons (by exact rfl) Cut.nil))) ?_;refine zV laj ?_
  refine zV (lal (fits_a x.k w) rfl (by refine ⟨_, _, rfl, (by exact LeU.of_eq rfl zo), (by (exact ⟨zo, zo, zo⟩)), ?_⟩;refine ⟨_, _, rfl, (by exact LeU.of_eq rfl zo), (by (exact ⟨zo, zo, zo⟩)), ?_⟩;exact rfl)) ?_
  cases hs : x.k.fits w with
  | false =>
    refine zV laz ?_;refine zn ?_;refine zcT ?_;refine zQ ?_;refine zV laq ?_;refine zE laf ?_;refine zV lab ?_;refine zn (zre ?_)
    rw [show x.to w = none by unfold Kid.to; rw [hs]; rfl]
    refine rq ?_
    refine lbn (by exact .inr rfl) (by exact rfl) (by exact rfl) (by exact rfl) (by exact rfl) [] trivial (l' := Tm.zero.c)
      (by exact ⟨.le (.refl _), .le (.refl _), .le (.refl _), .le (.nil _), .le (.refl _), .le (.nil _), .le (.nil _), trivial⟩) (by exact .le (.refl _)) (by exact trivial) (by exact rfl) (by exact ⟨⟨trivial, trivial, trivial, trivial, trivial, trivial, trivial, trivial⟩, trivial, trivial⟩) (by exact trivial) (by exact rfl)
  | true =>
    refine zV laz ?_;refine zn ?_;refine zcF ?_;refine zsk (zQ ?_);refine zV lad ?_;refine zV (laj rfl rfl (by exact Cut.cons (by exact rfl) (Cut.cons (by exact rfl) (Cut.cons (by exact rfl) (Cut.cons (by exact rfl) (Cut.cons (by exact rfl) (Cut.cons (by exact rfl) (Cut.cons (by exact rfl) Cut.nil)))))))) ?_;refine zV lad ?_;refine zV (laj rfl rfl (by exact Cut.cons (by exact rfl) (Cut.cons (by exact rfl) Cut.nil))) ?_;refine zV laj ?_;refine zV lad ?_;refine zV lae ?_
    refine zV (lal (as_a x.t x.k w x.at') rfl (by refine ⟨_, _, rfl, (by exact LeU.of_eq rfl zo), (by (exact ⟨zo, zo, zo, zo, zo, zo, zo, zo⟩)), ?_⟩;refine ⟨_, _, rfl, (by exact LeU.of_eq rfl zo), (by (exact ⟨zo, zo, zo⟩)), ?_⟩;refine ⟨_, _, rfl, (by exact LeU.of_eq rfl zo), (by (exact ⟨zo, zo, zo⟩)), ?_⟩;refine zC ?_;exact rfl)) ?_
    refine zE laf ?_;refine zV lab ?_;refine zn (zre ?_)
    rw [show x.to w = some (asT x.t x.k w x.at') by unfold Kid.to; rw [hs]; rfl]
    refine rq ?_
    refine lbn (by exact .inr rfl) (by exact rfl) (by exact rfl) (by exact rfl) (by exact rfl) [] trivial (l' := (asT x.t x.k w x.at').c)
      (by exact laX _) (by exact .le (.refl _)) (by exact trivial) (by exact rfl) (by exact ⟨⟨trivial, trivial, trivial, trivial, trivial, trivial, trivial, trivial⟩, trivial, trivial⟩) (by exact trivial) (by exact rfl)
set_option maxHeartbeats 1000000 in
theorem child_a (t : Tm) (env : List Ty) (n m : Int) (r : Option (Tm × Ty))
    (hw : ACalls Tryz.prog 36 [.one (.ptr 1000 0), t.u, .one (slOf 2 (tyRows env))] [(1000, .obj [.int .i64 n])] (walkU r) [(1000, .obj [.int .i64 m])]) :
    ACalls Tryz.prog 58 [.one (.ptr 1000 0), t.u, .one (slOf 2 (tyRows env))] [(1000, .obj [.int .i64 n])] (kidU n r) [(1000, .obj [.int .i64 m])] := by
  refine zB1 Tryz.func58 ?_
  refine zQ ?_;refine zM lan ?_;refine zM lah ?_;refine zV lab ?_;refine zn (zQ ?_);refine zV laa ?_;refine zV lag ?_;refine zV lad ?_;refine zV lae ?_;refine zV lab ?_;refine zn (zQ ?_);refine zV laa ?_;refine zV laj ?_;refine zV laa ?_
  refine zY (lat hw rfl (by refine ⟨_, _, rfl, (by exact LeU.of_eq rfl zo), (by exact Exists.intro _ rfl), ?_⟩;refine ⟨_, _, rfl, (by exact LeU.of_eq rfl zo), (by (exact ⟨zo, zo, zo, zo, zo, zo, zo, zo⟩)), ?_⟩;refine zC ?_;exact rfl) (by exact ⟨rfl, zo⟩) (by exact rfl) (by simp [namesL]) (by exact ⟨⟨zo, zo⟩, zo⟩)) ?_
  cases r with
  | none =>
    refine zV laB ?_;refine zV las ?_;refine zV las ?_;refine zV lar ?_;refine zM lah ?_;refine zM lah ?_;refine zE laf ?_;refine zE laf ?_;refine zV lab ?_;refine zn (zQ ?_);refine zV laj ?_;refine zV laj ?_;refine zV laa ?_;refine zV laq ?_;refine zV laa ?_;refine zE laf ?_;refine zV lab ?_;refine zn (zre ?_)
    refine rq ?_
    refine lbn (by exact .inr rfl) (by exact rfl) (by exact rfl) (by exact rfl) (by exact rfl) [] trivial (l' := (Kid.mk Tm.zero .any n).c)
      (by exact laX _) (by exact .le (.refl _)) (by exact ⟨⟨_, rfl, .refl _⟩, trivial⟩) (by exact rfl) (by exact ⟨⟨trivial, trivial, trivial, trivial, trivial, trivial, trivial, trivial, trivial, trivial, trivial⟩, trivial, trivial⟩) (by exact ⟨⟨trivial, trivial⟩, trivial⟩) (by exact rfl)
  | some q =>
    obtain ⟨x, k⟩ := q
    refine zV laB ?_;refine zV las ?_;refine zV las ?_;refine zV lar ?_;refine zM lah ?_;refine zM lah ?_;refine zE laf ?_;refine zE laf ?_;refine zV lab ?_;refine zn (zQ ?_);refine zV laj ?_;refine zV laj ?_;refine zV laa ?_;refine zV laq ?_;refine zV laa ?_;refine zE laf ?_;refine zV lab ?_;refine zn (zre ?_)
    refine rq ?_
    refine lbn (by exact .inr rfl) (by exact rfl) (by exact rfl) (by exact rfl) (by exact rfl) [] trivial (l' := (Kid.mk x k n).c)
      (by exact laX _) (by exact .le (.refl _)) (by exact ⟨⟨_, rfl, .refl _⟩, trivial⟩) (by exact rfl) (by exact ⟨⟨trivial, trivial, trivial, trivial, trivial, trivial, trivial, trivial, trivial, trivial, trivial⟩, trivial, trivial⟩) (by exact ⟨⟨trivial, trivial⟩, trivial⟩) (by exact rfl)
theorem AW.mid {P : Program} {n : Nat} {x y : Code} {t : Nat → U} {h : Nat → Option Blk} {d : List Nat} {Q : Exit → (Nat → U) → (Nat → Option Blk) → Prop} (M : (Nat → U) → (Nat → Option Blk) → Prop) (hx : AW P n x t h d (ThenQ (fun t h => ∃ t' h', Gh d t h t' h' ∧ M t' h') Q)) (hy : ∀ t h, M t h → AW P n y t h d Q) : AW P n (.seq x y) t h d Q :=
  AW.seq (hx.mono fun e t h q => by
    cases e with
    | normal => obtain ⟨t', h', g, m⟩ := q; exact AW.gh g (hy _ _ m)
    | _ => exact q)
theorem AW.midB {P : Program} {n : Nat} {x y : Code} {t : Nat → U} {h : Nat → Option Blk} {d : List Nat} {Q : Exit → (Nat → U) → (Nat → Option Blk) → Prop} (M : (Nat → U) → (Nat → Option Blk) → Prop) (hx : AW P n x t h d (ThenQ (fun t h => ∃ t' h', Gh d t h t' h' ∧ M t' h') Q)) (hy : ∀ t h, M t h → AW P n y t h d Q) : AW P n x t h d (ThenQ (fun t h => AW P n y t h d Q) Q) :=
  hx.mono fun e t h q => by
    cases e with
    | normal => obtain ⟨t', h', g, m⟩ := q; exact AW.gh g (hy _ _ m)
    | _ => exact q
theorem lcA : ∀ l : List Kid, closedRows (kidRows l) = true
  | [] => rfl
  | a :: l => by
    show closedRows (a.c :: kidRows l) = true
    simp only [closedRows, lcA l, Bool.and_true]; rfl
theorem casts_drop {ks : List Kid} {ws : List Ty} {i : Nat} (h : i < ks.length) (h' : i < ws.length) : casts (ks.drop i) (ws.drop i) = match ks[i].to ws[i] with | none => none | some y => (casts (ks.drop (i + 1)) (ws.drop (i + 1))).map (y :: ·) := by
  rw [List.drop_eq_getElem_cons h, List.drop_eq_getElem_cons h']; simp only [casts]; rfl
theorem lbc : ∀ l : List Tm, closedRows (tmRows l) = true
  | [] => rfl
  | a :: l => by simp only [tmRows, closedRows, Tm.cells_c]; rw [lbc l]; rfl
theorem wants_len {a : Tm} {ar ow : Int} {ks : List Kid} {ws : List Ty} {out : Ty} (hg : a.good ar ow = true) (hl : ks.length = a.l.length) (h : wants a ks = some (ws, out)) : ws.length = ks.length := by
  rcases lbu hg with ⟨e, _⟩ | ⟨e, _⟩ | ⟨e, _⟩ | ⟨e, _, _, p, q, el, _, _⟩ | ⟨e, _, _, p, q, s, el, _⟩ | ⟨e, _, _, p, el, _⟩ | ⟨e, _, _, p, el, _⟩
  · simp [wants, e] at h
  · simp [wants, e] at h
  · simp [wants, e] at h
  · obtain ⟨k0, k1, rfl⟩ := len2 (hl.trans (by rw [el]; rfl))
    rcases e with e | e | e <;> simp [wants, e] at h
    · rw [← h.1]; rfl
    · rw [← h.1]; rfl
    · generalize (if k0.k.k = 0 then (Ty.mk 3 []).ground else k0.k) = g at h
      obtain ⟨_, h⟩ := h
      split at h
      · simp at h; rw [← h.1]; rfl
      · cases h
  · obtain ⟨k0, k1, k2, rfl⟩ := len3 (hl.trans (by rw [el]; rfl))
    simp [wants, e] at h
    rw [← h.2.1]; rfl
  · obtain ⟨k0, rfl⟩ := len1 (hl.trans (by rw [el]; rfl))
    simp [wants, e] at h
    rw [← h.1]; rfl
  · obtain ⟨k0, rfl⟩ := len1 (hl.trans (by rw [el]; rfl))
    simp [wants, e] at h
    rw [← h.1]; rfl
theorem fitL {l : List Tm} {ar ow : Int} (h : goodL l ar ow = true) {x : Tm} (hx : x ∈ l) : x.fit ar ow = true := by
  have := lbB h x hx
  rw [lbd, Bool.and_eq_true] at this
  exact this.1
set_option maxHeartbeats 4000000 in
theorem walk_a : ∀ (a : Tm) (env : List Ty) (n : Int), a.good 0 env.length = true → TmOk a → (∀ t ∈ env, Right t) → 0 ≤ n → n + a.nodes ≤ 1048576 → env.length + a.nodes ≤ 1048576 →
    ACalls Tryz.prog 36 [.one (.ptr 1000 0), a.u, .one (slOf 2 (tyRows env))] [(1000, .obj [.int .i64 n])] (walkU (walkT a env n)) [(1000, .obj [.int .i64 (walkM a env n)])] := by
  intro a
  induction a using Tm.ind' with
  | h a ih =>
  intro env n hg hok he h0 hsz hsz2
  have hnp := lco a
  have hne := lbt a
  have hL := la2 env
  have hgood := hg
  rw [lbd, Bool.and_eq_true] at hg
  refine zB1 Tryz.func36 ?_
  cases h1 : (a.k == 1) with
  | true =>
    have hk : a.k = 1 := by simpa using h1
    have hnum := hg.1
    simp only [Tm.fit, Bool.and_eq_true] at hnum
    have hnum := hnum.2
    unfold Tm.num at hnum
    rw [if_pos h1] at hnum
    simp only [Bool.and_eq_true, decide_eq_true_eq] at hnum
    have hi : env.length - 1 - a.n.toNat < env.length := by omega
    have hr1 := lbb hi
    refine zQ ?_;refine zM lan ?_;refine zM lah ?_;refine zM lah ?_;refine zV lab ?_;refine zn (zQ ?_);refine zV lab ?_;refine zn (zQ ?_);refine zV laa ?_;refine zV lag ?_;refine zV lad ?_;refine zV lae ?_;refine zV laI ?_;refine zV lag ?_;refine zV lad ?_;refine zE laf ?_;refine zn (zQ ?_);refine zV laq ?_;refine zV laq ?_;refine zM lah ?_;refine zM lah ?_;refine zE laf ?_;refine zE laf ?_;refine zn (zq (zQ ?_));refine zV lad ?_;refine zV lae ?_;refine zn (zbl (zQ ?_));refine zV lac ?_;refine zV lab ?_;refine zn ?_;refine zaT ?_;refine zq ?_;refine zRD ?_;refine zV laj ?_;refine zV laa ?_;refine zV laa ?_;refine zV lay ?_;refine zV laJ ?_;refine zV lad ?_;refine zV lae ?_;refine zV laJ ?_
    refine zV (lap (env.length - 1 - a.n.toNat) rfl rfl (by rw [hL]; omega) hr1) ?_
    refine zV lao ?_;refine zE laf ?_;refine zE laf ?_;refine zV lab ?_;refine znD ?_;refine zre ?_
    rw [show walkT a env n = some (a, env[env.length - 1 - a.n.toNat]) by rw [lbi, h1, List.getD_eq_getElem?_getD, List.getElem?_eq_getElem hi]; rfl]
    rw [show walkM a env n = n + 1 by rw [lcW, h1]; rfl]
    refine rq ?_
    refine lbW (by exact .inr rfl) (by exact rfl) (by exact rfl) (by exact rfl) (by exact rfl) (by exact rfl) (by exact rfl) (by exact rfl) [] trivial (l' := a.c) (k' := env[env.length - 1 - a.n.toNat].c)
      (by exact laX _) (by exact laX _) (by exact .le (.refl _)) (by exact ⟨⟨_, rfl, .refl _⟩, trivial⟩) (by exact rfl) (by exact ⟨⟨trivial, trivial, trivial, trivial, trivial, trivial, trivial, trivial⟩, ⟨trivial, trivial, trivial⟩, trivial, trivial⟩) (by exact ⟨⟨trivial, trivial⟩, trivial⟩) (by exact rfl)
  | false =>
  cases h2 : (a.k == 2) with
  | true =>
    refine zQ ?_;refine zM lan ?_;refine zM lah ?_;refine zM lah ?_;refine zV lab ?_;refine zn (zQ ?_);refine zV lab ?_;refine zn (zQ ?_);refine zV laa ?_;refine zV lag ?_;refine zV lad ?_;refine zV lae ?_;refine zV laI ?_;refine zV lag ?_;refine zV lad ?_;refine zE laf ?_;refine zn (zQ ?_);refine zV laq ?_;refine zV laq ?_;refine zM lah ?_;refine zM lah ?_;refine zE laf ?_;refine zE laf ?_;refine zn (zq (zQ ?_));refine zV lad ?_;refine zV lae ?_;refine zn (zbl (zQ ?_));refine zV lac ?_;refine zV lab ?_;refine zn ?_;refine zaF ?_;refine zQ ?_;refine zV lac ?_;refine zV lab ?_;refine zn ?_;refine zaT ?_;refine zq ?_;refine zRD ?_;refine zV laj ?_;refine zV laj ?_;refine zE laf ?_;refine zE laf ?_;refine zV lab ?_;refine znD ?_;refine zre ?_
    rw [show walkT a env n = some (a, .num) by rw [lbi, h1, h2]; rfl]
    rw [show walkM a env n = n + 1 by rw [lcW, h1, h2]; rfl]
    refine rq ?_
    refine lbW (by exact .inr rfl) (by exact rfl) (by exact rfl) (by exact rfl) (by exact rfl) (by exact rfl) (by exact rfl) (by exact rfl) [] trivial (l' := a.c) (k' := Ty.num.c)
      (by exact laX _) (by exact ⟨.le (.refl _), .le (.nil _), trivial⟩) (by exact .le (.refl _)) (by exact ⟨⟨_, rfl, .refl _⟩, trivial⟩) (by exact rfl) (by exact ⟨⟨trivial, trivial, trivial, trivial, trivial, trivial, trivial, trivial⟩, ⟨trivial, trivial, trivial⟩, trivial, trivial⟩) (by exact ⟨⟨trivial, trivial⟩, trivial⟩) (by exact rfl)
  | false =>
  cases h3 : (a.k == 3) with
  | true =>
    refine zQ ?_;refine zM lan ?_;refine zM lah ?_;refine zM lah ?_;refine zV lab ?_;refine zn (zQ ?_);refine zV lab ?_;refine zn (zQ ?_);refine zV laa ?_;refine zV lag ?_;refine zV lad ?_;refine zV lae ?_;refine zV laI ?_;refine zV lag ?_;refine zV lad ?_;refine zE laf ?_;refine zn (zQ ?_);refine zV laq ?_;refine zV laq ?_;refine zM lah ?_;refine zM lah ?_;refine zE laf ?_;refine zE laf ?_;refine zn (zq (zQ ?_));refine zV lad ?_;refine zV lae ?_;refine zn (zbl (zQ ?_));refine zV lac ?_;refine zV lab ?_;refine zn ?_;refine zaF ?_;refine zQ ?_;refine zV lac ?_;refine zV lab ?_;refine zn ?_;refine zaF ?_;refine zQ ?_;refine zV lac ?_;refine zV lab ?_;refine zn ?_;refine zaT ?_;refine zq ?_;refine zRD ?_;refine zV laj ?_;refine zV laj ?_;refine zE laf ?_;refine zE laf ?_;refine zV lab ?_;refine znD ?_;refine zre ?_
    rw [show walkT a env n = some (a, .truth) by rw [lbi, h1, h2, h3]; rfl]
    rw [show walkM a env n = n + 1 by rw [lcW, h1, h2, h3]; rfl]
    refine rq ?_
    refine lbW (by exact .inr rfl) (by exact rfl) (by exact rfl) (by exact rfl) (by exact rfl) (by exact rfl) (by exact rfl) (by exact rfl) [] trivial (l' := a.c) (k' := Ty.truth.c)
      (by exact laX _) (by exact ⟨.le (.refl _), .le (.nil _), trivial⟩) (by exact .le (.refl _)) (by exact ⟨⟨_, rfl, .refl _⟩, trivial⟩) (by exact rfl) (by exact ⟨⟨trivial, trivial, trivial, trivial, trivial, trivial, trivial, trivial⟩, ⟨trivial, trivial, trivial⟩, trivial, trivial⟩) (by exact ⟨⟨trivial, trivial⟩, trivial⟩) (by exact rfl)
  | false =>
  refine zQ ?_;refine zM lan ?_;refine zM lah ?_;refine zM lah ?_;refine zV lab ?_;refine zn (zQ ?_);refine zV lab ?_;refine zn (zQ ?_);refine zV laa ?_;refine zV lag ?_;refine zV lad ?_;refine zV lae ?_;refine zV laI ?_;refine zV lag ?_;refine zV lad ?_;refine zE laf ?_;refine zn (zQ ?_);refine zV laq ?_;refine zV laq ?_;refine zM lah ?_;refine zM lah ?_;refine zE laf ?_;refine zE laf ?_;refine zn (zq (zQ ?_));refine zV lad ?_;refine zV lae ?_;refine zn ?_
  refine AW.midB (fun t h => t = tOfL [(0, .one (.ptr 1000 0)), (2, .one (slOf 2 (tyRows (if a.k == 7 then env ++ [a.t] else env)))), (4, .one (.ptr 4 0)), (6, .one (.ptr 6 0)), (7, .one (.ptr 7 0)), (9, .one (.fn 57)), (10, .one (.ptr 10 0)), (11, .one (.ptr 11 0))] ∧ h = ofL [(1000, .obj [.int .i64 (n + 1)]), (4, .obj a.c), (6, .obj Tm.zero.c), (7, .obj Ty.any.c), (10, .obj Ty.num.c), (11, .obj Ty.truth.c)]) ?_ ?_
  · cases h7 : (a.k == 7) with
    | false =>
      refine zbl (zQ ?_);refine zV lac ?_;refine zV lab ?_;refine zn ?_;refine zaF ?_;refine zQ ?_;refine zV lac ?_;refine zV lab ?_;refine zn ?_;refine zaF ?_;refine zQ ?_;refine zV lac ?_;refine zV lab ?_;refine zn ?_;refine zaF ?_;refine zQ ?_;refine zV lac ?_;refine zV lab ?_;refine zn ?_;refine zaF ?_;refine zsk ?_
      exact ⟨_, _, (laZ [(0, .one (.ptr 1000 0)), (2, .one (slOf 2 (tyRows env))), (4, .one (.ptr 4 0)), (6, .one (.ptr 6 0)), (7, .one (.ptr 7 0)), (9, .one (.fn 57)), (10, .one (.ptr 10 0)), (11, .one (.ptr 11 0))] [(1000, .obj [.int .i64 (n + 1)]), (4, .obj a.c), (6, .obj Tm.zero.c), (7, .obj Ty.any.c), (10, .obj Ty.num.c), (11, .obj Ty.truth.c)] [] [] ⟨(zw rfl zo), (by exact WkU.of_eq rfl zo), (zw rfl zo), (zw rfl zo), (zw rfl zo), (zw rfl zo), (zw rfl zo), (zw rfl zo), zo⟩ ⟨(by exact zb rfl), (by exact zb rfl), (by (refine Or.inl ⟨_, rfl, ?_⟩; show All2 _ _ _; exact ⟨WkC.le (LeC.refl _), WkC.le (LeC.refl _), WkC.le (LeC.refl _), WkC.le (LeC.nil _), WkC.le (LeC.refl _), WkC.le (LeC.nil _), WkC.le (LeC.nil _), zo⟩)), (by (refine Or.inl ⟨_, rfl, ?_⟩; show All2 _ _ _; exact ⟨WkC.le (LeC.refl _), WkC.le (LeC.nil _), zo⟩)), (by (refine Or.inl ⟨_, rfl, ?_⟩; show All2 _ _ _; exact ⟨WkC.le (LeC.refl _), WkC.le (LeC.nil _), zo⟩)), (by (refine Or.inl ⟨_, rfl, ?_⟩; show All2 _ _ _; exact ⟨WkC.le (LeC.refl _), WkC.le (LeC.nil _), zo⟩)), zo⟩ trivial zo rfl rfl ⟨⟨_, rfl⟩, zo, ⟨_, rfl⟩, ⟨_, rfl⟩, ⟨_, rfl⟩, zo, ⟨_, rfl⟩, ⟨_, rfl⟩, zo⟩ ⟨(by exact ⟨zo, zo⟩), (by exact ⟨zo, zo, zo, zo, zo, zo, zo, zo⟩), (by exact ⟨zo, zo, zo, zo, zo, zo, zo, zo⟩), (by exact ⟨zo, zo, zo⟩), (by exact ⟨zo, zo, zo⟩), (by exact ⟨zo, zo, zo⟩), zo⟩), rfl, rfl⟩
    | true =>
      have hx : tyRows (env ++ [a.t]) = tyRows env ++ [a.t.c] := by rw [lcb]; simp [tyRows, Ty.cells_c]
      refine zbl (zQ ?_);refine zV lac ?_;refine zV lab ?_;refine zn ?_;refine zaF ?_;refine zQ ?_;refine zV lac ?_;refine zV lab ?_;refine zn ?_;refine zaF ?_;refine zQ ?_;refine zV lac ?_;refine zV lab ?_;refine zn ?_;refine zaF ?_;refine zQ ?_;refine zV lac ?_;refine zV lab ?_;refine zn ?_;refine zaT ?_;refine zRD ?_;refine zV laa ?_;refine zV laa ?_;refine zV lay ?_;refine zV laa ?_;refine zV lay ?_;refine zV (loc_sliceFull rfl rfl rfl rfl rfl) ?_;refine zV lad ?_;refine zV (laj rfl rfl (by exact Cut.cons (by exact rfl) (Cut.cons (by exact rfl) Cut.nil))) ?_;refine zV laF ?_
      refine zM (ldI (by exact rfl) (by exact rfl) (by exact .inl rfl) (by exact .inl rfl) (by simp) (by exact ⟨rfl, zo⟩) (ldJ _) (by exact rfl) (by exact rfl) (by simp only [List.length_cons, List.length_nil, hL]; omega) (by decide)) ?_
      refine zV lab ?_;refine znD ?_
      exact ⟨_, _, (laZ [(0, .one (.ptr 1000 0)), (2, .one (slOf 2 (tyRows env ++ [a.t.c]))), (4, .one (.ptr 4 0)), (6, .one (.ptr 6 0)), (7, .one (.ptr 7 0)), (9, .one (.fn 57)), (10, .one (.ptr 10 0)), (11, .one (.ptr 11 0))] [(1000, .obj [.int .i64 (n + 1)]), (4, .obj a.c), (6, .obj Tm.zero.c), (7, .obj Ty.any.c), (10, .obj Ty.num.c), (11, .obj Ty.truth.c)] [66] [] ⟨(zw rfl zo), (by exact WkC.row (List.mem_cons_self ..) rfl (by exact List.length_append ..) (by exact LeRows.refl _)), (zw rfl zo), (zw rfl zo), (zw rfl zo), (zw rfl zo), (zw rfl zo), (zw rfl zo), zo⟩ ⟨(by exact zb rfl), (by exact zb rfl), (by (refine Or.inl ⟨_, rfl, ?_⟩; show All2 _ _ _; exact ⟨WkC.le (LeC.refl _), WkC.le (LeC.refl _), WkC.le (LeC.refl _), WkC.le (LeC.nil _), WkC.le (LeC.refl _), WkC.le (LeC.nil _), WkC.le (LeC.nil _), zo⟩)), (by (refine Or.inl ⟨_, rfl, ?_⟩; show All2 _ _ _; exact ⟨WkC.le (LeC.refl _), WkC.le (LeC.nil _), zo⟩)), (by (refine Or.inl ⟨_, rfl, ?_⟩; show All2 _ _ _; exact ⟨WkC.le (LeC.refl _), WkC.le (LeC.nil _), zo⟩)), (by (refine Or.inl ⟨_, rfl, ?_⟩; show All2 _ _ _; exact ⟨WkC.le (LeC.refl _), WkC.le (LeC.nil _), zo⟩)), zo⟩ ⟨⟨_, rfl, (by show closedRows (tyRows env ++ [a.t.c]) = true; rw [← hx]; exact la9 _)⟩, zo⟩ trivial rfl rfl ⟨⟨_, rfl⟩, zo, ⟨_, rfl⟩, ⟨_, rfl⟩, ⟨_, rfl⟩, zo, ⟨_, rfl⟩, ⟨_, rfl⟩, zo⟩ ⟨(by exact ⟨zo, zo⟩), (by exact ⟨zo, zo, zo, zo, zo, zo, zo, zo⟩), (by exact ⟨zo, zo, zo, zo, zo, zo, zo, zo⟩), (by exact ⟨zo, zo, zo⟩), (by exact ⟨zo, zo, zo⟩), (by exact ⟨zo, zo, zo⟩), zo⟩), by rw [if_pos rfl, hx], rfl⟩
  · rintro t h ⟨rfl, rfl⟩
    have hgl := hg.2
    have hfr := lcp hg.1
    have her := env_right hfr he
    have hel : (if a.k == 7 then env ++ [a.t] else env).length ≤ env.length + 1 := by split <;> simp
    rw [← env_len] at hgl
    have hwM : walkM a env n = walkML a.l (if a.k == 7 then env ++ [a.t] else env) (n + 1) := by rw [lcW, h1, h2, h3]; rfl
    have hwT : walkT a env n = match walkL a.l (if a.k == 7 then env ++ [a.t] else env) (n + 1) with
      | none => none
      | some ks => match wants a ks with
        | none => none
        | some (ws, out) => (casts ks ws).map fun l' => (.mk a.k a.n a.t a.f l', out) := by rw [lbi, h1, h2, h3]; rfl
    generalize (if a.k == 7 then env ++ [a.t] else env) = env' at hgl her hel hwM hwT ⊢
    rw [hwM, hwT]
    refine zQ ?_;refine zV lab ?_;refine zn (zq (zQ ?_));refine zV lad ?_;refine zV lae ?_;refine zV lay ?_;refine zV laa ?_;refine zn ?_
    refine AW.midB (fun t h => ∃ ks, walkL a.l env' (n + 1) = some ks ∧ t = tOfL [(0, .one (.ptr 1000 0)), (2, .one (slOf 2 (tyRows env'))), (4, .one (.ptr 4 0)), (6, .one (.ptr 6 0)), (7, .one (.ptr 7 0)), (9, .one (.fn 57)), (10, .one (.ptr 10 0)), (11, .one (.ptr 11 0)), (12, .one (slOf 10 (kidRows ks)))] ∧ h = ofL [(1000, .obj [.int .i64 (n + a.nodes)]), (4, .obj a.c), (6, .obj Tm.zero.c), (7, .obj Ty.any.c), (10, .obj Ty.num.c), (11, .obj Ty.truth.c)]) ?_ ?_
    · refine zbl ?_
      refine AW.gh (laZ [(0, .one (.ptr 1000 0)), (2, .one (slOf 2 (tyRows env'))), (4, .one (.ptr 4 0)), (6, .one (.ptr 6 0)), (7, .one (.ptr 7 0)), (9, .one (.fn 57)), (10, .one (.ptr 10 0)), (11, .one (.ptr 11 0)), (12, .one (.own 105 0 0)), (68, .one (slOf 7 (tmRows a.l))), (69, .one (.int .i64 ((tmRows a.l).length : Nat))), (70, .one (.int .i64 ((0 : Nat) : Int)))] [(1000, .obj [.int .i64 (n + 1)]), (4, .obj a.c), (6, .obj Tm.zero.c), (7, .obj Ty.any.c), (10, .obj Ty.num.c), (11, .obj Ty.truth.c), (105, .row 109 10 0 [])] [] [105] ⟨(zw rfl zo), (by exact WkU.of_eq rfl zo), (zw rfl zo), (zw rfl zo), (zw rfl zo), (zw rfl zo), (zw rfl zo), (zw rfl zo), (by exact WkC.nil (List.mem_cons_self ..)), (by exact WkU.of_eq rfl zo), (zw rfl zo), (zw rfl zo), zo⟩ ⟨(by exact zb rfl), (by exact zb rfl), (by exact zb rfl), (by exact zb rfl), (by exact zb rfl), (by exact zb rfl), (by exact Or.inr ⟨rfl, List.mem_cons_self .., _, _, by decide, rfl⟩), zo⟩ trivial ⟨rfl, zo⟩ rfl rfl ⟨⟨_, rfl⟩, zo, ⟨_, rfl⟩, ⟨_, rfl⟩, ⟨_, rfl⟩, zo, ⟨_, rfl⟩, ⟨_, rfl⟩, ⟨_, _, _, _, rfl, Nat.le_refl _⟩, zo, zo, zo, zo⟩ ⟨(by exact ⟨zo, zo⟩), (by exact ⟨zo, zo, zo, zo, zo, zo, zo, zo⟩), (by exact ⟨zo, zo, zo, zo, zo, zo, zo, zo⟩), (by exact ⟨zo, zo, zo⟩), (by exact ⟨zo, zo, zo⟩), (by exact ⟨zo, zo, zo⟩), (laY (by exact rfl)), zo⟩) ?_
      refine AW.lenSl 68 rfl fun hmax => ?_
      refine AW.loop (fun m t h => ∃ (i : Nat) (ks : List Kid), i ≤ a.l.length ∧ m = a.l.length - i ∧ ks.length = i ∧ walkL a.l env' (n + 1) = (walkL (a.l.drop i) env' (n + 1 + nodesL (a.l.take i))).map (ks ++ ·) ∧ walkML a.l env' (n + 1) = walkML (a.l.drop i) env' (n + 1 + nodesL (a.l.take i)) ∧ t = tOfL [(0, .one (.ptr 1000 0)), (2, .one (slOf 2 (tyRows env'))), (4, .one (.ptr 4 0)), (6, .one (.ptr 6 0)), (7, .one (.ptr 7 0)), (9, .one (.fn 57)), (10, .one (.ptr 10 0)), (11, .one (.ptr 11 0)), (12, .one (.own 105 (i) (i))), (68, .one (slOf 7 (tmRows a.l))), (69, .one (.int .i64 ((tmRows a.l).length : Nat))), (70, .one (.int .i64 ((i : Nat) : Int)))] ∧ h = ofL [(1000, .obj [.int .i64 (n + 1 + nodesL (a.l.take (i)))]), (4, .obj a.c), (6, .obj Tm.zero.c), (7, .obj Ty.any.c), (10, .obj Ty.num.c), (11, .obj Ty.truth.c), (105, .row 109 10 (i) (kidRows ks))]) a.l.length ⟨0, [], Nat.zero_le _, rfl, rfl, by simp [nodesL], by simp [nodesL], rfl, by simp [nodesL, kidRows]⟩ ?_
      rintro m t h ⟨i, ks, hi, rfl, hks, hw1, hw2, rfl, rfl⟩
      have hL := la7 a.l
      cases hlt : decide ((i : Int) < ((tmRows a.l).length : Nat)) with
      | false =>
        have hil : i = a.l.length := by simp at hlt; omega
        have htk : (kidRows ks).length = i := by rw [kidRows, List.length_map, hks]
        have hwl : walkL a.l env' (n + 1) = some ks := by rw [hw1, hil, List.drop_length]; simp [walkL]
        have hnl : n + 1 + ((nodesL (a.l.take i) : Nat) : Int) = n + (a.nodes : Nat) := by rw [hil, List.take_length]; omega
        refine zQ ?_;refine zV lac ?_;refine zn (zq ?_);refine zaF ?_;refine zex ?_
        rw [hnl]
        exact ⟨_, _, (laZ [(0, .one (.ptr 1000 0)), (2, .one (slOf 2 (tyRows env'))), (4, .one (.ptr 4 0)), (6, .one (.ptr 6 0)), (7, .one (.ptr 7 0)), (9, .one (.fn 57)), (10, .one (.ptr 10 0)), (11, .one (.ptr 11 0)), (12, .one (slOf 10 (kidRows ks)))] [(1000, .obj [.int .i64 (n + (a.nodes : Nat))]), (4, .obj a.c), (6, .obj Tm.zero.c), (7, .obj Ty.any.c), (10, .obj Ty.num.c), (11, .obj Ty.truth.c)] [105] [] ⟨(zw rfl zo), (by exact WkU.of_eq rfl zo), (zw rfl zo), (zw rfl zo), (zw rfl zo), (zw rfl zo), (zw rfl zo), (zw rfl zo), (by exact WkC.row (List.mem_cons_self ..) rfl (by assumption) (by exact LeRows.refl _)), zo⟩ ⟨(by exact zb rfl), (by exact zb rfl), (by exact zb rfl), (by exact zb rfl), (by exact zb rfl), (by exact zb rfl), zo⟩ ⟨⟨_, rfl, lcA ks⟩, zo⟩ trivial rfl rfl ⟨⟨_, rfl⟩, zo, ⟨_, rfl⟩, ⟨_, rfl⟩, ⟨_, rfl⟩, zo, ⟨_, rfl⟩, ⟨_, rfl⟩, zo, zo⟩ ⟨(by exact ⟨zo, zo⟩), (by exact ⟨zo, zo, zo, zo, zo, zo, zo, zo⟩), (by exact ⟨zo, zo, zo, zo, zo, zo, zo, zo⟩), (by exact ⟨zo, zo, zo⟩), (by exact ⟨zo, zo, zo⟩), (by exact ⟨zo, zo, zo⟩), zo⟩), ks, hwl, rfl, rfl⟩
      | true =>
        have hil : i < a.l.length := by simp at hlt; omega
        have hr1 := lbJ hil
        have hmem : a.l[i] ∈ a.l := List.getElem_mem hil
        have hnt := ldy hil
        have hnl := lcy a.l (i + 1)
        have hch := child_a a.l[i] env' (n + 1 + nodesL (a.l.take i)) (walkM a.l[i] env' (n + 1 + nodesL (a.l.take i))) (walkT a.l[i] env' (n + 1 + nodesL (a.l.take i)))
          (ih a.l[i] hmem env' _ (lbB hgl _ hmem) (hok.l _ hmem) her (by omega) (by omega) (by omega))
        rw [walkL_drop hil] at hw1
        rw [walkML_drop hil] at hw2
        refine zQ ?_;refine zV lac ?_;refine zn (zq ?_);refine zaT ?_;refine zsk (zq (zbl (zQ ?_)));refine zV (lap _) ?_;refine zV lao ?_;refine zM lah ?_;refine zE laf ?_;refine zn (zQ ?_);refine zV laa ?_;refine zV laj ?_;refine zV laa ?_
        refine zY (lat hch rfl (by refine ⟨_, _, rfl, (by exact LeU.of_eq rfl zo), (by exact Exists.intro _ rfl), ?_⟩;refine ⟨_, _, rfl, (by exact LeU.of_eq rfl zo), (by (exact ⟨zo, zo, zo, zo, zo, zo, zo, zo⟩)), ?_⟩;refine zC ?_;exact rfl) (by exact ⟨rfl, zo⟩) (by exact rfl) (by simp [namesL]) (by exact ⟨⟨zo, zo⟩, zo⟩)) ?_
        cases hq : walkT a.l[i] env' (n + 1 + nodesL (a.l.take i)) with
        | none =>
          rw [hq] at hw1 hw2
          dsimp only at hw1 hw2
          refine zV laB ?_;refine zV las ?_;refine zV lar ?_;refine zM lah ?_;refine zE laf ?_;refine zV lab ?_;refine zn (zq (zQ ?_));refine zV laa ?_;refine zV lac ?_;refine zn ?_;refine zcT ?_;refine zQ ?_;refine zV laa ?_;refine zV laa ?_
          refine zV (lal (none_a 2) rfl (by refine zC ?_;exact rfl)) ?_
          refine zV las ?_;refine zV las ?_;refine zV lar ?_;refine zE laf ?_;refine zE laf ?_;refine zV lab ?_;refine zn (zre ?_)
          rw [hw1, hw2]
          refine rq ?_
          refine lbW (by exact .inr rfl) (by exact rfl) (by exact rfl) (by exact rfl) (by exact rfl) (by exact rfl) (by exact rfl) (by exact rfl) [] trivial (l' := Tm.zero.c) (k' := Ty.any.c)
            (by exact laX _) (by exact laX _) (by exact .le (.refl _)) (by exact ⟨⟨_, rfl, .refl _⟩, trivial⟩) (by exact rfl) (by exact ⟨⟨trivial, trivial, trivial, trivial, trivial, trivial, trivial, trivial⟩, ⟨trivial, trivial, trivial⟩, trivial, trivial⟩) (by exact ⟨⟨trivial, trivial⟩, trivial⟩) (by exact rfl)
        | some q =>
          obtain ⟨x, k⟩ := q
          rw [hq] at hw1 hw2
          dsimp only at hw1 hw2
          have hnn := lb3 a.l
          have htk : (kidRows ks).length = i := by rw [kidRows, List.length_map, hks]
          refine zV laB ?_;refine zV las ?_;refine zV lar ?_;refine zM lah ?_;refine zE laf ?_;refine zV lab ?_;refine zn (zq (zQ ?_));refine zV laa ?_;refine zV lac ?_;refine zn ?_;refine zcF ?_;refine zsk (zR ?_);refine zV laa ?_;refine zV laj ?_;refine zV laF ?_
          refine zM (laK (by exact rfl) (by exact rfl) (by exact rfl) (by exact .inl rfl) (by exact htk) (by exact ⟨rfl, zo⟩) (by simp only [List.length_cons, List.length_nil]; omega)) ?_
          have hrows : kidRows ks ++ [(Kid.mk x k (n + 1 + nodesL (a.l.take i))).c] = kidRows (ks ++ [Kid.mk x k (n + 1 + nodesL (a.l.take i))]) := by
            simp [kidRows]
          rw [hrows]
          have hm : walkM a.l[i] env' (n + 1 + nodesL (a.l.take i)) = n + 1 + nodesL (a.l.take (i + 1)) := by
            rw [walkM_some (fitL hgl hmem) hq, hnt]; omega
          rw [hm]
          refine zV lab ?_;refine zn (zR ?_);refine zV laD ?_;refine zV laa ?_;refine zn ?_
          exact ⟨a.l.length - (i + 1), _, _, by omega, (laZ [(0, .one (.ptr 1000 0)), (2, .one (slOf 2 (tyRows env'))), (4, .one (.ptr 4 0)), (6, .one (.ptr 6 0)), (7, .one (.ptr 7 0)), (9, .one (.fn 57)), (10, .one (.ptr 10 0)), (11, .one (.ptr 11 0)), (12, .one (.own 105 (i + 1) (i + 1))), (68, .one (slOf 7 (tmRows a.l))), (69, .one (.int .i64 ((tmRows a.l).length : Nat))), (70, .one (.int .i64 ((i + 1 : Nat) : Int)))] [(1000, .obj [.int .i64 (n + 1 + nodesL (a.l.take (i + 1)))]), (4, .obj a.c), (6, .obj Tm.zero.c), (7, .obj Ty.any.c), (10, .obj Ty.num.c), (11, .obj Ty.truth.c), (105, .row 109 10 (i + 1) (kidRows (ks ++ [Kid.mk x k (n + 1 + nodesL (a.l.take i))])))] [] [] ⟨(zw rfl zo), (by exact WkU.of_eq rfl zo), (zw rfl zo), (zw rfl zo), (zw rfl zo), (zw rfl zo), (zw rfl zo), (zw rfl zo), (by exact WkU.of_eq rfl zo), (by exact WkU.of_eq rfl zo), (zw rfl zo), (zw rfl zo), zo⟩ ⟨(by exact zb rfl), (by exact zb rfl), (by exact zb rfl), (by exact zb rfl), (by exact zb rfl), (by exact zb rfl), (by exact zb rfl), zo⟩ trivial zo rfl rfl ⟨⟨_, rfl⟩, zo, ⟨_, rfl⟩, ⟨_, rfl⟩, ⟨_, rfl⟩, zo, ⟨_, rfl⟩, ⟨_, rfl⟩, ⟨_, _, _, _, rfl, Nat.le_refl _⟩, zo, zo, zo, zo⟩ ⟨(by exact ⟨zo, zo⟩), (by exact ⟨zo, zo, zo, zo, zo, zo, zo, zo⟩), (by exact ⟨zo, zo, zo, zo, zo, zo, zo, zo⟩), (by exact ⟨zo, zo, zo⟩), (by exact ⟨zo, zo, zo⟩), (by exact ⟨zo, zo, zo⟩), (laY (by exact lcA _)), zo⟩), i + 1, ks ++ [Kid.mk x k (n + 1 + nodesL (a.l.take i))], by omega, rfl, by simp [hks], by
            rw [hw1, hnt, show n + 1 + ((nodesL (a.l.take i) + a.l[i].nodes : Nat) : Int) = n + 1 + nodesL (a.l.take i) + a.l[i].nodes by omega]; cases walkL (a.l.drop (i + 1)) env' (n + 1 + nodesL (a.l.take i) + a.l[i].nodes) <;> simp, by
            rw [hw2, hnt, show n + 1 + ((nodesL (a.l.take i) + a.l[i].nodes : Nat) : Int) = n + 1 + nodesL (a.l.take i) + a.l[i].nodes by omega], rfl, rfl⟩
    · rintro t h ⟨ks, hw, rfl, rfl⟩
      have hkl := lcX hw
      have hkr : ∀ x ∈ ks, Right x.k := lcL (fun t ht m x k hw => ld2 t env' m x k (lbB hgl t ht) her hw) hw
      have hkn : (kidRows ks).length = ks.length := List.length_map ..
      have hnn := lb3 a.l
      rw [hw, ldz hw, show n + 1 + ((nodesL a.l : Nat) : Int) = n + (a.nodes : Nat) by omega]
      dsimp only
      have hws : ∀ {ws out}, wants a ks = some (ws, out) → ws.length = ks.length := fun h => wants_len hgood (hkl) h
      refine zQ ?_;refine zV laa ?_;refine zV lay ?_
      refine zM (loc_makeD (n := (kidRows ks).length) (by exact rfl) (by exact rfl) (by exact rfl) (by exact rfl) (by omega) (by unfold maxLen; omega)) ?_
      rw [hkn]
      refine zV lab ?_;refine zn (zQ ?_);refine zV laj ?_;refine zM lah ?_;refine zE laf ?_;refine zn (zq (zQ ?_));refine zV lad ?_;refine zV lae ?_;refine zn ?_
      refine AW.midB (fun t h => ∃ ws out, wants a ks = some (ws, out) ∧ t = tOfL [(0, .one (.ptr 1000 0)), (2, .one (slOf 2 (tyRows env'))), (4, .one (.ptr 4 0)), (6, .one (.ptr 6 0)), (7, .one (.ptr 7 0)), (9, .one (.fn 57)), (10, .one (.ptr 10 0)), (11, .one (.ptr 11 0)), (12, .one (slOf 10 (kidRows ks))), (17, .one (slOf 2 (tyRows ws))), (18, .one (.ptr 18 0))] ∧ h = ofL [(1000, .obj [.int .i64 (n + (a.nodes : Nat))]), (4, .obj a.c), (6, .obj Tm.zero.c), (7, .obj Ty.any.c), (10, .obj Ty.num.c), (11, .obj Ty.truth.c), (18, .obj out.c)]) ?_ ?_
      · rcases lbu hgood with ⟨e, _⟩ | ⟨e, _⟩ | ⟨e, _⟩ | ⟨e, _, _, p, q, el, _, _⟩ | ⟨e, _, _, p, q, s, el, _⟩ | ⟨e, _, _, p, el, _⟩ | ⟨e, _, _, p, el, _⟩
        · simp [e] at h1
        · simp [e] at h2
        · simp [e] at h3
        · obtain ⟨k0, k1, rfl⟩ := len2 (hkl.trans (by rw [el]; rfl))
          have hr0 : (kidRows [k0, k1])[0]? = some k0.c := rfl
          have hr1 : (kidRows [k0, k1])[1]? = some k1.c := rfl
          rw [show ([k0, k1] : List Kid).length = 2 from rfl]
          rcases e with e | e | e
          · have k4 : (a.k == 4) = true := by rw [e]; rfl
            have k5 : (a.k == 5) = false := by rw [e]; rfl
            refine zbl (zq (zQ ?_));refine zV lac ?_;refine zV lab ?_;refine zn ?_;refine zaT ?_;refine zsk ?_;refine zaT ?_;refine zq ?_;refine zRD ?_;refine zV laa ?_;refine zV laa ?_;refine zV laj ?_;refine zV laj ?_;refine zV (laG 0) ?_;refine zE laH ?_;refine zV (laG 1) ?_;refine zE laH ?_;refine znD ?_;refine zQ ?_;refine zV lad ?_;refine zV lae ?_;refine zV lac ?_;refine zn ?_;refine zaF ?_;refine zsk ?_
            exact ⟨_, _, (laZ [(0, .one (.ptr 1000 0)), (2, .one (slOf 2 (tyRows env'))), (4, .one (.ptr 4 0)), (6, .one (.ptr 6 0)), (7, .one (.ptr 7 0)), (9, .one (.fn 57)), (10, .one (.ptr 10 0)), (11, .one (.ptr 11 0)), (12, .one (slOf 10 (kidRows _))), (17, .one (slOf 2 (List.map Ty.c [Ty.num, Ty.num]))), (18, .one (.ptr 18 0))] [(1000, .obj [.int .i64 (n + (a.nodes : Nat))]), (4, .obj a.c), (6, .obj Tm.zero.c), (7, .obj Ty.any.c), (10, .obj Ty.num.c), (11, .obj Ty.truth.c), (18, .obj (Ty.num.c))] [96] [] ⟨(zw rfl zo), (by exact WkU.of_eq rfl zo), (zw rfl zo), (zw rfl zo), (zw rfl zo), (zw rfl zo), (zw rfl zo), (zw rfl zo), (by exact WkU.of_eq rfl zo), (by exact WkC.row (List.mem_cons_self ..) rfl (by exact rfl) (by exact LeRows.refl _)), (zw rfl zo), zo⟩ ⟨(by exact zb rfl), (by exact zb rfl), (by exact zb rfl), (by exact zb rfl), (by exact zb rfl), (by exact zb rfl), (by exact zb rfl), zo⟩ ⟨⟨_, rfl, rfl⟩, zo⟩ trivial rfl rfl ⟨⟨_, rfl⟩, zo, ⟨_, rfl⟩, ⟨_, rfl⟩, ⟨_, rfl⟩, zo, ⟨_, rfl⟩, ⟨_, rfl⟩, zo, zo, ⟨_, rfl⟩, zo⟩ ⟨(by exact ⟨zo, zo⟩), (by exact ⟨zo, zo, zo, zo, zo, zo, zo, zo⟩), (by exact ⟨zo, zo, zo, zo, zo, zo, zo, zo⟩), (by exact ⟨zo, zo, zo⟩), (by exact ⟨zo, zo, zo⟩), (by exact ⟨zo, zo, zo⟩), (by exact ⟨zo, zo, zo⟩), zo⟩), [.num, .num], .num, by simp [wants, e], by simp only [lba], rfl⟩
          · have k4 : (a.k == 4) = false := by rw [e]; rfl
            have k5 : (a.k == 5) = true := by rw [e]; rfl
            refine zbl (zq (zQ ?_));refine zV lac ?_;refine zV lab ?_;refine zn ?_;refine zaF ?_;refine zR ?_;refine zV lac ?_;refine zV lab ?_;refine zn ?_;refine zaT ?_;refine zq ?_;refine zRD ?_;refine zV laa ?_;refine zV laa ?_;refine zV laj ?_;refine zV laj ?_;refine zV (laG 0) ?_;refine zE laH ?_;refine zV (laG 1) ?_;refine zE laH ?_;refine znD ?_;refine zQ ?_;refine zV lad ?_;refine zV lae ?_;refine zV lac ?_;refine zn ?_;refine zaT ?_;refine zR ?_;refine zV laj ?_;refine zE laf ?_;refine zn ?_
            exact ⟨_, _, (laZ [(0, .one (.ptr 1000 0)), (2, .one (slOf 2 (tyRows env'))), (4, .one (.ptr 4 0)), (6, .one (.ptr 6 0)), (7, .one (.ptr 7 0)), (9, .one (.fn 57)), (10, .one (.ptr 10 0)), (11, .one (.ptr 11 0)), (12, .one (slOf 10 (kidRows _))), (17, .one (slOf 2 (List.map Ty.c [Ty.num, Ty.num]))), (18, .one (.ptr 18 0))] [(1000, .obj [.int .i64 (n + (a.nodes : Nat))]), (4, .obj a.c), (6, .obj Tm.zero.c), (7, .obj Ty.any.c), (10, .obj Ty.num.c), (11, .obj Ty.truth.c), (18, .obj (Ty.truth.c))] [96] [] ⟨(zw rfl zo), (by exact WkU.of_eq rfl zo), (zw rfl zo), (zw rfl zo), (zw rfl zo), (zw rfl zo), (zw rfl zo), (zw rfl zo), (by exact WkU.of_eq rfl zo), (by exact WkC.row (List.mem_cons_self ..) rfl (by exact rfl) (by exact LeRows.refl _)), (zw rfl zo), zo⟩ ⟨(by exact zb rfl), (by exact zb rfl), (by exact zb rfl), (by exact zb rfl), (by exact zb rfl), (by exact zb rfl), (by exact zb rfl), zo⟩ ⟨⟨_, rfl, rfl⟩, zo⟩ trivial rfl rfl ⟨⟨_, rfl⟩, zo, ⟨_, rfl⟩, ⟨_, rfl⟩, ⟨_, rfl⟩, zo, ⟨_, rfl⟩, ⟨_, rfl⟩, zo, zo, ⟨_, rfl⟩, zo⟩ ⟨(by exact ⟨zo, zo⟩), (by exact ⟨zo, zo, zo, zo, zo, zo, zo, zo⟩), (by exact ⟨zo, zo, zo, zo, zo, zo, zo, zo⟩), (by exact ⟨zo, zo, zo⟩), (by exact ⟨zo, zo, zo⟩), (by exact ⟨zo, zo, zo⟩), (by exact ⟨zo, zo, zo⟩), zo⟩), [.num, .num], .truth, by simp [wants, e], by simp only [lba], rfl⟩
          · have k4 : (a.k == 4) = false := by rw [e]; rfl
            have k5 : (a.k == 5) = false := by rw [e]; rfl
            have k6 : (a.k == 6) = false := by rw [e]; rfl
            have k7 : (a.k == 7) = false := by rw [e]; rfl
            have k8 : (a.k == 8) = true := by rw [e]; rfl
            have hr : Right k0.k := hkr _ (List.mem_cons_self ..)
            cases k0k : (k0.k.k == 0) with
            | true =>
              have hgr : ACalls Tryz.prog 62 [(Ty.mk 3 []).u] [] (Ty.to .any .any).u [] := lfy (.mk 3 [])
              have q0 : (tyRows (Ty.to .any .any).l)[0]? = some Ty.any.c := rfl
              have q1 : (tyRows (Ty.to .any .any).l)[1]? = some Ty.any.c := rfl
              refine zbl (zq (zQ ?_));refine zV lac ?_;refine zV lab ?_;refine zn ?_;refine zaF ?_;refine zR ?_;refine zV lac ?_;refine zV lab ?_;refine zn ?_;refine zaF ?_;refine zQ ?_;refine zV lac ?_;refine zV lab ?_;refine zn ?_;refine zaF ?_;refine zQ ?_;refine zV lac ?_;refine zV lab ?_;refine zn ?_;refine zaF ?_;refine zQ ?_;refine zV lac ?_;refine zV lab ?_;refine zn ?_;refine zaT ?_;refine zQ ?_;refine zV laa ?_;refine zV (lap _) ?_;refine zV lak ?_;refine zV (lao rfl (by exact Cut.cons (by exact rfl) (Cut.cons (by exact rfl) Cut.nil))) ?_;refine zM lah ?_;refine zE laf ?_;refine zn (zq (zQ ?_));refine zV lad ?_;refine zV lae ?_;refine zV lac ?_;refine zn ?_;refine zaT ?_;refine zR ?_;refine zV laq ?_
              refine zV (lal hgr rfl (by refine ⟨_, _, rfl, (by (refine LeU.agg' rfl ?_;exact ⟨LeC.refl _, LeC.nil _, zo⟩)), (by (exact ⟨zo, zo, zo⟩)), ?_⟩;exact rfl)) ?_
              refine zE laf ?_;refine zn (zq (zQ ?_));refine zV lad ?_;refine zV lae ?_;refine zV lac ?_;refine zn ?_;refine zcF ?_;refine zsk ?_;refine zRD ?_;refine zV laa ?_;refine zV laa ?_;refine zV laj ?_;refine zV lad ?_;refine zV lae ?_;refine zV (lap _) ?_;refine zV lao ?_;refine zV lad ?_;refine zV lae ?_;refine zV (lap _) ?_;refine zV lao ?_;refine zV (laG 0) ?_;refine zE laH ?_;refine zV (laG 1) ?_;refine zE laH ?_;refine zE laf ?_;refine znD ?_
              exact ⟨_, _, (laZ [(0, .one (.ptr 1000 0)), (2, .one (slOf 2 (tyRows env'))), (4, .one (.ptr 4 0)), (6, .one (.ptr 6 0)), (7, .one (.ptr 7 0)), (9, .one (.fn 57)), (10, .one (.ptr 10 0)), (11, .one (.ptr 11 0)), (12, .one (slOf 10 (kidRows _))), (17, .one (slOf 2 (List.map Ty.c [Ty.to .any .any, Ty.any]))), (18, .one (.ptr 18 0))] [(1000, .obj [.int .i64 (n + (a.nodes : Nat))]), (4, .obj a.c), (6, .obj Tm.zero.c), (7, .obj Ty.any.c), (10, .obj Ty.num.c), (11, .obj Ty.truth.c), (18, .obj (Ty.any.c))] [96] [] ⟨(zw rfl zo), (by exact WkU.of_eq rfl zo), (zw rfl zo), (zw rfl zo), (zw rfl zo), (zw rfl zo), (zw rfl zo), (zw rfl zo), (by exact WkU.of_eq rfl zo), (by exact WkC.row (List.mem_cons_self ..) rfl (by exact rfl) (by exact LeRows.refl _)), (zw rfl zo), zo⟩ ⟨(by exact zb rfl), (by exact zb rfl), (by exact zb rfl), (by exact zb rfl), (by exact zb rfl), (by exact zb rfl), (by exact zb rfl), zo⟩ ⟨⟨_, rfl, rfl⟩, zo⟩ trivial rfl rfl ⟨⟨_, rfl⟩, zo, ⟨_, rfl⟩, ⟨_, rfl⟩, ⟨_, rfl⟩, zo, ⟨_, rfl⟩, ⟨_, rfl⟩, zo, zo, ⟨_, rfl⟩, zo⟩ ⟨(by exact ⟨zo, zo⟩), (by exact ⟨zo, zo, zo, zo, zo, zo, zo, zo⟩), (by exact ⟨zo, zo, zo, zo, zo, zo, zo, zo⟩), (by exact ⟨zo, zo, zo⟩), (by exact ⟨zo, zo, zo⟩), (by exact ⟨zo, zo, zo⟩), (by exact ⟨zo, zo, zo⟩), zo⟩), [.to .any .any, .any], .any, by simp [wants, e, k0k]; exact ⟨rfl, rfl⟩, by simp only [lba], rfl⟩
            | false =>
            cases k03 : (k0.k.k != 3) with
            | true =>
              refine zbl (zq (zQ ?_));refine zV lac ?_;refine zV lab ?_;refine zn ?_;refine zaF ?_;refine zR ?_;refine zV lac ?_;refine zV lab ?_;refine zn ?_;refine zaF ?_;refine zQ ?_;refine zV lac ?_;refine zV lab ?_;refine zn ?_;refine zaF ?_;refine zQ ?_;refine zV lac ?_;refine zV lab ?_;refine zn ?_;refine zaF ?_;refine zQ ?_;refine zV lac ?_;refine zV lab ?_;refine zn ?_;refine zaT ?_;refine zQ ?_;refine zV laa ?_;refine zV (lap _) ?_;refine zV lak ?_;refine zV (lao rfl (by exact Cut.cons (by exact rfl) (Cut.cons (by exact rfl) Cut.nil))) ?_;refine zM lah ?_;refine zE laf ?_;refine zn (zq (zQ ?_));refine zV lad ?_;refine zV lae ?_;refine zV lac ?_;refine zn ?_;refine zaF ?_;refine zsk (zq (zQ ?_));refine zV lad ?_;refine zV lae ?_;refine zV lac ?_;refine zn ?_;refine zaT ?_;refine zQ ?_;refine zV laa ?_
              refine zV (lal (none_a 2) rfl (by refine zC ?_;exact rfl)) ?_
              refine zV las ?_;refine zV las ?_;refine zV lar ?_;refine zE laf ?_;refine zE laf ?_;refine zV lab ?_;refine zn (zre ?_)
              rw [show wants a [k0, k1] = none by simp at k0k k03; simp [wants, e, k0k, k03]]
              refine rq ?_
              refine lbW (by exact .inr rfl) (by exact rfl) (by exact rfl) (by exact rfl) (by exact rfl) (by exact rfl) (by exact rfl) (by exact rfl) [] trivial (l' := Tm.zero.c) (k' := Ty.any.c)
                (by exact laX _) (by exact laX _) (by exact .le (.refl _)) (by exact ⟨⟨_, rfl, .refl _⟩, trivial⟩) (by exact rfl) (by exact ⟨⟨trivial, trivial, trivial, trivial, trivial, trivial, trivial, trivial⟩, ⟨trivial, trivial, trivial⟩, trivial, trivial⟩) (by exact ⟨⟨trivial, trivial⟩, trivial⟩) (by exact rfl)
            | false =>
              have k03' : k0.k.k = 3 := by simpa using k03
              obtain ⟨x, y, hxy⟩ := len2 (hr.two k03')
              have q0 : (tyRows k0.k.l)[0]? = some x.c := by rw [hxy]; simp [tyRows, Ty.cells_c]
              have q1 : (tyRows k0.k.l)[1]? = some y.c := by rw [hxy]; simp [tyRows, Ty.cells_c]
              refine zbl (zq (zQ ?_));refine zV lac ?_;refine zV lab ?_;refine zn ?_;refine zaF ?_;refine zR ?_;refine zV lac ?_;refine zV lab ?_;refine zn ?_;refine zaF ?_;refine zQ ?_;refine zV lac ?_;refine zV lab ?_;refine zn ?_;refine zaF ?_;refine zQ ?_;refine zV lac ?_;refine zV lab ?_;refine zn ?_;refine zaF ?_;refine zQ ?_;refine zV lac ?_;refine zV lab ?_;refine zn ?_;refine zaT ?_;refine zQ ?_;refine zV laa ?_;refine zV (lap _) ?_;refine zV lak ?_;refine zV (lao rfl (by exact Cut.cons (by exact rfl) (Cut.cons (by exact rfl) Cut.nil))) ?_;refine zM lah ?_;refine zE laf ?_;refine zn (zq (zQ ?_));refine zV lad ?_;refine zV lae ?_;refine zV lac ?_;refine zn ?_;refine zaF ?_;refine zsk (zq (zQ ?_));refine zV lad ?_;refine zV lae ?_;refine zV lac ?_;refine zn ?_;refine zaF ?_;refine zsk ?_;refine zRD ?_;refine zV laa ?_;refine zV laa ?_;refine zV laj ?_;refine zV lad ?_;refine zV lae ?_;refine zV (lap _) ?_;refine zV lao ?_;refine zV lad ?_;refine zV lae ?_;refine zV (lap _) ?_;refine zV lao ?_;refine zV (laG 0) ?_;refine zE laH ?_;refine zV (laG 1) ?_;refine zE laH ?_;refine zE laf ?_;refine znD ?_
              exact ⟨_, _, (laZ [(0, .one (.ptr 1000 0)), (2, .one (slOf 2 (tyRows env'))), (4, .one (.ptr 4 0)), (6, .one (.ptr 6 0)), (7, .one (.ptr 7 0)), (9, .one (.fn 57)), (10, .one (.ptr 10 0)), (11, .one (.ptr 11 0)), (12, .one (slOf 10 (kidRows _))), (17, .one (slOf 2 (List.map Ty.c [k0.k, x]))), (18, .one (.ptr 18 0))] [(1000, .obj [.int .i64 (n + (a.nodes : Nat))]), (4, .obj a.c), (6, .obj Tm.zero.c), (7, .obj Ty.any.c), (10, .obj Ty.num.c), (11, .obj Ty.truth.c), (18, .obj (y.c))] [96] [] ⟨(zw rfl zo), (by exact WkU.of_eq rfl zo), (zw rfl zo), (zw rfl zo), (zw rfl zo), (zw rfl zo), (zw rfl zo), (zw rfl zo), (by exact WkU.of_eq rfl zo), (by exact WkC.row (List.mem_cons_self ..) rfl (by exact rfl) (by exact LeRows.refl _)), (zw rfl zo), zo⟩ ⟨(by exact zb rfl), (by exact zb rfl), (by exact zb rfl), (by exact zb rfl), (by exact zb rfl), (by exact zb rfl), (by exact zb rfl), zo⟩ ⟨⟨_, rfl, rfl⟩, zo⟩ trivial rfl rfl ⟨⟨_, rfl⟩, zo, ⟨_, rfl⟩, ⟨_, rfl⟩, ⟨_, rfl⟩, zo, ⟨_, rfl⟩, ⟨_, rfl⟩, zo, zo, ⟨_, rfl⟩, zo⟩ ⟨(by exact ⟨zo, zo⟩), (by exact ⟨zo, zo, zo, zo, zo, zo, zo, zo⟩), (by exact ⟨zo, zo, zo, zo, zo, zo, zo, zo⟩), (by exact ⟨zo, zo, zo⟩), (by exact ⟨zo, zo, zo⟩), (by exact ⟨zo, zo, zo⟩), (by exact ⟨zo, zo, zo⟩), zo⟩), [k0.k, x], y, by simp at k0k; simp [wants, e, k0k, k03', hxy], by simp only [lba], rfl⟩
        · obtain ⟨k0, k1, k2, rfl⟩ := len3 (hkl.trans (by rw [el]; rfl))
          have hr0 : (kidRows [k0, k1, k2])[0]? = some k0.c := rfl
          have hr1 : (kidRows [k0, k1, k2])[1]? = some k1.c := rfl
          have hr2 : (kidRows [k0, k1, k2])[2]? = some k2.c := rfl
          rw [show ([k0, k1, k2] : List Kid).length = 3 from rfl]
          have k4 : (a.k == 4) = false := by rw [e]; rfl
          have k5 : (a.k == 5) = false := by rw [e]; rfl
          have k6 : (a.k == 6) = true := by rw [e]; rfl
          refine zbl (zq (zQ ?_));refine zV lac ?_;refine zV lab ?_;refine zn ?_;refine zaF ?_;refine zR ?_;refine zV lac ?_;refine zV lab ?_;refine zn ?_;refine zaF ?_;refine zQ ?_;refine zV lac ?_;refine zV lab ?_;refine zn ?_;refine zaT ?_;refine zq (zq ?_);refine zRD ?_;refine zV laa ?_;refine zV (lap _) ?_;refine zV lak ?_;refine zV (lao rfl (by exact Cut.cons (by exact rfl) (Cut.cons (by exact rfl) Cut.nil))) ?_;refine zV laa ?_;refine zV (lap _) ?_;refine zV lak ?_;refine zV (lao rfl (by exact Cut.cons (by exact rfl) (Cut.cons (by exact rfl) Cut.nil))) ?_
          refine zV (lal (fits_a k1.k k2.k) rfl (by refine ⟨_, _, rfl, (by exact LeU.of_eq rfl zo), (by (exact ⟨zo, zo, zo⟩)), ?_⟩;refine ⟨_, _, rfl, (by exact LeU.of_eq rfl zo), (by (exact ⟨zo, zo, zo⟩)), ?_⟩;exact rfl)) ?_
          cases hft : k1.k.fits k2.k with
          | false =>
              refine zV laz ?_;refine znD ?_;refine zcT ?_;refine zQ ?_;refine zV laa ?_
              refine zV (lal (none_a 2) rfl (by refine zC ?_;exact rfl)) ?_
              refine zV las ?_;refine zV las ?_;refine zV lar ?_;refine zE laf ?_;refine zE laf ?_;refine zV lab ?_;refine zn (zre ?_)
              rw [show wants a [k0, k1, k2] = none by simp [wants, e, hft]]
              refine rq ?_
              refine lbW (by exact .inr rfl) (by exact rfl) (by exact rfl) (by exact rfl) (by exact rfl) (by exact rfl) (by exact rfl) (by exact rfl) [] trivial (l' := Tm.zero.c) (k' := Ty.any.c)
                (by exact laX _) (by exact laX _) (by exact .le (.refl _)) (by exact ⟨⟨_, rfl, .refl _⟩, trivial⟩) (by exact rfl) (by exact ⟨⟨trivial, trivial, trivial, trivial, trivial, trivial, trivial, trivial⟩, ⟨trivial, trivial, trivial⟩, trivial, trivial⟩) (by exact ⟨⟨trivial, trivial⟩, trivial⟩) (by exact rfl)
          | true =>
              refine zV laz ?_;refine znD ?_;refine zcF ?_;refine zsk (zq ?_);refine zRD ?_;refine zV laa ?_;refine zV (lap _) ?_;refine zV lak ?_;refine zV (lao rfl (by exact Cut.cons (by exact rfl) (Cut.cons (by exact rfl) Cut.nil))) ?_;refine zV laa ?_;refine zV (lap _) ?_;refine zV lak ?_;refine zV (lao rfl (by exact Cut.cons (by exact rfl) (Cut.cons (by exact rfl) Cut.nil))) ?_
              refine zV (lal (join_a k1.k k2.k (hkr k1 (by simp)).thin) rfl (by refine ⟨_, _, rfl, (by exact LeU.of_eq rfl zo), (by (exact ⟨zo, zo, zo⟩)), ?_⟩;refine ⟨_, _, rfl, (by exact LeU.of_eq rfl zo), (by (exact ⟨zo, zo, zo⟩)), ?_⟩;exact rfl)) ?_
              refine zE laf ?_;refine znD ?_;refine zRD ?_;refine zV laa ?_;refine zV laa ?_;refine zV laa ?_;refine zV laj ?_;refine zV laj ?_;refine zV laj ?_;refine zV (laG 0) ?_;refine zE laH ?_;refine zV (laG 1) ?_;refine zE laH ?_;refine zV (laG 2) ?_;refine zE laH ?_;refine znD ?_
              exact ⟨_, _, (laZ [(0, .one (.ptr 1000 0)), (2, .one (slOf 2 (tyRows env'))), (4, .one (.ptr 4 0)), (6, .one (.ptr 6 0)), (7, .one (.ptr 7 0)), (9, .one (.fn 57)), (10, .one (.ptr 10 0)), (11, .one (.ptr 11 0)), (12, .one (slOf 10 (kidRows _))), (17, .one (slOf 2 (List.map Ty.c [Ty.truth, k1.k.join k2.k, k1.k.join k2.k]))), (18, .one (.ptr 18 0))] [(1000, .obj [.int .i64 (n + (a.nodes : Nat))]), (4, .obj a.c), (6, .obj Tm.zero.c), (7, .obj Ty.any.c), (10, .obj Ty.num.c), (11, .obj Ty.truth.c), (18, .obj ((k1.k.join k2.k).c))] [96] [] ⟨(zw rfl zo), (by exact WkU.of_eq rfl zo), (zw rfl zo), (zw rfl zo), (zw rfl zo), (zw rfl zo), (zw rfl zo), (zw rfl zo), (by exact WkU.of_eq rfl zo), (by exact WkC.row (List.mem_cons_self ..) rfl (by exact rfl) (by exact LeRows.refl _)), (zw rfl zo), zo⟩ ⟨(by exact zb rfl), (by exact zb rfl), (by exact zb rfl), (by exact zb rfl), (by exact zb rfl), (by exact zb rfl), (by exact zb rfl), zo⟩ ⟨⟨_, rfl, rfl⟩, zo⟩ trivial rfl rfl ⟨⟨_, rfl⟩, zo, ⟨_, rfl⟩, ⟨_, rfl⟩, ⟨_, rfl⟩, zo, ⟨_, rfl⟩, ⟨_, rfl⟩, zo, zo, ⟨_, rfl⟩, zo⟩ ⟨(by exact ⟨zo, zo⟩), (by exact ⟨zo, zo, zo, zo, zo, zo, zo, zo⟩), (by exact ⟨zo, zo, zo, zo, zo, zo, zo, zo⟩), (by exact ⟨zo, zo, zo⟩), (by exact ⟨zo, zo, zo⟩), (by exact ⟨zo, zo, zo⟩), (by exact ⟨zo, zo, zo⟩), zo⟩), [.truth, k1.k.join k2.k, k1.k.join k2.k], k1.k.join k2.k, by simp [wants, e, hft], by simp only [lba], rfl⟩
        · obtain ⟨k0, rfl⟩ := len1 (hkl.trans (by rw [el]; rfl))
          have hr0 : (kidRows [k0])[0]? = some k0.c := rfl
          rw [show ([k0] : List Kid).length = 1 from rfl]
          have k4 : (a.k == 4) = false := by rw [e]; rfl
          have k5 : (a.k == 5) = false := by rw [e]; rfl
          have k6 : (a.k == 6) = false := by rw [e]; rfl
          have k7 : (a.k == 7) = true := by rw [e]; rfl
          refine zbl (zq (zQ ?_));refine zV lac ?_;refine zV lab ?_;refine zn ?_;refine zaF ?_;refine zR ?_;refine zV lac ?_;refine zV lab ?_;refine zn ?_;refine zaF ?_;refine zQ ?_;refine zV lac ?_;refine zV lab ?_;refine zn ?_;refine zaF ?_;refine zQ ?_;refine zV lac ?_;refine zV lab ?_;refine zn ?_;refine zaT ?_;refine zQ ?_;refine zV laa ?_;refine zV laa ?_;refine zV (lap _) ?_;refine zV lak ?_;refine zV (lao rfl (by exact Cut.cons (by exact rfl) (Cut.cons (by exact rfl) Cut.nil))) ?_;refine zV (laG 0) ?_;refine zE laH ?_;refine zn ?_;refine zRD ?_;refine zV lad ?_;refine zV (laj rfl rfl (by exact Cut.cons (by exact rfl) (Cut.cons (by exact rfl) Cut.nil))) ?_;refine zV laa ?_;refine zV (lap _) ?_;refine zV lak ?_;refine zV (lao rfl (by exact Cut.cons (by exact rfl) (Cut.cons (by exact rfl) Cut.nil))) ?_
          refine zV (lal (to_a a.t k0.k) rfl (by refine ⟨_, _, rfl, (by exact LeU.of_eq rfl zo), (by (exact ⟨zo, zo, zo⟩)), ?_⟩;refine ⟨_, _, rfl, (by exact LeU.of_eq rfl zo), (by (exact ⟨zo, zo, zo⟩)), ?_⟩;exact rfl)) ?_
          refine zE laf ?_;refine znD ?_
          exact ⟨_, _, (laZ [(0, .one (.ptr 1000 0)), (2, .one (slOf 2 (tyRows env'))), (4, .one (.ptr 4 0)), (6, .one (.ptr 6 0)), (7, .one (.ptr 7 0)), (9, .one (.fn 57)), (10, .one (.ptr 10 0)), (11, .one (.ptr 11 0)), (12, .one (slOf 10 (kidRows _))), (17, .one (slOf 2 (List.map Ty.c [k0.k]))), (18, .one (.ptr 18 0))] [(1000, .obj [.int .i64 (n + (a.nodes : Nat))]), (4, .obj a.c), (6, .obj Tm.zero.c), (7, .obj Ty.any.c), (10, .obj Ty.num.c), (11, .obj Ty.truth.c), (18, .obj ((Ty.to a.t k0.k).c))] [96] [] ⟨(zw rfl zo), (by exact WkU.of_eq rfl zo), (zw rfl zo), (zw rfl zo), (zw rfl zo), (zw rfl zo), (zw rfl zo), (zw rfl zo), (by exact WkU.of_eq rfl zo), (by exact WkC.row (List.mem_cons_self ..) rfl (by exact rfl) (by exact LeRows.refl _)), (zw rfl zo), zo⟩ ⟨(by exact zb rfl), (by exact zb rfl), (by exact zb rfl), (by exact zb rfl), (by exact zb rfl), (by exact zb rfl), (by exact zb rfl), zo⟩ ⟨⟨_, rfl, rfl⟩, zo⟩ trivial rfl rfl ⟨⟨_, rfl⟩, zo, ⟨_, rfl⟩, ⟨_, rfl⟩, ⟨_, rfl⟩, zo, ⟨_, rfl⟩, ⟨_, rfl⟩, zo, zo, ⟨_, rfl⟩, zo⟩ ⟨(by exact ⟨zo, zo⟩), (by exact ⟨zo, zo, zo, zo, zo, zo, zo, zo⟩), (by exact ⟨zo, zo, zo, zo, zo, zo, zo, zo⟩), (by exact ⟨zo, zo, zo⟩), (by exact ⟨zo, zo, zo⟩), (by exact ⟨zo, zo, zo⟩), (by exact ⟨zo, zo, zo⟩), zo⟩), [k0.k], .to a.t k0.k, by simp [wants, e], by simp only [lba], rfl⟩
        · obtain ⟨k0, rfl⟩ := len1 (hkl.trans (by rw [el]; rfl))
          have hr0 : (kidRows [k0])[0]? = some k0.c := rfl
          rw [show ([k0] : List Kid).length = 1 from rfl]
          have k4 : (a.k == 4) = false := by rw [e]; rfl
          have k5 : (a.k == 5) = false := by rw [e]; rfl
          have k6 : (a.k == 6) = false := by rw [e]; rfl
          have k7 : (a.k == 7) = false := by rw [e]; rfl
          have k8 : (a.k == 8) = false := by rw [e]; rfl
          have k9 : (a.k == 9) = true := by rw [e]; rfl
          refine zbl (zq (zQ ?_));refine zV lac ?_;refine zV lab ?_;refine zn ?_;refine zaF ?_;refine zR ?_;refine zV lac ?_;refine zV lab ?_;refine zn ?_;refine zaF ?_;refine zQ ?_;refine zV lac ?_;refine zV lab ?_;refine zn ?_;refine zaF ?_;refine zQ ?_;refine zV lac ?_;refine zV lab ?_;refine zn ?_;refine zaF ?_;refine zQ ?_;refine zV lac ?_;refine zV lab ?_;refine zn ?_;refine zaF ?_;refine zQ ?_;refine zV lac ?_;refine zV lab ?_;refine zn ?_;refine zaT ?_;refine zRD ?_;refine zV laa ?_;refine zV lad ?_;refine zV (laj rfl rfl (by exact Cut.cons (by exact rfl) (Cut.cons (by exact rfl) Cut.nil))) ?_;refine zV lad ?_;refine zV (laj rfl rfl (by exact Cut.cons (by exact rfl) (Cut.cons (by exact rfl) Cut.nil))) ?_;refine zV (laG 0) ?_;refine zE laH ?_;refine zE laf ?_;refine znD ?_
          exact ⟨_, _, (laZ [(0, .one (.ptr 1000 0)), (2, .one (slOf 2 (tyRows env'))), (4, .one (.ptr 4 0)), (6, .one (.ptr 6 0)), (7, .one (.ptr 7 0)), (9, .one (.fn 57)), (10, .one (.ptr 10 0)), (11, .one (.ptr 11 0)), (12, .one (slOf 10 (kidRows _))), (17, .one (slOf 2 (List.map Ty.c [a.t]))), (18, .one (.ptr 18 0))] [(1000, .obj [.int .i64 (n + (a.nodes : Nat))]), (4, .obj a.c), (6, .obj Tm.zero.c), (7, .obj Ty.any.c), (10, .obj Ty.num.c), (11, .obj Ty.truth.c), (18, .obj (a.t.c))] [96] [] ⟨(zw rfl zo), (by exact WkU.of_eq rfl zo), (zw rfl zo), (zw rfl zo), (zw rfl zo), (zw rfl zo), (zw rfl zo), (zw rfl zo), (by exact WkU.of_eq rfl zo), (by exact WkC.row (List.mem_cons_self ..) rfl (by exact rfl) (by exact LeRows.refl _)), (zw rfl zo), zo⟩ ⟨(by exact zb rfl), (by exact zb rfl), (by exact zb rfl), (by exact zb rfl), (by exact zb rfl), (by exact zb rfl), (by exact zb rfl), zo⟩ ⟨⟨_, rfl, rfl⟩, zo⟩ trivial rfl rfl ⟨⟨_, rfl⟩, zo, ⟨_, rfl⟩, ⟨_, rfl⟩, ⟨_, rfl⟩, zo, ⟨_, rfl⟩, ⟨_, rfl⟩, zo, zo, ⟨_, rfl⟩, zo⟩ ⟨(by exact ⟨zo, zo⟩), (by exact ⟨zo, zo, zo, zo, zo, zo, zo, zo⟩), (by exact ⟨zo, zo, zo, zo, zo, zo, zo, zo⟩), (by exact ⟨zo, zo, zo⟩), (by exact ⟨zo, zo, zo⟩), (by exact ⟨zo, zo, zo⟩), (by exact ⟨zo, zo, zo⟩), zo⟩), [a.t], a.t, by simp [wants, e], by simp only [lba], rfl⟩
      · rintro t h ⟨ws, out, hwn, rfl, rfl⟩
        have hwl := hws hwn
        have hwn' := la2 ws
        rw [hwn]
        dsimp only
        refine zQ ?_;refine zV lad ?_;refine zE lax ?_;refine zn (zq (zQ ?_));refine zV laa ?_;refine zV lay ?_;refine zV laa ?_;refine zn (zbl ?_)
        refine AW.gh (laZ [(0, .one (.ptr 1000 0)), (2, .one (slOf 2 (tyRows env'))), (4, .one (.ptr 4 0)), (6, .one (.ptr 6 0)), (7, .one (.ptr 7 0)), (9, .one (.fn 57)), (10, .one (.ptr 10 0)), (11, .one (.ptr 11 0)), (12, .one (slOf 10 (kidRows ks))), (17, .one (slOf 2 (tyRows ws))), (18, .one (.ptr 18 0)), (204, .one (slOf 10 (kidRows ks))), (205, .one (.int .i64 ((kidRows ks).length : Nat))), (206, .one (.int .i64 ((0 : Nat) : Int)))] [(1000, .obj [.int .i64 (n + (a.nodes : Nat))]), (4, .obj [.int .i64 a.k, .int .i64 a.n, .int .i64 a.t.k, slOf 2 (tyRows a.t.l), .int .i64 a.f.k, slOf 2 (tyRows a.f.l), .own 106 0 0]), (6, .obj Tm.zero.c), (7, .obj Ty.any.c), (10, .obj Ty.num.c), (11, .obj Ty.truth.c), (18, .obj out.c), (106, .row 27 7 0 [])] [] [106] ⟨(zw rfl zo), (by exact WkU.of_eq rfl zo), (zw rfl zo), (zw rfl zo), (zw rfl zo), (zw rfl zo), (zw rfl zo), (zw rfl zo), (by exact WkU.of_eq rfl zo), (by exact WkU.of_eq rfl zo), (zw rfl zo), (by exact WkU.of_eq rfl zo), (zw rfl zo), (zw rfl zo), zo⟩ ⟨(by exact zb rfl), (by (refine Or.inl ⟨_, rfl, ?_⟩; show All2 _ _ _;exact ⟨WkC.le (LeC.refl _), WkC.le (LeC.refl _), WkC.le (LeC.refl _), WkC.le (LeC.refl _), WkC.le (LeC.refl _), WkC.le (LeC.refl _), WkC.nil (List.mem_cons_self ..), zo⟩)), (by exact zb rfl), (by exact zb rfl), (by exact zb rfl), (by exact zb rfl), (by exact zb rfl), (by exact Or.inr ⟨rfl, List.mem_cons_self .., _, _, by decide, rfl⟩), zo⟩ trivial ⟨rfl, zo⟩ rfl rfl ⟨⟨_, rfl⟩, zo, ⟨_, rfl⟩, ⟨_, rfl⟩, ⟨_, rfl⟩, zo, ⟨_, rfl⟩, ⟨_, rfl⟩, zo, zo, ⟨_, rfl⟩, zo, zo, zo, zo⟩ ⟨(by exact ⟨zo, zo⟩), (by exact ⟨zo, zo, zo, zo, zo, zo, ⟨_, _, _, _, rfl, Nat.le_refl _⟩, zo⟩), (by exact ⟨zo, zo, zo, zo, zo, zo, zo, zo⟩), (by exact ⟨zo, zo, zo⟩), (by exact ⟨zo, zo, zo⟩), (by exact ⟨zo, zo, zo⟩), (by exact ⟨zo, zo, zo⟩), (laY (by exact rfl)), zo⟩) ?_
        refine AW.loop (fun m t h => ∃ (i : Nat) (ys : List Tm), i ≤ ks.length ∧ m = ks.length - i ∧ ys.length = i ∧ casts ks ws = (casts (ks.drop i) (ws.drop i)).map (ys ++ ·) ∧ t = tOfL [(0, .one (.ptr 1000 0)), (2, .one (slOf 2 (tyRows env'))), (4, .one (.ptr 4 0)), (6, .one (.ptr 6 0)), (7, .one (.ptr 7 0)), (9, .one (.fn 57)), (10, .one (.ptr 10 0)), (11, .one (.ptr 11 0)), (12, .one (slOf 10 (kidRows ks))), (17, .one (slOf 2 (tyRows ws))), (18, .one (.ptr 18 0)), (204, .one (slOf 10 (kidRows ks))), (205, .one (.int .i64 ((kidRows ks).length : Nat))), (206, .one (.int .i64 ((i : Nat) : Int)))] ∧ h = ofL [(1000, .obj [.int .i64 (n + (a.nodes : Nat))]), (4, .obj [.int .i64 a.k, .int .i64 a.n, .int .i64 a.t.k, slOf 2 (tyRows a.t.l), .int .i64 a.f.k, slOf 2 (tyRows a.f.l), .own 106 i i]), (6, .obj Tm.zero.c), (7, .obj Ty.any.c), (10, .obj Ty.num.c), (11, .obj Ty.truth.c), (18, .obj out.c), (106, .row 27 7 i (tmRows ys))]) ks.length ⟨0, [], Nat.zero_le _, rfl, rfl, by simp, rfl, rfl⟩ ?_
        rintro m t h ⟨i, ys, hi, rfl, hys, hinv, rfl, rfl⟩
        have htk : (tmRows ys).length = i := by rw [la7, hys]
        cases hlt : decide ((i : Int) < ((kidRows ks).length : Nat)) with
        | false =>
          have hil : i = ks.length := by simp at hlt; omega
          have hc : casts ks ws = some ys := by rw [hinv, hil, List.drop_length]; simp [casts]
          refine zQ ?_;refine zV lac ?_;refine zn (zq ?_);refine zaF ?_;refine zex (zq ?_);refine zRD ?_;refine zV laj ?_;refine zV laj ?_;refine zE laf ?_;refine zE laf ?_;refine zV lab ?_;refine znD ?_;refine zre ?_
          rw [hc]
          refine rq ?_
          refine lbW (by exact .inr rfl) (by exact rfl) (by exact rfl) (by exact rfl) (by exact rfl) (by exact rfl) (by exact rfl) (by exact rfl) [106] (by exact ⟨⟨_, rfl, lbc _⟩, zo⟩) (l' := (Tm.mk a.k a.n a.t a.f ys).c) (k' := out.c)
            (by exact ⟨.le (.refl _), .le (.refl _), .le (.refl _), .le (.refl _), .le (.refl _), .le (.refl _), .row (List.mem_cons_self ..) rfl htk (LeRows.refl _), trivial⟩) (by exact laX _) (by exact .le (.refl _)) (by exact ⟨⟨_, rfl, .refl _⟩, trivial⟩) (by exact rfl) (by exact ⟨⟨trivial, trivial, trivial, trivial, trivial, trivial, trivial, trivial⟩, ⟨trivial, trivial, trivial⟩, trivial, trivial⟩) (by exact ⟨⟨trivial, trivial⟩, trivial⟩) (by exact rfl)
        | true =>
          have hil : i < ks.length := by simp at hlt; omega
          have hil2 : i < ws.length := by omega
          have hr1 : (kidRows ks)[i]? = some ks[i].c := by simp [kidRows, hil]
          have hr2 := lbb hil2
          rw [casts_drop hil hil2] at hinv
          refine zQ ?_;refine zV lac ?_;refine zn (zq ?_);refine zaT ?_;refine zsk (zq (zbl (zQ ?_)));refine zV laa ?_;refine zV (lap _) ?_;refine zV lao ?_;refine zM lah ?_;refine zV lab ?_;refine zE laf ?_;refine zn (zq ?_);refine zRD ?_;refine zV laj ?_;refine zV laa ?_;refine zV laa ?_;refine zV (lap _) ?_;refine zV lao ?_
          refine zV (lal (kidto_a ks[i] ws[i]) rfl (by refine ⟨_, _, rfl, (by exact LeU.of_eq rfl zo), (by (exact ⟨zo, zo, zo, zo, zo, zo, zo, zo, zo, zo, zo⟩)), ?_⟩;refine ⟨_, _, rfl, (by exact LeU.of_eq rfl zo), (by (exact ⟨zo, zo, zo⟩)), ?_⟩;exact rfl)) ?_
          cases hq : ks[i].to ws[i] with
          | none =>
            rw [hq] at hinv
            dsimp only at hinv
            refine zV laB ?_;refine zV las ?_;refine zV lar ?_;refine zM lah ?_;refine zE laf ?_;refine zV lab ?_;refine znD ?_;refine zq (zQ ?_);refine zV laa ?_;refine zV lac ?_;refine zn ?_;refine zcT ?_;refine zQ ?_;refine zV laa ?_;refine zV laa ?_
            refine zV (lal (none_a 2) rfl (by refine zC ?_;exact rfl)) ?_
            refine zV las ?_;refine zV las ?_;refine zV lar ?_;refine zE laf ?_;refine zE laf ?_;refine zV lab ?_;refine zn (zre ?_)
            rw [hinv]
            refine rq ?_
            refine lbW (by exact .inr rfl) (by exact rfl) (by exact rfl) (by exact rfl) (by exact rfl) (by exact rfl) (by exact rfl) (by exact rfl) [] trivial (l' := Tm.zero.c) (k' := Ty.any.c)
              (by exact laX _) (by exact laX _) (by exact .le (.refl _)) (by exact ⟨⟨_, rfl, .refl _⟩, trivial⟩) (by exact rfl) (by exact ⟨⟨trivial, trivial, trivial, trivial, trivial, trivial, trivial, trivial⟩, ⟨trivial, trivial, trivial⟩, trivial, trivial⟩) (by exact ⟨⟨trivial, trivial⟩, trivial⟩) (by exact rfl)
          | some y =>
            rw [hq] at hinv
            dsimp only at hinv
            refine zV laB ?_;refine zV las ?_;refine zV lar ?_;refine zM lah ?_;refine zE laf ?_;refine zV lab ?_;refine znD ?_;refine zq (zQ ?_);refine zV laa ?_;refine zV lac ?_;refine zn ?_;refine zcF ?_;refine zsk (zR ?_);refine zV lad ?_;refine zV lae ?_;refine zV laj ?_;refine zV laF ?_
            refine zM (laK (by exact rfl) (by exact rfl) (by exact rfl) (by exact .inl rfl) (by exact htk) (by exact ⟨rfl, zo⟩) (by simp only [List.length_cons, List.length_nil]; omega)) ?_
            have hrows : tmRows ys ++ [y.c] = tmRows (ys ++ [y]) := by rw [lbs]; simp [tmRows, Tm.cells_c]
            rw [hrows]
            refine zV lad ?_;refine zE lax ?_;refine zn (zR ?_);refine zV laD ?_;refine zV laa ?_;refine zn ?_
            exact ⟨ks.length - (i + 1), _, _, by omega, (laZ [(0, .one (.ptr 1000 0)), (2, .one (slOf 2 (tyRows env'))), (4, .one (.ptr 4 0)), (6, .one (.ptr 6 0)), (7, .one (.ptr 7 0)), (9, .one (.fn 57)), (10, .one (.ptr 10 0)), (11, .one (.ptr 11 0)), (12, .one (slOf 10 (kidRows ks))), (17, .one (slOf 2 (tyRows ws))), (18, .one (.ptr 18 0)), (204, .one (slOf 10 (kidRows ks))), (205, .one (.int .i64 ((kidRows ks).length : Nat))), (206, .one (.int .i64 (((i + 1) : Nat) : Int)))] [(1000, .obj [.int .i64 (n + (a.nodes : Nat))]), (4, .obj [.int .i64 a.k, .int .i64 a.n, .int .i64 a.t.k, slOf 2 (tyRows a.t.l), .int .i64 a.f.k, slOf 2 (tyRows a.f.l), .own 106 (i + 1) (i + 1)]), (6, .obj Tm.zero.c), (7, .obj Ty.any.c), (10, .obj Ty.num.c), (11, .obj Ty.truth.c), (18, .obj out.c), (106, .row 27 7 (i + 1) (tmRows (ys ++ [y])))] [] [] ⟨(zw rfl zo), (by exact WkU.of_eq rfl zo), (zw rfl zo), (zw rfl zo), (zw rfl zo), (zw rfl zo), (zw rfl zo), (zw rfl zo), (by exact WkU.of_eq rfl zo), (by exact WkU.of_eq rfl zo), (zw rfl zo), (by exact WkU.of_eq rfl zo), (zw rfl zo), (zw rfl zo), zo⟩ ⟨(by exact zb rfl), (by exact zb rfl), (by exact zb rfl), (by exact zb rfl), (by exact zb rfl), (by exact zb rfl), (by exact zb rfl), (by exact zb rfl), zo⟩ trivial zo rfl rfl ⟨⟨_, rfl⟩, zo, ⟨_, rfl⟩, ⟨_, rfl⟩, ⟨_, rfl⟩, zo, ⟨_, rfl⟩, ⟨_, rfl⟩, zo, zo, ⟨_, rfl⟩, zo, zo, zo, zo⟩ ⟨(by exact ⟨zo, zo⟩), (by exact ⟨zo, zo, zo, zo, zo, zo, ⟨_, _, _, _, rfl, Nat.le_refl _⟩, zo⟩), (by exact ⟨zo, zo, zo, zo, zo, zo, zo, zo⟩), (by exact ⟨zo, zo, zo⟩), (by exact ⟨zo, zo, zo⟩), (by exact ⟨zo, zo, zo⟩), (by exact ⟨zo, zo, zo⟩), (laY (by exact lbc _)), zo⟩), i + 1, ys ++ [y], by omega, rfl, by simp [hys], by
              rw [hinv]; cases casts (ks.drop (i + 1)) (ws.drop (i + 1)) <;> simp, rfl, rfl⟩
set_option maxHeartbeats 1000000 in
theorem check_a (a : Tm) (hok : TmOk a) (hsz : a.nodes ≤ 1048576) : ACalls Tryz.prog 19 [a.u] [] (checkU a) [] := by
  refine zB Tryz.func19 ?_
  refine zQ ?_;refine zM lan ?_;refine zM lah ?_;refine zM lah ?_;refine zV lab ?_;refine zn (zq (zQ ?_));refine zV laj ?_
  refine zV (lal (tGood_a a 0 hok hsz) rfl (by refine ⟨_, _, rfl, (by exact LeU.of_eq rfl zo), (by (exact ⟨zo, zo, zo, zo, zo, zo, zo, zo⟩)), ?_⟩;refine zC ?_;exact rfl)) ?_
  cases hg : a.Good 0 with
  | false =>
    refine zV laz ?_;refine zn ?_;refine zcT ?_;refine zQ ?_;refine zV laq ?_;refine zV laq ?_;refine zE laf ?_;refine zE laf ?_;refine zV lab ?_;refine zn (zre ?_)
    rw [show checkU a = errU 1 by unfold checkU; rw [hg]; rfl]
    refine rq ?_
    refine lbW (by exact .inr rfl) (by exact rfl) (by exact rfl) (by exact rfl) (by exact rfl) (by exact rfl) (by exact rfl) (by exact rfl) [] trivial (l' := Tm.zero.c) (k' := Ty.any.c)
      (by exact ⟨.le (.refl _), .le (.refl _), .le (.refl _), .le (.nil _), .le (.refl _), .le (.nil _), .le (.nil _), trivial⟩) (by exact ⟨.le (.refl _), .le (.nil _), trivial⟩) (by exact .le (.refl _)) (by exact trivial) (by exact rfl) (by exact ⟨⟨trivial, trivial, trivial, trivial, trivial, trivial, trivial, trivial⟩, ⟨trivial, trivial, trivial⟩, trivial, trivial⟩) (by exact trivial) (by exact rfl)
  | true =>
    have hg' := hg
    unfold Tm.Good at hg'
    simp only [Bool.and_eq_true, decide_eq_true_eq] at hg'
    have hw := walk_a a [] 0 hg'.2 hok (fun t ht => by cases ht) (Int.le_refl 0) (by omega) (by simp; omega)
    rw [show checkU a = walkU (walkT a [] 0) by unfold checkU; rw [hg]; rfl]
    refine zV laz ?_;refine zn ?_;refine zcF ?_;refine zsk (zQ ?_);refine zV laq ?_
    refine zM (laQ 1000 (by exact rfl) (by exact rfl) (by exact rfl) (by exact rfl)) ?_
    refine zV lab ?_;refine zn (zQ ?_);refine zV laa ?_;refine zV laj ?_
    refine zY (lat hw rfl (by refine ⟨_, _, rfl, (by exact LeU.of_eq rfl zo), (by exact Exists.intro _ rfl), ?_⟩;refine ⟨_, _, rfl, (by exact LeU.of_eq rfl zo), (by (exact ⟨zo, zo, zo, zo, zo, zo, zo, zo⟩)), ?_⟩;refine ⟨_, _, rfl, (by exact LeU.one' rfl (LeC.nil _)), (by exact zo), ?_⟩;exact rfl) (by exact ⟨rfl, zo⟩) (by exact rfl) (by simp [namesL]) (by exact ⟨⟨zo, zo⟩, zo⟩)) ?_
    cases hq : walkT a [] 0 with
    | none =>
      refine zV las ?_;refine zV las ?_;refine zV lar ?_;refine zE laf ?_;refine zE laf ?_;refine zV lab ?_;refine zn (zre ?_)
      refine rq ?_
      refine lbW (by exact .inr rfl) (by exact rfl) (by exact rfl) (by exact rfl) (by exact rfl) (by exact rfl) (by exact rfl) (by exact rfl) [] trivial (l' := Tm.zero.c) (k' := Ty.any.c)
        (by exact laX _) (by exact laX _) (by exact .le (.refl _)) (by exact trivial) (by exact rfl) (by exact ⟨⟨trivial, trivial, trivial, trivial, trivial, trivial, trivial, trivial⟩, ⟨trivial, trivial, trivial⟩, trivial, trivial⟩) (by exact trivial) (by exact rfl)
    | some q =>
      obtain ⟨x, k⟩ := q
      refine zV las ?_;refine zV las ?_;refine zV lar ?_;refine zE laf ?_;refine zE laf ?_;refine zV lab ?_;refine zn (zre ?_)
      refine rq ?_
      refine lbW (by exact .inr rfl) (by exact rfl) (by exact rfl) (by exact rfl) (by exact rfl) (by exact rfl) (by exact rfl) (by exact rfl) [] trivial (l' := x.c) (k' := k.c)
        (by exact laX _) (by exact laX _) (by exact .le (.refl _)) (by exact trivial) (by exact rfl) (by exact ⟨⟨trivial, trivial, trivial, trivial, trivial, trivial, trivial, trivial⟩, ⟨trivial, trivial, trivial⟩, trivial, trivial⟩) (by exact trivial) (by exact rfl)
end Go.Proofs.YtnflnbdlgdjfmabGreatDoor
namespace Go.Proofs.YtnflnbdlgdjfmabGreatDoor
open Go.RowKit
class TBool (P : Program) (t : TypeId) : Prop where
  is : P.underlying t = some .bool
instance : TBool Tryz.prog 4 := ⟨Tryz.underlying4⟩
section ops
variable {P : Program} {s : St} {dst : Option Tmp} {rt : TypeId} {pos : String} {after : Array Edge} {guard : Option (Nat × Bool)}
end ops
section ops2
variable {s : St} {dst : Option Tmp} {rt : TypeId} {pos : String} {after : Array Edge} {guard : Option (Nat × Bool)}
end ops2
theorem AW.midC {P : Program} {n : Nat} {x y : Code} {t : Nat → U} {h : Nat → Option Blk} {d : List Nat} {Q : Exit → (Nat → U) → (Nat → Option Blk) → Prop} (M : (Nat → U) → (Nat → Option Blk) → Prop) (hx : AW P n x t h d (ThenQ (fun t h => ∃ t' h', Gh d t h t' h' ∧ M t' h') Q)) (hy : ∀ t h, M t h → AW P n y t h d Q) : AW P n x t h d (ThenQ (fun t h => AW P n y t h d Q) Q) :=
  hx.mono fun e t h q => by
    cases e
    case normal =>
      obtain ⟨t', h', g, m⟩ := q
      exact AW.gh g (hy _ _ m)
    all_goals exact q
theorem AW.lenBlk {P : Program} {n : Nat} {c : Code} {t : Nat → U} {h : Nat → Option Blk} {d : List Nat} {Q : Exit → (Nat → U) → (Nat → Option Blk) → Prop} (b j : Nat) {k : Nat} {cells : List C} {rows : List (List C)} (hb : h b = some (.obj cells)) (hj : cells[j]? = some (slOf k rows)) (hw : rows.length ≤ 9223372036854775807 → AW P n c t h d Q) : AW P n c t h d Q := fun E a w hn S => by
  obtain ⟨F, ρ, S'⟩ := S
  obtain ⟨g, _, hc⟩ := blk_at (S'.heap.blk b _ hb)
  obtain ⟨u, _, _, hr⟩ := hc j _ hj
  obtain ⟨_, _, _, _, hm, _⟩ := hr
  exact hw hm E a w hn ⟨F, ρ, S'⟩
end Go.Proofs.YtnflnbdlgdjfmabGreatDoor
namespace Go.Proofs.YtnflnbdlgdjfmabGreatDoor
open Go.RowKit
set_option maxRecDepth 100000
attribute [local irreducible] RunL AW LocOp ACalls Gh
set_option maxHeartbeats 1000000 in
theorem lb1 : ACalls Tryz.prog 38 [] [] Ty.any.u [] := by
  refine zB Tryz.func38 ?_
  refine zQ ?_;refine zM lah ?_;refine zn (zQ ?_);refine zV laq ?_;refine zE laf ?_;refine zn (zre ?_)
  refine rq ?_
  refine lbg (by exact .inr rfl) (by exact rfl) (by exact rfl) (by exact rfl) [] trivial (l' := Ty.any.c) (by exact ⟨.le (.refl _), .le (.nil _), zo⟩) (by exact ⟨zo, zo, zo⟩) (by exact rfl)
set_option maxHeartbeats 2000000 in
theorem lc3 : ∀ a b : Ty, ACalls Tryz.prog 27 [a.u, b.u] [] (.one (.bool (a.same b))) [] := by
  intro a
  induction a using Ty.ind' with
  | h a ih =>
  intro b
  have hL := la2 a.l
  have hM := la2 b.l
  refine zB Tryz.func27 ?_
  refine zq ?_
  refine zR ?_
  refine zM lan ?_;refine zM lan ?_;refine zV lab ?_;refine zn ?_
  refine zq ?_
  refine AW.midC (fun t h => t = tOfL [(2, .one (.ptr 2 0)), (3, .one (.ptr 3 0)), (5, .one (.bool (a.k == b.k && (((tyRows a.l).length : Nat) : Int) == ((tyRows b.l).length : Nat))))] ∧ h = ofL [(2, .obj a.c), (3, .obj b.c)]) ?_ ?_
  · cases h1 : (a.k == b.k) with
    | true =>
      refine zR ?_;refine zV lad ?_;refine zV lae ?_;refine zV lad ?_;refine zV lae ?_;refine zV lac ?_;refine zV laa ?_;refine zT lad ?_;refine zT lae ?_;refine zT lay ?_;refine zT lad ?_;refine zT lae ?_;refine zT lay ?_;refine zT lac ?_;refine zV (lam true) ?_;refine zV lab ?_;refine zn ?_
      exact ⟨_, _, (laZ [(2, .one (.ptr 2 0)), (3, .one (.ptr 3 0)), (5, .one (.bool ((((tyRows a.l).length : Nat) : Int) == ((tyRows b.l).length : Nat))))] [(2, .obj a.c), (3, .obj b.c)] [] [] ⟨(zw rfl zo), (zw rfl zo), (zw rfl zo), zo⟩ ⟨(by exact zb rfl), (by exact zb rfl), zo⟩ trivial zo rfl rfl ⟨⟨_, rfl⟩, ⟨_, rfl⟩, zo, zo⟩ ⟨(by exact ⟨zo, zo, zo⟩), (by exact ⟨zo, zo, zo⟩), zo⟩), by simp, rfl⟩
    | false =>
      refine zR ?_;refine zV lad ?_;refine zV lae ?_;refine zV lad ?_;refine zV lae ?_;refine zV lac ?_;refine zV laa ?_;refine zf ?_;refine zf ?_;refine zf ?_;refine zf ?_;refine zf ?_;refine zf ?_;refine zf ?_;refine zV (lam false) ?_;refine zV lab ?_;refine zn ?_
      exact ⟨_, _, (laZ [(2, .one (.ptr 2 0)), (3, .one (.ptr 3 0)), (5, .one (.bool false))] [(2, .obj a.c), (3, .obj b.c)] [] [] ⟨(zw rfl zo), (zw rfl zo), (zw rfl zo), zo⟩ ⟨(by exact zb rfl), (by exact zb rfl), zo⟩ trivial zo rfl rfl ⟨⟨_, rfl⟩, ⟨_, rfl⟩, zo, zo⟩ ⟨(by exact ⟨zo, zo, zo⟩), (by exact ⟨zo, zo, zo⟩), zo⟩), by simp, rfl⟩
  · rintro t h ⟨rfl, rfl⟩
    have h0 : a.same b = ((a.k == b.k && (((tyRows a.l).length : Nat) : Int) == ((tyRows b.l).length : Nat)) && sameL (a.l.drop 0) (b.l.drop 0)) := by
      rw [lfs, hL, hM, List.drop_zero, List.drop_zero]
      by_cases hl : a.l.length = b.l.length
      · simp [hl]
      · simp [hl, lfF hl]
    have hl : (a.k == b.k && (((tyRows a.l).length : Nat) : Int) == ((tyRows b.l).length : Nat)) = true → a.l.length = b.l.length := by
      intro h; rw [hL, hM, Bool.and_eq_true] at h; have := h.2; simp at this; omega
    generalize (a.k == b.k && (((tyRows a.l).length : Nat) : Int) == ((tyRows b.l).length : Nat)) = ok0 at *
    refine zq (zQ ?_);refine zV lab ?_;refine zn (zbl ?_)
    refine AW.gh (laZ [(2, .one (.ptr 2 0)), (3, .one (.ptr 3 0)), (5, .one (.bool (ok0))), (6, .one (.int .i64 ((0 : Nat) : Int)))] [(2, .obj a.c), (3, .obj b.c)] [] [] ⟨(zw rfl zo), (zw rfl zo), (zw rfl zo), (zw rfl zo), zo⟩ ⟨(by exact zb rfl), (by exact zb rfl), zo⟩ trivial zo rfl rfl ⟨⟨_, rfl⟩, ⟨_, rfl⟩, zo, zo, zo⟩ ⟨(by exact ⟨zo, zo, zo⟩), (by exact ⟨zo, zo, zo⟩), zo⟩) ?_
    refine AW.lenBlk 2 1 rfl rfl fun hmax => ?_
    refine AW.loop (fun m t h => ∃ i : Nat, ∃ ok : Bool, i ≤ a.l.length ∧ m = a.l.length - i ∧ (ok = true → a.l.length = b.l.length) ∧ a.same b = (ok && sameL (a.l.drop i) (b.l.drop i)) ∧ t = tOfL [(2, .one (.ptr 2 0)), (3, .one (.ptr 3 0)), (5, .one (.bool (ok))), (6, .one (.int .i64 ((i : Nat) : Int)))] ∧ h = ofL [(2, .obj a.c), (3, .obj b.c)]) a.l.length ⟨0, ok0, Nat.zero_le _, rfl, hl, h0, rfl, rfl⟩ ?_
    rintro m t h ⟨i, ok, hi, rfl, hlen, hinv, rfl, rfl⟩
    clear hl h0
    cases ok with
    | false =>
      refine zq (zQ ?_);refine zV laa ?_;refine zV laa ?_;refine zs ?_;refine zs ?_;refine zs ?_;refine zs ?_;refine zs ?_;refine zV law ?_;refine zn ?_;refine zcF ?_;refine zex (zQ ?_);refine zV laa ?_;refine zV lab ?_;refine zn (zre ?_)
      rw [hinv]
      exact la1 (.inr rfl) rfl zo
    | true =>
    have hlen := hlen rfl
    cases hlt : decide ((i : Int) < ((tyRows a.l).length : Nat)) with
    | false =>
      have hil : i = a.l.length := by simp at hlt; omega
      refine zq (zQ ?_);refine zV laa ?_;refine zV laa ?_;refine zI laa ?_;refine zI lad ?_;refine zI lae ?_;refine zI lay ?_;refine zI lac ?_;refine zV laA ?_;refine zn ?_;refine zaF ?_;refine zex (zQ ?_);refine zV laa ?_;refine zV lab ?_;refine zn (zre ?_)
      rw [hinv, hil, show sameL (a.l.drop a.l.length) (b.l.drop a.l.length) = true by rw [List.drop_length, hlen, List.drop_length]; rfl]
      exact la1 (.inr rfl) rfl zo
    | true =>
      have hil : i < a.l.length := by simp at hlt; omega
      have hilb : i < b.l.length := by omega
      have hr1 := lbb hil
      have hr2 := lbb hilb
      have hs := sameL_drop hil hilb
      refine zq (zQ ?_);refine zV laa ?_;refine zV laa ?_;refine zI laa ?_;refine zI lad ?_;refine zI lae ?_;refine zI lay ?_;refine zI lac ?_;refine zV laA ?_;refine zn ?_;refine zaT ?_;refine zsk (zq (zbl ?_));refine zRD ?_;refine zV lad ?_;refine zV lae ?_;refine zV laa ?_;refine zV (lap _) ?_;refine zV lao ?_;refine zV lad ?_;refine zV lae ?_;refine zV laa ?_;refine zV (lap _) ?_;refine zV lao ?_
      refine zV (lal (ih a.l[i] (List.getElem_mem _) b.l[i]) rfl (by refine zC2 ?_;refine zC2 ?_;exact rfl)) ?_
      refine zV lab ?_;refine znD ?_;refine zR ?_;refine zV laa ?_;refine zV laD ?_;refine zV lab ?_;refine zn ?_
      exact ⟨a.l.length - (i + 1), _, _, by omega, (laZ [(2, .one (.ptr 2 0)), (3, .one (.ptr 3 0)), (5, .one (.bool (a.l[i].same b.l[i]))), (6, .one (.int .i64 (((i + 1) : Nat) : Int)))] [(2, .obj a.c), (3, .obj b.c)] [] [] ⟨(zw rfl zo), (zw rfl zo), (zw rfl zo), (zw rfl zo), zo⟩ ⟨(by exact zb rfl), (by exact zb rfl), zo⟩ trivial zo rfl rfl ⟨⟨_, rfl⟩, ⟨_, rfl⟩, zo, zo, zo⟩ ⟨(by exact ⟨zo, zo, zo⟩), (by exact ⟨zo, zo, zo⟩), zo⟩), i + 1, _, by omega, rfl, fun _ => hlen, by rw [hinv, hs]; rfl, rfl, rfl⟩
theorem ldR {a t : Ty} (h : a.right = true) (ht : t ∈ a.l) : t.right = true := by
  rw [lfH, Bool.and_eq_true] at h
  obtain ⟨i, hi, rfl⟩ := List.getElem_of_mem ht
  have : ∀ (l : List Ty), rightL l = true → ∀ x ∈ l, x.right = true := by
    intro l
    induction l with
    | nil => intro _ x hx; cases hx
    | cons b l ih =>
      intro h x hx
      simp only [rightL, Bool.and_eq_true] at h
      rcases List.mem_cons.1 hx with rfl | hx
      · exact h.1
      · exact ih h.2 x hx
  exact this _ h.2 _ ht
theorem lfY {a : Ty} (h : a.right = true) : (∃ k, a = .mk k [] ∧ 0 ≤ k ∧ k ≤ 2) ∨ ∃ p q, a = .mk 3 [p, q] ∧ p.right = true ∧ q.right = true := by
  obtain ⟨k, l⟩ := a
  have h2 := h
  rw [lfH, Bool.and_eq_true] at h
  simp only [Ty.okk, Ty.k_mk, Ty.l_mk, Bool.or_eq_true, Bool.and_eq_true, beq_iff_eq] at h
  rcases h.1 with ⟨⟨h0, h1⟩, hl⟩ | ⟨rfl, hl⟩
  · exact .inl ⟨k, by rw [List.length_eq_zero_iff.1 hl], of_decide_eq_true h0, of_decide_eq_true h1⟩
  · match l, hl with
    | [p, q], _ => exact .inr ⟨p, q, rfl, ldR h2 (by simp), ldR h2 (by simp)⟩
theorem okk_eq (a : Ty) : a.okk = ((decide (a.k ≥ 0) && decide (a.k ≤ 2) && (((tyRows a.l).length : Nat) : Int) == 0) || (a.k == 3 && (((tyRows a.l).length : Nat) : Int) == 2)) := by
  rw [la2]
  have e1 : (((a.l.length : Nat) : Int) == 0) = (a.l.length == 0) := by rw [Bool.eq_iff_iff]; simp
  have e2 : (((a.l.length : Nat) : Int) == 2) = (a.l.length == 2) := by rw [Bool.eq_iff_iff]; simp; omega
  rw [e1, e2]
  rfl
set_option maxHeartbeats 4000000 in
theorem isRight_a : ∀ a : Ty, ACalls Tryz.prog 109 [a.u] [] (.one (.bool a.right)) [] := by
  intro a
  induction a using Ty.ind' with
  | h a ih =>
  have hL := la2 a.l
  refine zB Tryz.func109 ?_
  refine zq ?_
  refine zR ?_
  refine zM lan ?_;refine zV lab ?_;refine zn ?_
  refine zq ?_
  refine AW.midC (fun t h => t = tOfL [(1, .one (.ptr 1 0)), (3, .one (.bool (((decide (a.k ≥ 0) && decide (a.k ≤ 2) && (((tyRows a.l).length : Nat) : Int) == 0) || (a.k == 3 && (((tyRows a.l).length : Nat) : Int) == 2)))))] ∧ h = ofL [(1, .obj a.c)]) ?_ ?_
  · cases h0 : decide (a.k ≥ 0) with
    | false =>
      cases h3 : (a.k == 3) with
      | false =>
        refine zR ?_;refine zV lad ?_;refine zV lae ?_;refine zV lac ?_;refine zV laa ?_;refine zf ?_;refine zf ?_;refine zf ?_;refine zV (lam false) ?_;refine zV laa ?_;refine zs ?_;refine zs ?_;refine zs ?_;refine zs ?_;refine zV law ?_;refine zV laa ?_;refine zI lad ?_;refine zI lae ?_;refine zI lac ?_;refine zI laa ?_;refine zf ?_;refine zf ?_;refine zf ?_;refine zf ?_;refine zI (lam false) ?_;refine zV law ?_;refine zV lab ?_;refine zn ?_
        exact ⟨_, _, (laZ [(1, .one (.ptr 1 0)), (3, .one (.bool (false)))] [(1, .obj a.c)] [] [] ⟨(zw rfl zo), (zw rfl zo), zo⟩ ⟨(by exact zb rfl), zo⟩ trivial zo rfl rfl ⟨⟨_, rfl⟩, zo, zo⟩ ⟨(by exact ⟨zo, zo, zo⟩), zo⟩), by simp, rfl⟩
      | true =>
        refine zR ?_;refine zV lad ?_;refine zV lae ?_;refine zV lac ?_;refine zV laa ?_;refine zf ?_;refine zf ?_;refine zf ?_;refine zV (lam false) ?_;refine zV laa ?_;refine zs ?_;refine zs ?_;refine zs ?_;refine zs ?_;refine zV law ?_;refine zV laa ?_;refine zI lad ?_;refine zI lae ?_;refine zI lac ?_;refine zI laa ?_;refine zT lad ?_;refine zT lae ?_;refine zT lay ?_;refine zT lac ?_;refine zI (lam true) ?_;refine zV law ?_;refine zV lab ?_;refine zn ?_
        exact ⟨_, _, (laZ [(1, .one (.ptr 1 0)), (3, .one (.bool ((((tyRows a.l).length : Nat) : Int) == 2)))] [(1, .obj a.c)] [] [] ⟨(zw rfl zo), (zw rfl zo), zo⟩ ⟨(by exact zb rfl), zo⟩ trivial zo rfl rfl ⟨⟨_, rfl⟩, zo, zo⟩ ⟨(by exact ⟨zo, zo, zo⟩), zo⟩), by simp, rfl⟩
    | true =>
    cases h2 : decide (a.k ≤ 2) with
    | false =>
      cases h3 : (a.k == 3) with
      | false =>
        refine zR ?_;refine zV lad ?_;refine zV lae ?_;refine zV lac ?_;refine zV laa ?_;refine zT lad ?_;refine zT lae ?_;refine zT lac ?_;refine zV (lam true) ?_;refine zV laa ?_;refine zf ?_;refine zf ?_;refine zf ?_;refine zf ?_;refine zV (lam false) ?_;refine zV laa ?_;refine zI lad ?_;refine zI lae ?_;refine zI lac ?_;refine zI laa ?_;refine zf ?_;refine zf ?_;refine zf ?_;refine zf ?_;refine zI (lam false) ?_;refine zV law ?_;refine zV lab ?_;refine zn ?_
        exact ⟨_, _, (laZ [(1, .one (.ptr 1 0)), (3, .one (.bool (false)))] [(1, .obj a.c)] [] [] ⟨(zw rfl zo), (zw rfl zo), zo⟩ ⟨(by exact zb rfl), zo⟩ trivial zo rfl rfl ⟨⟨_, rfl⟩, zo, zo⟩ ⟨(by exact ⟨zo, zo, zo⟩), zo⟩), by simp, rfl⟩
      | true =>
        refine zR ?_;refine zV lad ?_;refine zV lae ?_;refine zV lac ?_;refine zV laa ?_;refine zT lad ?_;refine zT lae ?_;refine zT lac ?_;refine zV (lam true) ?_;refine zV laa ?_;refine zf ?_;refine zf ?_;refine zf ?_;refine zf ?_;refine zV (lam false) ?_;refine zV laa ?_;refine zI lad ?_;refine zI lae ?_;refine zI lac ?_;refine zI laa ?_;refine zT lad ?_;refine zT lae ?_;refine zT lay ?_;refine zT lac ?_;refine zI (lam true) ?_;refine zV law ?_;refine zV lab ?_;refine zn ?_
        exact ⟨_, _, (laZ [(1, .one (.ptr 1 0)), (3, .one (.bool ((((tyRows a.l).length : Nat) : Int) == 2)))] [(1, .obj a.c)] [] [] ⟨(zw rfl zo), (zw rfl zo), zo⟩ ⟨(by exact zb rfl), zo⟩ trivial zo rfl rfl ⟨⟨_, rfl⟩, zo, zo⟩ ⟨(by exact ⟨zo, zo, zo⟩), zo⟩), by simp, rfl⟩
    | true =>
    cases e0 : ((((tyRows a.l).length : Nat) : Int) == 0) with
    | false =>
      cases h3 : (a.k == 3) with
      | false =>
        refine zR ?_;refine zV lad ?_;refine zV lae ?_;refine zV lac ?_;refine zV laa ?_;refine zT lad ?_;refine zT lae ?_;refine zT lac ?_;refine zV (lam true) ?_;refine zV laa ?_;refine zT lad ?_;refine zT lae ?_;refine zT lay ?_;refine zT lac ?_;refine zV (lam true) ?_;refine zV laa ?_;refine zF lad ?_;refine zF lae ?_;refine zF lac ?_;refine zF laa ?_;refine zf ?_;refine zf ?_;refine zf ?_;refine zf ?_;refine zF (lam false) ?_;refine zV (lam false) ?_;refine zV lab ?_;refine zn ?_
        exact ⟨_, _, (laZ [(1, .one (.ptr 1 0)), (3, .one (.bool (false)))] [(1, .obj a.c)] [] [] ⟨(zw rfl zo), (zw rfl zo), zo⟩ ⟨(by exact zb rfl), zo⟩ trivial zo rfl rfl ⟨⟨_, rfl⟩, zo, zo⟩ ⟨(by exact ⟨zo, zo, zo⟩), zo⟩), by simp, rfl⟩
      | true =>
        refine zR ?_;refine zV lad ?_;refine zV lae ?_;refine zV lac ?_;refine zV laa ?_;refine zT lad ?_;refine zT lae ?_;refine zT lac ?_;refine zV (lam true) ?_;refine zV laa ?_;refine zT lad ?_;refine zT lae ?_;refine zT lay ?_;refine zT lac ?_;refine zV (lam true) ?_;refine zV laa ?_;refine zF lad ?_;refine zF lae ?_;refine zF lac ?_;refine zF laa ?_;refine zT lad ?_;refine zT lae ?_;refine zT lay ?_;refine zT lac ?_;refine zF (lam true) ?_;refine zV (lam false) ?_;refine zV lab ?_;refine zn ?_
        exact ⟨_, _, (laZ [(1, .one (.ptr 1 0)), (3, .one (.bool ((((tyRows a.l).length : Nat) : Int) == 2)))] [(1, .obj a.c)] [] [] ⟨(zw rfl zo), (zw rfl zo), zo⟩ ⟨(by exact zb rfl), zo⟩ trivial zo rfl rfl ⟨⟨_, rfl⟩, zo, zo⟩ ⟨(by exact ⟨zo, zo, zo⟩), zo⟩), by simp, rfl⟩
    | true =>
      refine zR ?_;refine zV lad ?_;refine zV lae ?_;refine zV lac ?_;refine zV laa ?_;refine zT lad ?_;refine zT lae ?_;refine zT lac ?_;refine zV (lam true) ?_;refine zV laa ?_;refine zT lad ?_;refine zT lae ?_;refine zT lay ?_;refine zT lac ?_;refine zV (lam true) ?_;refine zV laa ?_;refine zt ?_;refine zt ?_;refine zt ?_;refine zt ?_;refine RunL.skip (.inr ⟨rfl, _, rfl, rfl⟩) ?_;refine RunL.skip (.inr ⟨rfl, _, rfl, rfl⟩) ?_;refine RunL.skip (.inr ⟨rfl, _, rfl, rfl⟩) ?_;refine RunL.skip (.inr ⟨rfl, _, rfl, rfl⟩) ?_;refine zt ?_;refine zV (lam true) ?_;refine zV lab ?_;refine zn ?_
      exact ⟨_, _, (laZ [(1, .one (.ptr 1 0)), (3, .one (.bool (true)))] [(1, .obj a.c)] [] [] ⟨(zw rfl zo), (zw rfl zo), zo⟩ ⟨(by exact zb rfl), zo⟩ trivial zo rfl rfl ⟨⟨_, rfl⟩, zo, zo⟩ ⟨(by exact ⟨zo, zo, zo⟩), zo⟩), by simp, rfl⟩
  · rintro t h ⟨rfl, rfl⟩
    have h0 : a.right = (a.okk && rightL (a.l.drop 0)) := lfH a
    rw [← okk_eq]
    generalize a.okk = ok0 at *
    refine zq (zQ ?_);refine zV lad ?_;refine zV lae ?_;refine zV lay ?_;refine zV laa ?_;refine zn (zbl ?_)
    refine AW.gh (laZ [(1, .one (.ptr 1 0)), (3, .one (.bool (ok0))), (32, .one (slOf 2 (tyRows a.l))), (33, .one (.int .i64 ((tyRows a.l).length : Nat))), (34, .one (.int .i64 ((0 : Nat) : Int)))] [(1, .obj a.c)] [] [] ⟨(zw rfl zo), (zw rfl zo), (by exact WkU.of_eq rfl zo), (zw rfl zo), (zw rfl zo), zo⟩ ⟨(by exact zb rfl), zo⟩ trivial zo rfl rfl ⟨⟨_, rfl⟩, zo, zo, zo, zo, zo⟩ ⟨(by exact ⟨zo, zo, zo⟩), zo⟩) ?_
    refine AW.lenSl 32 rfl fun hmax => ?_
    refine AW.loop (fun m t h => ∃ i : Nat, ∃ ok : Bool, i ≤ a.l.length ∧ m = a.l.length - i ∧ a.right = (ok && rightL (a.l.drop i)) ∧ t = tOfL [(1, .one (.ptr 1 0)), (3, .one (.bool (ok))), (32, .one (slOf 2 (tyRows a.l))), (33, .one (.int .i64 ((tyRows a.l).length : Nat))), (34, .one (.int .i64 ((i : Nat) : Int)))] ∧ h = ofL [(1, .obj a.c)]) a.l.length ⟨0, ok0, Nat.zero_le _, rfl, h0, rfl, rfl⟩ ?_
    rintro m t h ⟨i, ok, hi, rfl, hinv, rfl, rfl⟩
    clear h0
    cases hlt : decide ((i : Int) < ((tyRows a.l).length : Nat)) with
    | false =>
      have hil : i = a.l.length := by simp at hlt; omega
      refine zQ ?_;refine zV lac ?_;refine zn (zq ?_);refine zaF ?_;refine zex (zQ ?_);refine zV laa ?_;refine zV lab ?_;refine zn (zre ?_)
      rw [hinv, hil, List.drop_length, show rightL [] = true from rfl, Bool.and_true]
      exact la1 (.inr rfl) rfl zo
    | true =>
      have hil : i < a.l.length := by simp at hlt; omega
      have hr1 := lbb hil
      have hs := rightL_drop hil
      cases ok with
      | false =>
        refine zQ ?_;refine zV lac ?_;refine zn (zq ?_);refine zaT ?_;refine zsk (zq (zbl (zQ ?_)));refine zV (lap _) ?_;refine zV lao ?_;refine zM lah ?_;refine zE laf ?_;refine zn (zR ?_);refine zV laa ?_;refine zV laa ?_;refine zs ?_;refine zs ?_;refine zV law ?_;refine zV lab ?_;refine zn (zR ?_);refine zV laD ?_;refine zV laa ?_;refine zn ?_
        exact ⟨a.l.length - (i + 1), _, _, by omega, (laZ [(1, .one (.ptr 1 0)), (3, .one (.bool (false))), (32, .one (slOf 2 (tyRows a.l))), (33, .one (.int .i64 ((tyRows a.l).length : Nat))), (34, .one (.int .i64 (((i + 1) : Nat) : Int)))] [(1, .obj a.c)] [] [] ⟨(zw rfl zo), (zw rfl zo), (by exact WkU.of_eq rfl zo), (zw rfl zo), (zw rfl zo), zo⟩ ⟨(by exact zb rfl), zo⟩ trivial zo rfl rfl ⟨⟨_, rfl⟩, zo, zo, zo, zo, zo⟩ ⟨(by exact ⟨zo, zo, zo⟩), zo⟩), i + 1, _, by omega, rfl, by rw [hinv]; rfl, rfl, rfl⟩
      | true =>
        refine zQ ?_;refine zV lac ?_;refine zn (zq ?_);refine zaT ?_;refine zsk (zq (zbl (zQ ?_)));refine zV (lap _) ?_;refine zV lao ?_;refine zM lah ?_;refine zE laf ?_;refine zn (zR ?_);refine zV laa ?_;refine zV laa ?_;refine zI laj ?_
        refine zI (lal (ih a.l[i] (List.getElem_mem _)) rfl (by refine zC2 ?_;exact rfl)) ?_
        refine zV laA ?_;refine zV lab ?_;refine zn (zR ?_);refine zV laD ?_;refine zV laa ?_;refine zn ?_
        exact ⟨a.l.length - (i + 1), _, _, by omega, (laZ [(1, .one (.ptr 1 0)), (3, .one (.bool (a.l[i].right))), (32, .one (slOf 2 (tyRows a.l))), (33, .one (.int .i64 ((tyRows a.l).length : Nat))), (34, .one (.int .i64 (((i + 1) : Nat) : Int)))] [(1, .obj a.c)] [] [] ⟨(zw rfl zo), (zw rfl zo), (by exact WkU.of_eq rfl zo), (zw rfl zo), (zw rfl zo), zo⟩ ⟨(by exact zb rfl), zo⟩ trivial zo rfl rfl ⟨⟨_, rfl⟩, zo, zo, zo, zo, zo⟩ ⟨(by exact ⟨zo, zo, zo⟩), zo⟩), i + 1, _, by omega, rfl, by rw [hinv, hs]; rfl, rfl, rfl⟩
set_option maxHeartbeats 2000000 in
theorem deepOf_a : ∀ a : Ty, a.deep ≤ 1048576 → ACalls Tryz.prog 110 [a.u] [] (.one (.int .i64 ((a.deep : Nat) : Int))) [] := by
  intro a
  induction a using Ty.ind' with
  | h a ih =>
  intro hd
  have hL := la2 a.l
  have he := lfv a
  refine zB Tryz.func110 ?_
  refine zQ ?_;refine zM lan ?_;refine zV lab ?_;refine zn (zQ ?_);refine zV lab ?_;refine zn (zq (zQ ?_));refine zV lad ?_;refine zV lae ?_;refine zV lay ?_;refine zV laa ?_;refine zn (zbl ?_)
  refine AW.gh (laZ [(3, .one (.int .i64 ((deepL (a.l.take (0)) : Nat) : Int))), (7, .one (slOf 2 (tyRows a.l))), (8, .one (.int .i64 ((tyRows a.l).length : Nat))), (9, .one (.int .i64 ((0 : Nat) : Int)))] [] [] [] ⟨(zw rfl zo), (by exact WkU.of_eq rfl zo), (zw rfl zo), (zw rfl zo), zo⟩ trivial zo zo rfl rfl ⟨zo, zo, zo, zo, zo⟩ trivial) ?_
  refine AW.lenSl 7 rfl fun hmax => ?_
  refine AW.loop (fun m t h => ∃ i : Nat, i ≤ a.l.length ∧ m = a.l.length - i ∧ t = tOfL [(3, .one (.int .i64 ((deepL (a.l.take (i)) : Nat) : Int))), (7, .one (slOf 2 (tyRows a.l))), (8, .one (.int .i64 ((tyRows a.l).length : Nat))), (9, .one (.int .i64 ((i : Nat) : Int)))] ∧ h = ofL []) a.l.length ⟨0, Nat.zero_le _, rfl, rfl, rfl⟩ ?_
  rintro m t h ⟨i, hi, rfl, rfl, rfl⟩
  cases hlt : decide ((i : Int) < ((tyRows a.l).length : Nat)) with
  | false =>
    have hil : i = a.l.length := by simp at hlt; omega
    subst hil
    have e1 : deepL (a.l.take a.l.length) + 1 = a.deep := by rw [List.take_length]; omega
    refine zQ ?_;refine zV lac ?_;refine zn (zq ?_);refine zaF ?_;refine zex (zQ ?_);refine zV laa ?_;refine zV laD ?_;refine zV lab ?_;refine zn (zre ?_)
    rw [e1]
    exact la1 (.inr rfl) rfl zo
  | true =>
    have hil : i < a.l.length := by simp at hlt; omega
    have hr1 := lbb hil
    have hm := deepL_mem (List.getElem_mem hil)
    have hs : max ((deepL (a.l.take i) : Nat) : Int) ((a.l[i].deep : Nat) : Int) = ((deepL (a.l.take (i + 1)) : Nat) : Int) := by rw [deepL_take hil]; omega
    refine zQ ?_;refine zV lac ?_;refine zn (zq ?_);refine zaT ?_;refine zsk (zq (zbl (zQ ?_)));refine zV (lap _) ?_;refine zV lao ?_;refine zM lah ?_;refine zE laf ?_;refine zn (zR ?_);refine zV laa ?_;refine zV laj ?_
    refine zV (lal (ih a.l[i] (List.getElem_mem _) (by omega)) rfl (by refine zC2 ?_;exact rfl)) ?_
    refine zV (loc_max2 (by exact rfl) (by exact rfl)) ?_
    rw [hs]
    refine zV lab ?_;refine zn (zR ?_);refine zV laD ?_;refine zV laa ?_;refine zn ?_
    exact ⟨a.l.length - (i + 1), _, _, by omega, (laZ [(3, .one (.int .i64 ((deepL (a.l.take ((i + 1))) : Nat) : Int))), (7, .one (slOf 2 (tyRows a.l))), (8, .one (.int .i64 ((tyRows a.l).length : Nat))), (9, .one (.int .i64 (((i + 1) : Nat) : Int)))] [] [] [] ⟨(zw rfl zo), (by exact WkU.of_eq rfl zo), (zw rfl zo), (zw rfl zo), zo⟩ trivial zo zo rfl rfl ⟨zo, zo, zo, zo, zo⟩ trivial), i + 1, by omega, rfl, rfl, rfl⟩
set_option maxHeartbeats 1000000 in
theorem isType_a (a : Ty) (hd : a.deep ≤ 1048576) : ACalls Tryz.prog 77 [a.u] [] (.one (.bool (a.good 4))) [] := by
  have hr := isRight_a a
  rw [good_rd 4 a]
  refine zB Tryz.func77 ?_
  refine zQ ?_;refine zM lan ?_;refine zV lab ?_;refine zn (zQ ?_);refine zV laj ?_
  refine zV (lal hr rfl (by refine zC2 ?_;exact rfl)) ?_
  cases h1 : a.right with
  | false =>
    refine zV laa ?_;refine zs ?_;refine zs ?_;refine zs ?_;refine zV law ?_;refine zV lab ?_;refine zn (zre ?_)
    exact la1 (.inr rfl) rfl zo
  | true =>
    refine zV laa ?_;refine zI laj ?_
    refine zI (lal (deepOf_a a hd) rfl (by refine zC2 ?_;exact rfl)) ?_
    refine zI lac ?_;refine zV laA ?_;refine zV lab ?_;refine zn (zre ?_)
    rw [show decide (((a.deep : Nat) : Int) < 5) = (true && decide (a.deep ≤ 4)) by rw [Bool.true_and]; exact decide_eq_decide.2 (by omega)]
    exact la1 (.inr rfl) rfl zo
theorem lfk (x y : Int) : (x * y == 0) = (x == 0 || y == 0) := by
  rw [Bool.eq_iff_iff]; simp [Int.mul_eq_zero]
end Go.Proofs.YtnflnbdlgdjfmabGreatDoor
