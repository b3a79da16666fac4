/-
  Merged texts of the proof. Conditions: those typed in each theorem.
-/
import Derived.Test.YtnflnbdlgdjfmabGreatDoorX5
import Derived.Laws.StructEq
import Derived.Laws.Tables
import Derived.WalkKit
import Derived.Laws.Concat
import Derived.Lib.FieldsP
import Derived.Lib.Replace
import Derived.Lib.Strings
import Derived.Laws.RangeAny
set_option linter.unusedVariables false
set_option linter.unusedSimpArgs false
namespace Go.Proofs.YtnflnbdlgdjfmabGreatDoor
open Go.RowKit
set_option maxRecDepth 100000
attribute [local irreducible] RunL AW LocOp ACalls Gh
theorem MOk.form {m : Mch} {cells : List C} {vv n : Nat} (h : MOk m cells vv n) : ∃ t env c, closedC c = true ∧ cells = mCells t env c vv n m.fuel := by
  obtain ⟨ctl, stk, F⟩ := m
  cases ctl with
  | ent t env => exact ⟨t, env, .nilp, rfl, h⟩
  | val v => obtain ⟨t, env, h⟩ := h; exact ⟨t, env, v.p, rfl, h⟩
set_option maxHeartbeats 40000000 in
theorem leave_a (v : V) (f : Fr) (t : Tm) (env : List V) (s : List Fr) (F vv n : Nat) (rows : List (List C)) (hs : StkOk s n rows) (hL : s.length ≤ 100000000000) (hF : F ≤ 1000) (r : Mch ⊕ Out) (hr : leaveM v f s F = some r) :
    Does 66 [.one (.ptr 1000 0), .agg f.c] [(1000, .obj (mCells t env (v.p) vv n F)), (1001, .row 118 16 vv rows)] vv r := by
  have hcl := hs.cl
  cases f with
  | given g =>
    have hr : callM g v s F = some r := hr
    have hd := call_a g v t env s F vv n rows hs hL hF r hr
    cases r with
    | inl m =>
      obtain ⟨cells, vv', n', rows', hvv, hm, hk, hc⟩ := hd
      refine ⟨cells, vv', n', rows', hvv, hm, hk, ?_⟩
      obtain ⟨t1, env1, c1, hcc, rfl⟩ := hm.form
      refine lbe Tryz.func66 rfl (by kernel_rfl) (Nat.le_of_ble_eq_true rfl) (by exact ⟨⟨rfl, zo⟩, ⟨rfl, (show vv ≤ vv' from hvv)⟩, zo⟩) (by simp [namesL]) ?_
      refine zQ ?_;refine zM lan ?_;refine zM lah ?_;refine zV lab ?_;refine zn (zQ ?_);refine zV laa ?_;refine zV lag ?_;refine zV lad ?_;refine zV lae ?_;refine zV lab ?_;refine zn (zQ ?_);refine zV laa ?_;refine zV lag ?_;refine zV lad ?_;refine zE lax ?_;refine zn (zq (zQ ?_));refine zV lad ?_;refine zV lae ?_;refine zn (zbl (zQ ?_));refine zV lac ?_;refine zV lab ?_;refine zn ?_;refine zcF ?_;refine zq (zQ ?_);refine zV lac ?_;refine zV lab ?_;refine zn ?_;refine zcF ?_;refine zQ ?_;refine zV lac ?_;refine zV lab ?_;refine zn ?_;refine zcF ?_;refine zR ?_;refine zV lac ?_;refine zV lab ?_;refine zn ?_;refine zcF ?_;refine zQ ?_;refine zV lac ?_;refine zV lab ?_;refine zn ?_;refine zcF ?_;refine zQ ?_;refine zV lac ?_;refine zV lab ?_;refine zn ?_;refine zcT ?_;refine zQ ?_;refine zV laa ?_;refine zV lad ?_;refine zV lae ?_;refine zV laa ?_
      refine zY (lat hc rfl (by refine ⟨_, _, rfl, (by exact LeU.of_eq rfl zo), (by exact Exists.intro _ rfl), ?_⟩;refine zC ?_;refine zC ?_;exact rfl) (by exact ⟨rfl, rfl, zo⟩) (by exact rfl) (by simp [namesL]) (by exact ⟨la8 rfl ⟨_, _, _, _, rfl, Nat.le_refl _⟩, laY hcl, zo⟩)) ?_
      refine zV las ?_;refine zV lar ?_;refine zE laf ?_;refine zV lab ?_;refine zn (zre ?_)
      refine rq ?_
      exact la4 (o := Out.zero) (b := false) (by exact .inr rfl) (by exact rfl) (by exact rfl) rfl (by exact rfl) [] (by exact zo) (by exact ⟨⟨_, rfl, laX _⟩, ⟨_, rfl, WkBlk.refl _⟩, zo⟩) (by exact rfl) (by exact ⟨la8 hcc ⟨_, _, _, _, rfl, Nat.le_refl _⟩, laY hk.cl, zo⟩) rfl
    | inr o =>
      obtain ⟨t1, env1, vv', n', F', rows', hvv, hcl', hc⟩ := hd
      refine ⟨t1, env1, vv', n', F', rows', hvv, hcl', ?_⟩
      refine lbe Tryz.func66 rfl (by kernel_rfl) (Nat.le_of_ble_eq_true rfl) (by exact ⟨⟨rfl, zo⟩, ⟨rfl, (show vv ≤ vv' from hvv)⟩, zo⟩) (by simp [namesL]) ?_
      refine zQ ?_;refine zM lan ?_;refine zM lah ?_;refine zV lab ?_;refine zn (zQ ?_);refine zV laa ?_;refine zV lag ?_;refine zV lad ?_;refine zV lae ?_;refine zV lab ?_;refine zn (zQ ?_);refine zV laa ?_;refine zV lag ?_;refine zV lad ?_;refine zE lax ?_;refine zn (zq (zQ ?_));refine zV lad ?_;refine zV lae ?_;refine zn (zbl (zQ ?_));refine zV lac ?_;refine zV lab ?_;refine zn ?_;refine zcF ?_;refine zq (zQ ?_);refine zV lac ?_;refine zV lab ?_;refine zn ?_;refine zcF ?_;refine zQ ?_;refine zV lac ?_;refine zV lab ?_;refine zn ?_;refine zcF ?_;refine zR ?_;refine zV lac ?_;refine zV lab ?_;refine zn ?_;refine zcF ?_;refine zQ ?_;refine zV lac ?_;refine zV lab ?_;refine zn ?_;refine zcF ?_;refine zQ ?_;refine zV lac ?_;refine zV lab ?_;refine zn ?_;refine zcT ?_;refine zQ ?_;refine zV laa ?_;refine zV lad ?_;refine zV lae ?_;refine zV laa ?_
      refine zY (lat hc rfl (by refine ⟨_, _, rfl, (by exact LeU.of_eq rfl zo), (by exact Exists.intro _ rfl), ?_⟩;refine zC ?_;refine zC ?_;exact rfl) (by exact ⟨rfl, rfl, zo⟩) (by exact rfl) (by simp [namesL]) (by exact ⟨la8 rfl ⟨_, _, _, _, rfl, Nat.le_refl _⟩, laY hcl, zo⟩)) ?_
      refine zV las ?_;refine zV lar ?_;refine zE laf ?_;refine zV lab ?_;refine zn (zre ?_)
      refine rq ?_
      exact la4 (o := o) (b := true) (by exact .inr rfl) (by exact rfl) (by exact rfl) rfl (by exact rfl) [] (by exact zo) (by exact ⟨⟨_, rfl, laX _⟩, ⟨_, rfl, WkBlk.refl _⟩, zo⟩) (by exact rfl) (by exact ⟨la8 rfl ⟨_, _, _, _, rfl, Nat.le_refl _⟩, laY hcl', zo⟩) rfl
  | casts ff ft at' back =>
    simp only [leaveM] at hr
    cases hc : castV v ff ft at' back with
    | inl u =>
      rw [hc] at hr
      cases hr
      refine ⟨_, vv, n, rows, Nat.le_refl _, ⟨t, env, rfl⟩, hs, ?_⟩
      refine zB2 Tryz.func66 ?_
      refine zQ ?_;refine zM lan ?_;refine zM lah ?_;refine zV lab ?_;refine zn (zQ ?_);refine zV laa ?_;refine zV lag ?_;refine zV lad ?_;refine zV lae ?_;refine zV lab ?_;refine zn (zQ ?_);refine zV laa ?_;refine zV lag ?_;refine zV lad ?_;refine zE lax ?_;refine zn (zq (zQ ?_));refine zV lad ?_;refine zV lae ?_;refine zn (zbl (zQ ?_));refine zV lac ?_;refine zV lab ?_;refine zn ?_;refine zcF ?_;refine zq (zQ ?_);refine zV lac ?_;refine zV lab ?_;refine zn ?_;refine zcF ?_;refine zQ ?_;refine zV lac ?_;refine zV lab ?_;refine zn ?_;refine zcF ?_;refine zR ?_;refine zV lac ?_;refine zV lab ?_;refine zn ?_;refine zcF ?_;refine zQ ?_;refine zV lac ?_;refine zV lab ?_;refine zn ?_;refine zcF ?_;refine zQ ?_;refine zV lac ?_;refine zV lab ?_;refine zn ?_;refine zcF ?_;refine zQ ?_;refine zV lac ?_;refine zV lab ?_;refine zn ?_;refine zcT ?_;refine zQ ?_;refine zV laa ?_;refine zV laa ?_;refine zV lad ?_;refine zV (laj rfl rfl (by exact Cut.cons (by exact rfl) (Cut.cons (by exact rfl) Cut.nil))) ?_;refine zV lad ?_;refine zV (laj rfl rfl (by exact Cut.cons (by exact rfl) (Cut.cons (by exact rfl) Cut.nil))) ?_;refine zV lad ?_;refine zV lae ?_;refine zV lad ?_;refine zV lae ?_
      refine zY (lat (cast_a v ff ft at' back t env vv n F _ hcl) rfl (by refine ⟨_, _, rfl, (by exact LeU.of_eq rfl zo), (by exact Exists.intro _ rfl), ?_⟩;refine zC ?_;refine zC2 ?_;refine zC2 ?_;refine zC ?_;refine zC ?_;exact rfl) (by exact ⟨rfl, rfl, zo⟩) (by exact rfl) (by simp [namesL]) (by exact ⟨la8 rfl ⟨_, _, _, _, rfl, Nat.le_refl _⟩, laY hcl, zo⟩)) ?_
      rw [hc]
      refine zV las ?_;refine zV lar ?_;refine zE laf ?_;refine zV lab ?_;refine zn (zre ?_)
      refine rq ?_
      exact la4 (o := Out.zero) (b := false) (by exact .inr rfl) (by exact rfl) (by exact rfl) rfl (by exact rfl) [] (by exact zo) (by exact ⟨⟨_, rfl, laX _⟩, ⟨_, rfl, WkBlk.refl _⟩, zo⟩) (by exact rfl) (by exact ⟨la8 rfl ⟨_, _, _, _, rfl, Nat.le_refl _⟩, laY hcl, zo⟩) rfl
    | inr o =>
      rw [hc] at hr
      cases hr
      refine ⟨t, env, vv, n, F, rows, Nat.le_refl _, hcl, ?_⟩
      refine zB2 Tryz.func66 ?_
      refine zQ ?_;refine zM lan ?_;refine zM lah ?_;refine zV lab ?_;refine zn (zQ ?_);refine zV laa ?_;refine zV lag ?_;refine zV lad ?_;refine zV lae ?_;refine zV lab ?_;refine zn (zQ ?_);refine zV laa ?_;refine zV lag ?_;refine zV lad ?_;refine zE lax ?_;refine zn (zq (zQ ?_));refine zV lad ?_;refine zV lae ?_;refine zn (zbl (zQ ?_));refine zV lac ?_;refine zV lab ?_;refine zn ?_;refine zcF ?_;refine zq (zQ ?_);refine zV lac ?_;refine zV lab ?_;refine zn ?_;refine zcF ?_;refine zQ ?_;refine zV lac ?_;refine zV lab ?_;refine zn ?_;refine zcF ?_;refine zR ?_;refine zV lac ?_;refine zV lab ?_;refine zn ?_;refine zcF ?_;refine zQ ?_;refine zV lac ?_;refine zV lab ?_;refine zn ?_;refine zcF ?_;refine zQ ?_;refine zV lac ?_;refine zV lab ?_;refine zn ?_;refine zcF ?_;refine zQ ?_;refine zV lac ?_;refine zV lab ?_;refine zn ?_;refine zcT ?_;refine zQ ?_;refine zV laa ?_;refine zV laa ?_;refine zV lad ?_;refine zV (laj rfl rfl (by exact Cut.cons (by exact rfl) (Cut.cons (by exact rfl) Cut.nil))) ?_;refine zV lad ?_;refine zV (laj rfl rfl (by exact Cut.cons (by exact rfl) (Cut.cons (by exact rfl) Cut.nil))) ?_;refine zV lad ?_;refine zV lae ?_;refine zV lad ?_;refine zV lae ?_
      refine zY (lat (cast_a v ff ft at' back t env vv n F _ hcl) rfl (by refine ⟨_, _, rfl, (by exact LeU.of_eq rfl zo), (by exact Exists.intro _ rfl), ?_⟩;refine zC ?_;refine zC2 ?_;refine zC2 ?_;refine zC ?_;refine zC ?_;exact rfl) (by exact ⟨rfl, rfl, zo⟩) (by exact rfl) (by simp [namesL]) (by exact ⟨la8 rfl ⟨_, _, _, _, rfl, Nat.le_refl _⟩, laY hcl, zo⟩)) ?_
      rw [hc]
      refine zV las ?_;refine zV lar ?_;refine zE laf ?_;refine zV lab ?_;refine zn (zre ?_)
      refine rq ?_
      exact la4 (o := o) (b := true) (by exact .inr rfl) (by exact rfl) (by exact rfl) rfl (by exact rfl) [] (by exact zo) (by exact ⟨⟨_, rfl, laX _⟩, ⟨_, rfl, WkBlk.refl _⟩, zo⟩) (by exact rfl) (by exact ⟨la8 rfl ⟨_, _, _, _, rfl, Nat.le_refl _⟩, laY hcl, zo⟩) rfl
  | second tt g =>
    simp only [leaveM] at hr
    cases h8 : (tt.k == 8) with
    | true =>
      rw [h8, if_pos rfl] at hr
      have hd := call_a g v t env s F vv n rows hs hL hF r hr
      cases r with
      | inl m =>
        obtain ⟨cells, vv', n', rows', hvv, hm, hk, hc⟩ := hd
        refine ⟨cells, vv', n', rows', hvv, hm, hk, ?_⟩
        obtain ⟨t1, env1, c1, hcc, rfl⟩ := hm.form
        refine lbe Tryz.func66 rfl (by kernel_rfl) (Nat.le_of_ble_eq_true rfl) (by exact ⟨⟨rfl, zo⟩, ⟨rfl, (show vv ≤ vv' from hvv)⟩, zo⟩) (by simp [namesL]) ?_
        refine zQ ?_;refine zM lan ?_;refine zM lah ?_;refine zV lab ?_;refine zn (zQ ?_);refine zV laa ?_;refine zV lag ?_;refine zV lad ?_;refine zV lae ?_;refine zV lab ?_;refine zn (zQ ?_);refine zV laa ?_;refine zV lag ?_;refine zV lad ?_;refine zE lax ?_;refine zn (zq (zQ ?_));refine zV lad ?_;refine zV lae ?_;refine zn (zbl (zQ ?_));refine zV lac ?_;refine zV lab ?_;refine zn ?_;refine zcF ?_;refine zq (zQ ?_);refine zV lac ?_;refine zV lab ?_;refine zn ?_;refine zcF ?_;refine zQ ?_;refine zV lac ?_;refine zV lab ?_;refine zn ?_;refine zcF ?_;refine zR ?_;refine zV lac ?_;refine zV lab ?_;refine zn ?_;refine zcF ?_;refine zQ ?_;refine zV lac ?_;refine zV lab ?_;refine zn ?_;refine zcT ?_;refine zq (zQ ?_);refine zV lad ?_;refine zV lad ?_;refine zV lae ?_;refine zV lac ?_;refine zn ?_;refine zaT ?_;refine zQ ?_;refine zV laa ?_;refine zV lad ?_;refine zV lae ?_;refine zV laa ?_
        refine zY (lat hc rfl (by refine ⟨_, _, rfl, (by exact LeU.of_eq rfl zo), (by exact Exists.intro _ rfl), ?_⟩;refine zC ?_;refine zC ?_;exact rfl) (by exact ⟨rfl, rfl, zo⟩) (by exact rfl) (by simp [namesL]) (by exact ⟨la8 rfl ⟨_, _, _, _, rfl, Nat.le_refl _⟩, laY hcl, zo⟩)) ?_
        refine zV las ?_;refine zV lar ?_;refine zE laf ?_;refine zV lab ?_;refine zn (zre ?_)
        refine rq ?_
        exact la4 (o := Out.zero) (b := false) (by exact .inr rfl) (by exact rfl) (by exact rfl) rfl (by exact rfl) [] (by exact zo) (by exact ⟨⟨_, rfl, laX _⟩, ⟨_, rfl, WkBlk.refl _⟩, zo⟩) (by exact rfl) (by exact ⟨la8 hcc ⟨_, _, _, _, rfl, Nat.le_refl _⟩, laY hk.cl, zo⟩) rfl
      | inr o =>
        obtain ⟨t1, env1, vv', n', F', rows', hvv, hcl', hc⟩ := hd
        refine ⟨t1, env1, vv', n', F', rows', hvv, hcl', ?_⟩
        refine lbe Tryz.func66 rfl (by kernel_rfl) (Nat.le_of_ble_eq_true rfl) (by exact ⟨⟨rfl, zo⟩, ⟨rfl, (show vv ≤ vv' from hvv)⟩, zo⟩) (by simp [namesL]) ?_
        refine zQ ?_;refine zM lan ?_;refine zM lah ?_;refine zV lab ?_;refine zn (zQ ?_);refine zV laa ?_;refine zV lag ?_;refine zV lad ?_;refine zV lae ?_;refine zV lab ?_;refine zn (zQ ?_);refine zV laa ?_;refine zV lag ?_;refine zV lad ?_;refine zE lax ?_;refine zn (zq (zQ ?_));refine zV lad ?_;refine zV lae ?_;refine zn (zbl (zQ ?_));refine zV lac ?_;refine zV lab ?_;refine zn ?_;refine zcF ?_;refine zq (zQ ?_);refine zV lac ?_;refine zV lab ?_;refine zn ?_;refine zcF ?_;refine zQ ?_;refine zV lac ?_;refine zV lab ?_;refine zn ?_;refine zcF ?_;refine zR ?_;refine zV lac ?_;refine zV lab ?_;refine zn ?_;refine zcF ?_;refine zQ ?_;refine zV lac ?_;refine zV lab ?_;refine zn ?_;refine zcT ?_;refine zq (zQ ?_);refine zV lad ?_;refine zV lad ?_;refine zV lae ?_;refine zV lac ?_;refine zn ?_;refine zaT ?_;refine zQ ?_;refine zV laa ?_;refine zV lad ?_;refine zV lae ?_;refine zV laa ?_
        refine zY (lat hc rfl (by refine ⟨_, _, rfl, (by exact LeU.of_eq rfl zo), (by exact Exists.intro _ rfl), ?_⟩;refine zC ?_;refine zC ?_;exact rfl) (by exact ⟨rfl, rfl, zo⟩) (by exact rfl) (by simp [namesL]) (by exact ⟨la8 rfl ⟨_, _, _, _, rfl, Nat.le_refl _⟩, laY hcl, zo⟩)) ?_
        refine zV las ?_;refine zV lar ?_;refine zE laf ?_;refine zV lab ?_;refine zn (zre ?_)
        refine rq ?_
        exact la4 (o := o) (b := true) (by exact .inr rfl) (by exact rfl) (by exact rfl) rfl (by exact rfl) [] (by exact zo) (by exact ⟨⟨_, rfl, laX _⟩, ⟨_, rfl, WkBlk.refl _⟩, zo⟩) (by exact rfl) (by exact ⟨la8 rfl ⟨_, _, _, _, rfl, Nat.le_refl _⟩, laY hcl', zo⟩) rfl
    | false =>
      rw [h8, if_neg (by decide)] at hr
      cases h2 : twoV tt.k g v with
      | none => rw [h2] at hr; cases hr
      | some q =>
      rw [h2] at hr
      cases q with
      | inl u =>
        cases hr
        refine ⟨_, vv, n, rows, Nat.le_refl _, ⟨t, env, rfl⟩, hs, ?_⟩
        refine zB2 Tryz.func66 ?_
        refine zQ ?_;refine zM lan ?_;refine zM lah ?_;refine zV lab ?_;refine zn (zQ ?_);refine zV laa ?_;refine zV lag ?_;refine zV lad ?_;refine zV lae ?_;refine zV lab ?_;refine zn (zQ ?_);refine zV laa ?_;refine zV lag ?_;refine zV lad ?_;refine zE lax ?_;refine zn (zq (zQ ?_));refine zV lad ?_;refine zV lae ?_;refine zn (zbl (zQ ?_));refine zV lac ?_;refine zV lab ?_;refine zn ?_;refine zcF ?_;refine zq (zQ ?_);refine zV lac ?_;refine zV lab ?_;refine zn ?_;refine zcF ?_;refine zQ ?_;refine zV lac ?_;refine zV lab ?_;refine zn ?_;refine zcF ?_;refine zR ?_;refine zV lac ?_;refine zV lab ?_;refine zn ?_;refine zcF ?_;refine zQ ?_;refine zV lac ?_;refine zV lab ?_;refine zn ?_;refine zcT ?_;refine zq (zQ ?_);refine zV lad ?_;refine zV lad ?_;refine zV lae ?_;refine zV lac ?_;refine zn ?_;refine zaF ?_;refine zsk (zQ ?_);refine zV laa ?_;refine zV lad ?_;refine zV lad ?_;refine zV lae ?_;refine zV lad ?_;refine zV lae ?_;refine zV laa ?_
        refine zY (lat (two_a tt.k g v _ h2 t env vv n F _ hcl) rfl (by refine ⟨_, _, rfl, (by exact LeU.of_eq rfl zo), (by exact Exists.intro _ rfl), ?_⟩;refine zC ?_;refine zC ?_;refine zC ?_;exact rfl) (by exact ⟨rfl, rfl, zo⟩) (by exact rfl) (by simp [namesL]) (by exact ⟨la8 rfl ⟨_, _, _, _, rfl, Nat.le_refl _⟩, laY hcl, zo⟩)) ?_
        refine zV las ?_;refine zV lar ?_;refine zE laf ?_;refine zV lab ?_;refine zn (zre ?_)
        refine rq ?_
        exact la4 (o := Out.zero) (b := false) (by exact .inr rfl) (by exact rfl) (by exact rfl) rfl (by exact rfl) [] (by exact zo) (by exact ⟨⟨_, rfl, laX _⟩, ⟨_, rfl, WkBlk.refl _⟩, zo⟩) (by exact rfl) (by exact ⟨la8 rfl ⟨_, _, _, _, rfl, Nat.le_refl _⟩, laY hcl, zo⟩) rfl
      | inr o =>
        cases hr
        refine ⟨t, env, vv, n, F, rows, Nat.le_refl _, hcl, ?_⟩
        refine zB2 Tryz.func66 ?_
        refine zQ ?_;refine zM lan ?_;refine zM lah ?_;refine zV lab ?_;refine zn (zQ ?_);refine zV laa ?_;refine zV lag ?_;refine zV lad ?_;refine zV lae ?_;refine zV lab ?_;refine zn (zQ ?_);refine zV laa ?_;refine zV lag ?_;refine zV lad ?_;refine zE lax ?_;refine zn (zq (zQ ?_));refine zV lad ?_;refine zV lae ?_;refine zn (zbl (zQ ?_));refine zV lac ?_;refine zV lab ?_;refine zn ?_;refine zcF ?_;refine zq (zQ ?_);refine zV lac ?_;refine zV lab ?_;refine zn ?_;refine zcF ?_;refine zQ ?_;refine zV lac ?_;refine zV lab ?_;refine zn ?_;refine zcF ?_;refine zR ?_;refine zV lac ?_;refine zV lab ?_;refine zn ?_;refine zcF ?_;refine zQ ?_;refine zV lac ?_;refine zV lab ?_;refine zn ?_;refine zcT ?_;refine zq (zQ ?_);refine zV lad ?_;refine zV lad ?_;refine zV lae ?_;refine zV lac ?_;refine zn ?_;refine zaF ?_;refine zsk (zQ ?_);refine zV laa ?_;refine zV lad ?_;refine zV lad ?_;refine zV lae ?_;refine zV lad ?_;refine zV lae ?_;refine zV laa ?_
        refine zY (lat (two_a tt.k g v _ h2 t env vv n F _ hcl) rfl (by refine ⟨_, _, rfl, (by exact LeU.of_eq rfl zo), (by exact Exists.intro _ rfl), ?_⟩;refine zC ?_;refine zC ?_;refine zC ?_;exact rfl) (by exact ⟨rfl, rfl, zo⟩) (by exact rfl) (by simp [namesL]) (by exact ⟨la8 rfl ⟨_, _, _, _, rfl, Nat.le_refl _⟩, laY hcl, zo⟩)) ?_
        refine zV las ?_;refine zV lar ?_;refine zE laf ?_;refine zV lab ?_;refine zn (zre ?_)
        refine rq ?_
        exact la4 (o := o) (b := true) (by exact .inr rfl) (by exact rfl) (by exact rfl) rfl (by exact rfl) [] (by exact zo) (by exact ⟨⟨_, rfl, laX _⟩, ⟨_, rfl, WkBlk.refl _⟩, zo⟩) (by exact rfl) (by exact ⟨la8 rfl ⟨_, _, _, _, rfl, Nat.le_refl _⟩, laY hcl, zo⟩) rfl
  | term tt te =>
    simp only [leaveM] at hr
    cases h6 : (tt.k == 6) with
    | true =>
      rw [h6, if_pos rfl] at hr
      cases v with
      | num p =>
        cases hr
        refine ⟨t, env, vv, n, F, rows, Nat.le_refl _, hcl, ?_⟩
        refine zB2 Tryz.func66 ?_
        refine zQ ?_;refine zM lan ?_;refine zM lah ?_;refine zV lab ?_;refine zn (zQ ?_);refine zV laa ?_;refine zV lag ?_;refine zV lad ?_;refine zV lae ?_;refine zV lab ?_;refine zn (zQ ?_);refine zV laa ?_;refine zV lag ?_;refine zV lad ?_;refine zE lax ?_;refine zn (zq (zQ ?_));refine zV lad ?_;refine zV lae ?_;refine zn (zbl (zQ ?_));refine zV lac ?_;refine zV lab ?_;refine zn ?_;refine zaT ?_;refine zq (zQ ?_);refine zV laa ?_;refine zV lag ?_;refine zV lak ?_;refine zV lai ?_;refine zV lac ?_;refine zn ?_;refine zcT ?_;refine zQ ?_
        refine zV (lal lbq) ?_
        refine zV las ?_;refine zV lar ?_;refine zE laf ?_;refine zV lab ?_;refine zn (zre ?_)
        refine rq ?_
        exact la4 (o := Out.stuck) (b := true) (by exact .inr rfl) (by exact rfl) (by exact rfl) rfl (by exact rfl) [] (by exact zo) (by exact ⟨⟨_, rfl, laX _⟩, ⟨_, rfl, WkBlk.refl _⟩, zo⟩) (by exact rfl) (by exact ⟨la8 rfl ⟨_, _, _, _, rfl, Nat.le_refl _⟩, laY hcl, zo⟩) rfl
      | clo p p2 =>
        cases hr
        refine ⟨t, env, vv, n, F, rows, Nat.le_refl _, hcl, ?_⟩
        refine zB2 Tryz.func66 ?_
        refine zQ ?_;refine zM lan ?_;refine zM lah ?_;refine zV lab ?_;refine zn (zQ ?_);refine zV laa ?_;refine zV lag ?_;refine zV lad ?_;refine zV lae ?_;refine zV lab ?_;refine zn (zQ ?_);refine zV laa ?_;refine zV lag ?_;refine zV lad ?_;refine zE lax ?_;refine zn (zq (zQ ?_));refine zV lad ?_;refine zV lae ?_;refine zn (zbl (zQ ?_));refine zV lac ?_;refine zV lab ?_;refine zn ?_;refine zaT ?_;refine zq (zQ ?_);refine zV laa ?_;refine zV lag ?_;refine zV lak ?_;refine zV lai ?_;refine zV lac ?_;refine zn ?_;refine zcT ?_;refine zQ ?_
        refine zV (lal lbq) ?_
        refine zV las ?_;refine zV lar ?_;refine zE laf ?_;refine zV lab ?_;refine zn (zre ?_)
        refine rq ?_
        exact la4 (o := Out.stuck) (b := true) (by exact .inr rfl) (by exact rfl) (by exact rfl) rfl (by exact rfl) [] (by exact zo) (by exact ⟨⟨_, rfl, laX _⟩, ⟨_, rfl, WkBlk.refl _⟩, zo⟩) (by exact rfl) (by exact ⟨la8 rfl ⟨_, _, _, _, rfl, Nat.le_refl _⟩, laY hcl, zo⟩) rfl
      | wrap p p2 p3 p4 p5 =>
        cases hr
        refine ⟨t, env, vv, n, F, rows, Nat.le_refl _, hcl, ?_⟩
        refine zB2 Tryz.func66 ?_
        refine zQ ?_;refine zM lan ?_;refine zM lah ?_;refine zV lab ?_;refine zn (zQ ?_);refine zV laa ?_;refine zV lag ?_;refine zV lad ?_;refine zV lae ?_;refine zV lab ?_;refine zn (zQ ?_);refine zV laa ?_;refine zV lag ?_;refine zV lad ?_;refine zE lax ?_;refine zn (zq (zQ ?_));refine zV lad ?_;refine zV lae ?_;refine zn (zbl (zQ ?_));refine zV lac ?_;refine zV lab ?_;refine zn ?_;refine zaT ?_;refine zq (zQ ?_);refine zV laa ?_;refine zV lag ?_;refine zV lak ?_;refine zV lai ?_;refine zV lac ?_;refine zn ?_;refine zcT ?_;refine zQ ?_
        refine zV (lal lbq) ?_
        refine zV las ?_;refine zV lar ?_;refine zE laf ?_;refine zV lab ?_;refine zn (zre ?_)
        refine rq ?_
        exact la4 (o := Out.stuck) (b := true) (by exact .inr rfl) (by exact rfl) (by exact rfl) rfl (by exact rfl) [] (by exact zo) (by exact ⟨⟨_, rfl, laX _⟩, ⟨_, rfl, WkBlk.refl _⟩, zo⟩) (by exact rfl) (by exact ⟨la8 rfl ⟨_, _, _, _, rfl, Nat.le_refl _⟩, laY hcl, zo⟩) rfl
      | tag p p2 =>
        cases hr
        refine ⟨t, env, vv, n, F, rows, Nat.le_refl _, hcl, ?_⟩
        refine zB2 Tryz.func66 ?_
        refine zQ ?_;refine zM lan ?_;refine zM lah ?_;refine zV lab ?_;refine zn (zQ ?_);refine zV laa ?_;refine zV lag ?_;refine zV lad ?_;refine zV lae ?_;refine zV lab ?_;refine zn (zQ ?_);refine zV laa ?_;refine zV lag ?_;refine zV lad ?_;refine zE lax ?_;refine zn (zq (zQ ?_));refine zV lad ?_;refine zV lae ?_;refine zn (zbl (zQ ?_));refine zV lac ?_;refine zV lab ?_;refine zn ?_;refine zaT ?_;refine zq (zQ ?_);refine zV laa ?_;refine zV lag ?_;refine zV lak ?_;refine zV lai ?_;refine zV lac ?_;refine zn ?_;refine zcT ?_;refine zQ ?_
        refine zV (lal lbq) ?_
        refine zV las ?_;refine zV lar ?_;refine zE laf ?_;refine zV lab ?_;refine zn (zre ?_)
        refine rq ?_
        exact la4 (o := Out.stuck) (b := true) (by exact .inr rfl) (by exact rfl) (by exact rfl) rfl (by exact rfl) [] (by exact zo) (by exact ⟨⟨_, rfl, laX _⟩, ⟨_, rfl, WkBlk.refl _⟩, zo⟩) (by exact rfl) (by exact ⟨la8 rfl ⟨_, _, _, _, rfl, Nat.le_refl _⟩, laY hcl, zo⟩) rfl
      | tru p =>
        simp only at hr
        cases hl : tt.l with
        | nil => rw [hl] at hr; cases hr
        | cons l0 l =>
        cases l with
        | nil => rw [hl] at hr; cases hr
        | cons l1 l =>
        cases l with
        | nil => rw [hl] at hr; cases hr
        | cons l2 l =>
        cases l with
        | cons l3 l => rw [hl] at hr; cases hr
        | nil =>
        rw [hl] at hr
        simp only at hr
        have e1 : (tmRows tt.l)[1]? = some l1.c := by rw [hl, lbX]; rfl
        have e2 : (tmRows tt.l)[2]? = some l2.c := by rw [hl, lbX]; rfl
        by_cases hp1 : p = 1
        · subst hp1
          rw [if_pos (by decide)] at hr
          cases hr
          refine ⟨_, vv, n, rows, Nat.le_refl _, (by exact rfl), hs, ?_⟩
          refine zB2 Tryz.func66 ?_
          refine zQ ?_;refine zM lan ?_;refine zM lah ?_;refine zV lab ?_;refine zn (zQ ?_);refine zV laa ?_;refine zV lag ?_;refine zV lad ?_;refine zV lae ?_;refine zV lab ?_;refine zn (zQ ?_);refine zV laa ?_;refine zV lag ?_;refine zV lad ?_;refine zE lax ?_;refine zn (zq (zQ ?_));refine zV lad ?_;refine zV lae ?_;refine zn (zbl (zQ ?_));refine zV lac ?_;refine zV lab ?_;refine zn ?_;refine zaT ?_;refine zq (zQ ?_);refine zV laa ?_;refine zV lag ?_;refine zV lak ?_;refine zV lai ?_;refine zV lac ?_;refine zn ?_;refine zcF ?_;refine zsk ?_;refine zRD ?_;refine zV laa ?_;refine zV laa ?_;refine zV lad ?_;refine zV lad ?_;refine zV lae ?_;refine zV laa ?_;refine zV lag ?_;refine zV lak ?_;refine zV lai ?_;refine zV laJ ?_;refine zV (lap _) ?_;refine zV lao ?_;refine zV lad ?_;refine zV lae ?_;refine zV lag ?_;refine zV lad ?_;refine zE lax ?_;refine zV lag ?_;refine zV lad ?_;refine zE lax ?_;refine znD ?_;refine zQ ?_
          refine zV (lal lbO) ?_
          refine zV las ?_;refine zV lar ?_;refine zE laf ?_;refine zV lab ?_;refine zn (zre ?_)
          refine rq ?_
          exact la4 (o := Out.zero) (b := false) (by exact .inr rfl) (by exact rfl) (by exact rfl) rfl (by exact rfl) [] (by exact zo) (by exact ⟨⟨_, rfl, laX _⟩, ⟨_, rfl, WkBlk.refl _⟩, zo⟩) (by exact rfl) (by exact ⟨la8 rfl ⟨_, _, _, _, rfl, Nat.le_refl _⟩, laY hcl, zo⟩) rfl
        · rw [if_neg (by simpa using hp1)] at hr
          by_cases hp0 : p = 0
          · subst hp0
            rw [if_pos (by decide)] at hr
            cases hr
            refine ⟨_, vv, n, rows, Nat.le_refl _, (by exact rfl), hs, ?_⟩
            refine zB2 Tryz.func66 ?_
            refine zQ ?_;refine zM lan ?_;refine zM lah ?_;refine zV lab ?_;refine zn (zQ ?_);refine zV laa ?_;refine zV lag ?_;refine zV lad ?_;refine zV lae ?_;refine zV lab ?_;refine zn (zQ ?_);refine zV laa ?_;refine zV lag ?_;refine zV lad ?_;refine zE lax ?_;refine zn (zq (zQ ?_));refine zV lad ?_;refine zV lae ?_;refine zn (zbl (zQ ?_));refine zV lac ?_;refine zV lab ?_;refine zn ?_;refine zaT ?_;refine zq (zQ ?_);refine zV laa ?_;refine zV lag ?_;refine zV lak ?_;refine zV lai ?_;refine zV lac ?_;refine zn ?_;refine zcF ?_;refine zsk ?_;refine zRD ?_;refine zV laa ?_;refine zV laa ?_;refine zV lad ?_;refine zV lad ?_;refine zV lae ?_;refine zV laa ?_;refine zV lag ?_;refine zV lak ?_;refine zV lai ?_;refine zV laJ ?_;refine zV (lap _) ?_;refine zV lao ?_;refine zV lad ?_;refine zV lae ?_;refine zV lag ?_;refine zV lad ?_;refine zE lax ?_;refine zV lag ?_;refine zV lad ?_;refine zE lax ?_;refine znD ?_;refine zQ ?_
            refine zV (lal lbO) ?_
            refine zV las ?_;refine zV lar ?_;refine zE laf ?_;refine zV lab ?_;refine zn (zre ?_)
            refine rq ?_
            exact la4 (o := Out.zero) (b := false) (by exact .inr rfl) (by exact rfl) (by exact rfl) rfl (by exact rfl) [] (by exact zo) (by exact ⟨⟨_, rfl, laX _⟩, ⟨_, rfl, WkBlk.refl _⟩, zo⟩) (by exact rfl) (by exact ⟨la8 rfl ⟨_, _, _, _, rfl, Nat.le_refl _⟩, laY hcl, zo⟩) rfl
          · rw [if_neg (by simpa using hp0)] at hr
            cases hr
    | false =>
      rw [h6, if_neg (by decide)] at hr
      cases hb : (tt.k == 4 || tt.k == 5 || tt.k == 8) with
      | false => rw [hb, if_neg (by decide)] at hr; cases hr
      | true =>
      rw [hb, if_pos rfl] at hr
      cases hl : tt.l with
      | nil => rw [hl] at hr; cases hr
      | cons l0 l =>
      cases l with
      | nil => rw [hl] at hr; cases hr
      | cons l1 l =>
      rw [hl] at hr
      cases hr
      have e1 : (tmRows tt.l)[1]? = some l1.c := by rw [hl, lbX]; rfl
      have hpcl := (hs.push (.second tt v)).cl
      refine ⟨_, vv + 1, n + 1, _, Nat.le_succ _, (by exact rfl), hs.push _, ?_⟩
      cases h4 : (tt.k == 4) with
      | true =>
        refine lbe Tryz.func66 rfl (by kernel_rfl) (Nat.le_of_ble_eq_true rfl) (by exact ⟨⟨rfl, zo⟩, ⟨rfl, Nat.le_succ _⟩, zo⟩) (by simp [namesL]) ?_
        refine zQ ?_;refine zM lan ?_;refine zM lah ?_;refine zV lab ?_;refine zn (zQ ?_);refine zV laa ?_;refine zV lag ?_;refine zV lad ?_;refine zV lae ?_;refine zV lab ?_;refine zn (zQ ?_);refine zV laa ?_;refine zV lag ?_;refine zV lad ?_;refine zE lax ?_;refine zn (zq (zQ ?_));refine zV lad ?_;refine zV lae ?_;refine zn (zbl (zQ ?_));refine zV lac ?_;refine zV lab ?_;refine zn ?_;refine zaF ?_;refine zq (zQ ?_);refine zV lac ?_;refine zV lab ?_;refine zn ?_;refine zaT ?_;refine zsk ?_;refine zaT ?_;refine zQ ?_;refine zV laa ?_;refine zV lad ?_;refine zV (laj rfl rfl (by exact Cut.cons (by exact rfl) (Cut.cons (by exact rfl) (Cut.cons (by exact rfl) (Cut.cons (by exact rfl) (Cut.cons (by exact rfl) (Cut.cons (by exact rfl) (Cut.cons (by exact rfl) Cut.nil)))))))) ?_;refine zV laa ?_;refine zV laq ?_
        refine zY (lat (ldS (.second tt v) t env .nilp rfl (vv) (n) F rows hs.le hcl (by have := hs.len; omega)) rfl (by refine ⟨_, _, rfl, (by exact LeU.of_eq rfl zo), (by exact Exists.intro _ rfl), ?_⟩;refine ⟨_, _, rfl, (by (refine LeU.agg' rfl ?_;exact ⟨LeC.refl _, LeC.refl _, LeC.refl _, LeC.refl _, LeC.refl _, LeC.refl _, LeC.refl _, LeC.refl _, LeC.refl _, LeC.refl _, LeC.refl _, LeC.nil _, LeC.refl _, LeC.nil _, LeC.refl _, LeC.refl _, zo⟩)), (by exact ⟨zo, zo, zo, zo, zo, zo, zo, zo, zo, zo, zo, zo, zo, zo, zo, zo, zo⟩), ?_⟩;exact rfl) (by exact ⟨rfl, rfl, zo⟩) (by exact rfl) (by simp [namesL]) (by exact ⟨la8 rfl ⟨_, _, _, _, rfl, Nat.le_refl _⟩, laY hcl, zo⟩)) ?_
        refine zn ?_;refine zRD ?_;refine zV laa ?_;refine zV laa ?_;refine zV lad ?_;refine zV lad ?_;refine zV lae ?_;refine zV (lap _) ?_;refine zV lao ?_;refine zV lad ?_;refine zV lae ?_;refine zV lag ?_;refine zV lad ?_;refine zE lax ?_;refine zV lag ?_;refine zV lad ?_;refine zE lax ?_;refine znD ?_;refine zQ ?_
        refine zV (lal lbO) ?_
        refine zV las ?_;refine zV lar ?_;refine zE laf ?_;refine zV lab ?_;refine zn (zre ?_)
        refine rq ?_
        exact la4 (o := Out.zero) (b := false) (by exact .inr rfl) (by exact rfl) (by exact rfl) rfl (by exact rfl) [] (by exact zo) (by exact ⟨⟨_, rfl, laX _⟩, ⟨_, rfl, WkBlk.refl _⟩, zo⟩) (by exact rfl) (by exact ⟨la8 rfl ⟨_, _, _, _, rfl, Nat.le_refl _⟩, laY hpcl, zo⟩) rfl
      | false =>
      cases h5 : (tt.k == 5) with
      | true =>
        refine lbe Tryz.func66 rfl (by kernel_rfl) (Nat.le_of_ble_eq_true rfl) (by exact ⟨⟨rfl, zo⟩, ⟨rfl, Nat.le_succ _⟩, zo⟩) (by simp [namesL]) ?_
        refine zQ ?_;refine zM lan ?_;refine zM lah ?_;refine zV lab ?_;refine zn (zQ ?_);refine zV laa ?_;refine zV lag ?_;refine zV lad ?_;refine zV lae ?_;refine zV lab ?_;refine zn (zQ ?_);refine zV laa ?_;refine zV lag ?_;refine zV lad ?_;refine zE lax ?_;refine zn (zq (zQ ?_));refine zV lad ?_;refine zV lae ?_;refine zn (zbl (zQ ?_));refine zV lac ?_;refine zV lab ?_;refine zn ?_;refine zaF ?_;refine zq (zQ ?_);refine zV lac ?_;refine zV lab ?_;refine zn ?_;refine zaF ?_;refine zQ ?_;refine zV lac ?_;refine zV lab ?_;refine zn ?_;refine zaT ?_;refine zsk ?_;refine zaT ?_;refine zQ ?_;refine zV laa ?_;refine zV lad ?_;refine zV (laj rfl rfl (by exact Cut.cons (by exact rfl) (Cut.cons (by exact rfl) (Cut.cons (by exact rfl) (Cut.cons (by exact rfl) (Cut.cons (by exact rfl) (Cut.cons (by exact rfl) (Cut.cons (by exact rfl) Cut.nil)))))))) ?_;refine zV laa ?_;refine zV laq ?_
        refine zY (lat (ldS (.second tt v) t env .nilp rfl (vv) (n) F rows hs.le hcl (by have := hs.len; omega)) rfl (by refine ⟨_, _, rfl, (by exact LeU.of_eq rfl zo), (by exact Exists.intro _ rfl), ?_⟩;refine ⟨_, _, rfl, (by (refine LeU.agg' rfl ?_;exact ⟨LeC.refl _, LeC.refl _, LeC.refl _, LeC.refl _, LeC.refl _, LeC.refl _, LeC.refl _, LeC.refl _, LeC.refl _, LeC.refl _, LeC.refl _, LeC.nil _, LeC.refl _, LeC.nil _, LeC.refl _, LeC.refl _, zo⟩)), (by exact ⟨zo, zo, zo, zo, zo, zo, zo, zo, zo, zo, zo, zo, zo, zo, zo, zo, zo⟩), ?_⟩;exact rfl) (by exact ⟨rfl, rfl, zo⟩) (by exact rfl) (by simp [namesL]) (by exact ⟨la8 rfl ⟨_, _, _, _, rfl, Nat.le_refl _⟩, laY hcl, zo⟩)) ?_
        refine zn ?_;refine zRD ?_;refine zV laa ?_;refine zV laa ?_;refine zV lad ?_;refine zV lad ?_;refine zV lae ?_;refine zV (lap _) ?_;refine zV lao ?_;refine zV lad ?_;refine zV lae ?_;refine zV lag ?_;refine zV lad ?_;refine zE lax ?_;refine zV lag ?_;refine zV lad ?_;refine zE lax ?_;refine znD ?_;refine zQ ?_
        refine zV (lal lbO) ?_
        refine zV las ?_;refine zV lar ?_;refine zE laf ?_;refine zV lab ?_;refine zn (zre ?_)
        refine rq ?_
        exact la4 (o := Out.zero) (b := false) (by exact .inr rfl) (by exact rfl) (by exact rfl) rfl (by exact rfl) [] (by exact zo) (by exact ⟨⟨_, rfl, laX _⟩, ⟨_, rfl, WkBlk.refl _⟩, zo⟩) (by exact rfl) (by exact ⟨la8 rfl ⟨_, _, _, _, rfl, Nat.le_refl _⟩, laY hpcl, zo⟩) rfl
      | false =>
        have h8 : (tt.k == 8) = true := by rw [h4, h5] at hb; simpa using hb
        refine lbe Tryz.func66 rfl (by kernel_rfl) (Nat.le_of_ble_eq_true rfl) (by exact ⟨⟨rfl, zo⟩, ⟨rfl, Nat.le_succ _⟩, zo⟩) (by simp [namesL]) ?_
        refine zQ ?_;refine zM lan ?_;refine zM lah ?_;refine zV lab ?_;refine zn (zQ ?_);refine zV laa ?_;refine zV lag ?_;refine zV lad ?_;refine zV lae ?_;refine zV lab ?_;refine zn (zQ ?_);refine zV laa ?_;refine zV lag ?_;refine zV lad ?_;refine zE lax ?_;refine zn (zq (zQ ?_));refine zV lad ?_;refine zV lae ?_;refine zn (zbl (zQ ?_));refine zV lac ?_;refine zV lab ?_;refine zn ?_;refine zaF ?_;refine zq (zQ ?_);refine zV lac ?_;refine zV lab ?_;refine zn ?_;refine zaF ?_;refine zQ ?_;refine zV lac ?_;refine zV lab ?_;refine zn ?_;refine zaF ?_;refine zR ?_;refine zV lac ?_;refine zV lab ?_;refine zn ?_;refine zaT ?_;refine zQ ?_;refine zV laa ?_;refine zV lad ?_;refine zV (laj rfl rfl (by exact Cut.cons (by exact rfl) (Cut.cons (by exact rfl) (Cut.cons (by exact rfl) (Cut.cons (by exact rfl) (Cut.cons (by exact rfl) (Cut.cons (by exact rfl) (Cut.cons (by exact rfl) Cut.nil)))))))) ?_;refine zV laa ?_;refine zV laq ?_
        refine zY (lat (ldS (.second tt v) t env .nilp rfl (vv) (n) F rows hs.le hcl (by have := hs.len; omega)) rfl (by refine ⟨_, _, rfl, (by exact LeU.of_eq rfl zo), (by exact Exists.intro _ rfl), ?_⟩;refine ⟨_, _, rfl, (by (refine LeU.agg' rfl ?_;exact ⟨LeC.refl _, LeC.refl _, LeC.refl _, LeC.refl _, LeC.refl _, LeC.refl _, LeC.refl _, LeC.refl _, LeC.refl _, LeC.refl _, LeC.refl _, LeC.nil _, LeC.refl _, LeC.nil _, LeC.refl _, LeC.refl _, zo⟩)), (by exact ⟨zo, zo, zo, zo, zo, zo, zo, zo, zo, zo, zo, zo, zo, zo, zo, zo, zo⟩), ?_⟩;exact rfl) (by exact ⟨rfl, rfl, zo⟩) (by exact rfl) (by simp [namesL]) (by exact ⟨la8 rfl ⟨_, _, _, _, rfl, Nat.le_refl _⟩, laY hcl, zo⟩)) ?_
        refine zn ?_;refine zRD ?_;refine zV laa ?_;refine zV laa ?_;refine zV lad ?_;refine zV lad ?_;refine zV lae ?_;refine zV (lap _) ?_;refine zV lao ?_;refine zV lad ?_;refine zV lae ?_;refine zV lag ?_;refine zV lad ?_;refine zE lax ?_;refine zV lag ?_;refine zV lad ?_;refine zE lax ?_;refine znD ?_;refine zQ ?_
        refine zV (lal lbO) ?_
        refine zV las ?_;refine zV lar ?_;refine zE laf ?_;refine zV lab ?_;refine zn (zre ?_)
        refine rq ?_
        exact la4 (o := Out.zero) (b := false) (by exact .inr rfl) (by exact rfl) (by exact rfl) rfl (by exact rfl) [] (by exact zo) (by exact ⟨⟨_, rfl, laX _⟩, ⟨_, rfl, WkBlk.refl _⟩, zo⟩) (by exact rfl) (by exact ⟨la8 rfl ⟨_, _, _, _, rfl, Nat.le_refl _⟩, laY hpcl, zo⟩) rfl
structure MS where
  t : Tm
  env : List V
  c : C
  vv : Nat
  n : Nat
  F : Nat
  rows : List (List C)
def MS.O (s : MS) : List (Nat × Blk) := [(1000, .obj (mCells s.t s.env s.c s.vv s.n s.F)), (1001, .row 118 16 s.vv s.rows)]
structure MS.Ok (s : MS) : Prop where
  c : closedC s.c = true
  cl : closedRows s.rows = true
  le : s.n ≤ s.rows.length
  lim : s.n ≤ 100000000010
structure MS.Ok2 (s : MS) : Prop where
  c : closedC s.c = true
  cl : closedRows s.rows = true
theorem MS.Ok.ok2 {s : MS} (h : s.Ok) : s.Ok2 := ⟨h.c, h.cl⟩
def goesU : U := .tup [Out.zero.u, .one (.bool false)]
def overU (o : Out) : U := .tup [o.u, .one (.bool true)]
inductive Path (o : Out) (fin : MS) : Nat → MS → Prop
  | enter {k : Nat} {s s' : MS} (ok : s.Ok) (hc : s.c = .nilp) (hv : s.vv ≤ s'.vv) (h : ACalls Tryz.prog 64 [.one (.ptr 1000 0)] s.O goesU s'.O) (hp : Path o fin k s') : Path o fin (k + 1) s
  | enterO {s : MS} (ok : s.Ok) (okf : fin.Ok2) (hc : s.c = .nilp) (hv : s.vv ≤ fin.vv) (h : ACalls Tryz.prog 64 [.one (.ptr 1000 0)] s.O (overU o) fin.O) : Path o fin 0 s
  | leave {k n0 : Nat} {s s' : MS} {v : V} {f : Fr} (ok : s.Ok) (hc : s.c = v.p) (hn : s.n = n0 + 1) (hf : s.rows[n0]? = some f.c) (hv : s.vv ≤ s'.vv) (h : ACalls Tryz.prog 66 [.one (.ptr 1000 0), .agg f.c] ({ s with n := n0 } : MS).O goesU s'.O) (hp : Path o fin k s') : Path o fin (k + 1) s
  | leaveO {n0 : Nat} {s : MS} {v : V} {f : Fr} (ok : s.Ok) (okf : fin.Ok2) (hc : s.c = v.p) (hn : s.n = n0 + 1) (hf : s.rows[n0]? = some f.c) (hv : s.vv ≤ fin.vv) (h : ACalls Tryz.prog 66 [.one (.ptr 1000 0), .agg f.c] ({ s with n := n0 } : MS).O (overU o) fin.O) : Path o fin 0 s
  | seen {v : V} (ok : fin.Ok) (hc : fin.c = v.p) (hn : fin.n = 0) (ho : o = v.seen) : Path o fin 0 fin
theorem Path.vv {o : Out} {fin : MS} {k : Nat} {s : MS} (h : Path o fin k s) : s.vv ≤ fin.vv := by
  induction h with
  | enter _ _ hv _ _ ih => exact Nat.le_trans hv ih
  | enterO _ _ _ hv _ => exact hv
  | leave _ _ _ _ hv _ _ ih => exact Nat.le_trans hv ih
  | leaveO _ _ _ _ _ hv _ => exact hv
  | seen _ _ _ _ => exact Nat.le_refl _
theorem Path.okf {o : Out} {fin : MS} {k : Nat} {s : MS} (h : Path o fin k s) : fin.Ok2 := by
  induction h with
  | enter _ _ _ _ _ ih => exact ih
  | enterO _ okf _ _ _ => exact okf
  | leave _ _ _ _ _ _ _ ih => exact ih
  | leaveO _ okf _ _ _ _ _ => exact okf
  | seen ok _ _ _ => exact ok.ok2
theorem Path.ok {o : Out} {fin : MS} {k : Nat} {s : MS} (h : Path o fin k s) : s.Ok := by
  cases h <;> assumption
theorem StkOk.ok {s : List Fr} {n : Nat} {rows : List (List C)} (h : StkOk s n rows) {t : Tm} {env : List V} {c : C} {vv F : Nat} (hc : closedC c = true) (hl : s.length ≤ 100000000000) : MS.Ok ⟨t, env, c, vv, n, F, rows⟩ :=
  ⟨hc, h.cl, h.le, by show n ≤ _; have := h.len; omega⟩
theorem path_of {k : Nat} {m : Mch} {o : Out} (h : RunsB 100000000000 k m o) : ∀ (cells : List C) (vv n : Nat) (rows : List (List C)), MB m → MOk m cells vv n → StkOk m.stk n rows → ∃ fin s : MS, s.vv = vv ∧ s.rows = rows ∧ s.n = n ∧ cells = mCells s.t s.env s.c s.vv s.n s.F ∧ Path o fin k s := by
  induction h with
  | @fin m o hl hs =>
    obtain ⟨ctl, stk, F⟩ := m
    intro cells vv n rows hb hm hk
    cases ctl with
    | ent t env =>
      have hm : cells = mCells t env .nilp vv n F := hm
      have hd := enter_a t env stk F vv n rows hk hl hb.c.1.n _ hs
      obtain ⟨t1, env1, vv', n', F', rows', hvv, hcl', hc⟩ := hd
      exact ⟨⟨t1, env1, .nilp, vv', n', F', rows'⟩, ⟨t, env, .nilp, vv, n, F, rows⟩, rfl, rfl, rfl, hm, .enterO (hk.ok rfl hl) ⟨rfl, hcl'⟩ rfl hvv hc⟩
    | val v =>
      obtain ⟨t, env, hm⟩ := hm
      cases stk with
      | nil =>
        cases hs
        exact ⟨⟨t, env, v.p, vv, n, F, rows⟩, ⟨t, env, v.p, vv, n, F, rows⟩, rfl, rfl, rfl, hm, .seen (hk.ok rfl (Nat.zero_le _)) rfl hk.len rfl⟩
      | cons f s =>
        obtain ⟨hp, hf⟩ := hk.pop
        have hlen := hk.len
        simp only [List.length_cons] at hlen hl
        have hd := leave_a v f t env s F vv (n - 1) rows hp (by omega) hb.f _ hs
        obtain ⟨t1, env1, vv', n', F', rows', hvv, hcl', hc⟩ := hd
        exact ⟨⟨t1, env1, .nilp, vv', n', F', rows'⟩, ⟨t, env, v.p, vv, n, F, rows⟩, rfl, rfl, rfl, hm, .leaveO (n0 := n - 1) (hk.ok rfl hl) ⟨rfl, hcl'⟩ rfl (by show n = n - 1 + 1; omega) hf hvv hc⟩
  | @go k m m' o hl hs hr ih =>
    obtain ⟨ctl, stk, F⟩ := m
    intro cells vv n rows hb hm hk
    have hb' := step_b hb hs
    cases ctl with
    | ent t env =>
      have hm : cells = mCells t env .nilp vv n F := hm
      have hd := enter_a t env stk F vv n rows hk hl hb.c.1.n _ hs
      obtain ⟨cells', vv', n', rows', hvv, hm', hk', hc⟩ := hd
      obtain ⟨fin, s', rfl, rfl, rfl, rfl, hp⟩ := ih cells' vv' n' rows' hb' hm' hk'
      exact ⟨fin, ⟨t, env, .nilp, vv, n, F, rows⟩, rfl, rfl, rfl, hm, .enter (hk.ok rfl hl) rfl hvv hc hp⟩
    | val v =>
      obtain ⟨t, env, hm⟩ := hm
      cases stk with
      | nil => cases hs
      | cons f s =>
        obtain ⟨hp0, hf⟩ := hk.pop
        have hlen := hk.len
        simp only [List.length_cons] at hlen hl
        have hd := leave_a v f t env s F vv (n - 1) rows hp0 (by omega) hb.f _ hs
        obtain ⟨cells', vv', n', rows', hvv, hm', hk', hc⟩ := hd
        obtain ⟨fin, s', rfl, rfl, rfl, rfl, hp⟩ := ih cells' vv' n' rows' hb' hm' hk'
        exact ⟨fin, ⟨t, env, v.p, vv, n, F, rows⟩, rfl, rfl, rfl, hm, .leave (n0 := n - 1) (hk.ok rfl hl) rfl (by show n = n - 1 + 1; omega) hf hvv hc hp⟩
theorem row_ok {h : Nat → Option Blk} : ∀ {l : List C}, closedRow l = true → AllP (okC h) l
  | [], _ => trivial
  | c :: l, hc => by
    simp only [closedRow, Bool.and_eq_true] at hc
    exact ⟨la5 hc.1, row_ok hc.2⟩
theorem fr_ok {h : Nat → Option Blk} (f : Fr) : okU' h (.agg f.c) := row_ok (lfZ f)
theorem lf0 {P : Program} {x : Tmp} {tx : TypeId} {bx n : Nat} {l l' : List C} {e : Exit} {t : Nat → U} {h : Nat → Option Blk} {O' : List (Nat × Blk)} [T : TAgg P tx n] (he : e = .normal ∨ e = .ret)
    (hx : t x = .one (.ptr bx 0)) (hbx : h bx = some (.obj l)) (hlx : l.length = n)
    (fz : List Nat) (hfz : AllP (ClosedAt h) fz) (hwx : All2 (WkC h fz []) l l') (hO : AllP (fun p => ∃ x0, h p.1 = some x0 ∧ WkBlk h fz [] x0 p.2) O') (hd : disj fz (namesL O') = true)
    (hok : okU' (ofL O') (.agg l')) (hok2 : AllP (fun p => okBlk' (ofL O') p.2) O') {r : U} (hr : r = .agg l') : RetQ P #[.cell x tx] r O' e t h := by
  subst hr
  exact ⟨he, [.agg l], ⟨⟨bx, l, hx, hbx, .inl ⟨n, T, hlx, rfl⟩⟩, zo⟩, ⟨zo, zo⟩, .agg l, rfl, fz, hfz, hwx, hO, hd, hok, hok2⟩
set_option maxHeartbeats 8000000 in
theorem flow_a (o : Out) (fin s0 : MS) (k : Nat) (hp : Path o fin k s0) : ACalls Tryz.prog 37 [.one (.ptr 1000 0)] s0.O o.u fin.O := by
  refine lbe Tryz.func37 rfl (by kernel_rfl) (Nat.le_of_ble_eq_true rfl) (by exact ⟨⟨rfl, zo⟩, ⟨rfl, hp.vv⟩, zo⟩) (by simp [namesL, MS.O]) ?_
  have hcl := hp.ok.cl
  have hcc := hp.ok.c
  refine zQ ?_;refine zM lah ?_;refine zn (zbl ?_)
  refine AW.gh (laZ [(0, .one (.ptr 1000 0)), (2, .one (.ptr 2 0))] [(1000, .obj (mCells (MS.t s0) (MS.env s0) (MS.c s0) (MS.vv s0) (MS.n s0) (MS.F s0))), (1001, .row 118 16 (MS.vv s0) (MS.rows s0)), (2, .obj Out.zero.c)] [] [] ⟨(zw rfl zo), (zw rfl zo), zo⟩ ⟨Or.inl ⟨_, rfl, WkBlk.refl _⟩, Or.inl ⟨_, rfl, WkBlk.refl _⟩, Or.inl ⟨_, rfl, WkBlk.refl _⟩, zo⟩ trivial zo rfl rfl ⟨⟨_, rfl⟩, ⟨_, rfl⟩, zo⟩ ⟨la8 hcc ⟨_, _, _, _, rfl, Nat.le_refl _⟩, laY hcl, (by exact ⟨zo, zo, zo, zo⟩), zo⟩) ?_
  refine AW.loop (fun m t h => ∃ s : MS, Path o fin m s ∧ t = tOfL [(0, .one (.ptr 1000 0)), (2, .one (.ptr 2 0))] ∧ h = ofL [(1000, .obj (mCells (MS.t s) (MS.env s) (MS.c s) (MS.vv s) (MS.n s) (MS.F s))), (1001, .row 118 16 (MS.vv s) (MS.rows s)), (2, .obj Out.zero.c)]) k ⟨s0, hp, rfl, rfl⟩ ?_
  rintro m t h ⟨s, hp, rfl, rfl⟩
  have hcl := hp.ok.cl
  cases hp with
  | enter ok hc hv h hp' =>
    obtain ⟨t1, env1, c1, vv1, n1, F1, rows1⟩ := s
    simp only at hc hcl hv
    subst hc
    refine zbl (zq (zQ ?_));refine zV laa ?_;refine zV lag ?_;refine zV lad ?_;refine zV lae ?_;refine zV (laV rfl rfl) ?_;refine zn ?_;refine zcT ?_;refine zq (zQ ?_);refine zV laa ?_
    refine zY (lat h rfl (by refine ⟨_, _, rfl, (by exact LeU.of_eq rfl zo), (by exact Exists.intro _ rfl), ?_⟩;exact rfl) (by exact ⟨rfl, rfl, zo⟩) (by exact rfl) (by simp [namesL, MS.O]) (by exact ⟨la8 rfl ⟨_, _, _, _, rfl, Nat.le_refl _⟩, laY hcl, zo⟩)) ?_
    refine zV laB ?_;refine zV las ?_;refine zV lar ?_;refine zM lah ?_;refine zE laf ?_;refine zV lab ?_;refine zn (zQ ?_);refine zV laa ?_;refine zn ?_;refine zcF ?_;refine zsk (zex ?_)
    exact ⟨_, _, _, Nat.lt_succ_self _, (laZ [(0, .one (.ptr 1000 0)), (2, .one (.ptr 2 0))] [(1000, .obj (mCells (MS.t _) (MS.env _) (MS.c _) (MS.vv _) (MS.n _) (MS.F _))), (1001, .row 118 16 (MS.vv _) (MS.rows _)), (2, .obj Out.zero.c)] [] [] ⟨(zw rfl zo), (zw rfl zo), zo⟩ ⟨Or.inl ⟨_, rfl, WkBlk.refl _⟩, Or.inl ⟨_, rfl, WkBlk.refl _⟩, Or.inl ⟨_, rfl, WkBlk.refl _⟩, zo⟩ trivial zo rfl rfl ⟨⟨_, rfl⟩, ⟨_, rfl⟩, zo⟩ ⟨la8 hp'.ok.c ⟨_, _, _, _, rfl, Nat.le_refl _⟩, laY hp'.ok.cl, (by exact ⟨zo, zo, zo, zo⟩), zo⟩), _, hp', rfl, rfl⟩
  | enterO ok okf hc hv h =>
    obtain ⟨t1, env1, c1, vv1, n1, F1, rows1⟩ := s
    simp only at hc hcl hv
    subst hc
    refine zbl (zq (zQ ?_));refine zV laa ?_;refine zV lag ?_;refine zV lad ?_;refine zV lae ?_;refine zV (laV rfl rfl) ?_;refine zn ?_;refine zcT ?_;refine zq (zQ ?_);refine zV laa ?_
    refine zY (lat h rfl (by refine ⟨_, _, rfl, (by exact LeU.of_eq rfl zo), (by exact Exists.intro _ rfl), ?_⟩;exact rfl) (by exact ⟨rfl, rfl, zo⟩) (by exact rfl) (by simp [namesL, MS.O]) (by exact ⟨la8 rfl ⟨_, _, _, _, rfl, Nat.le_refl _⟩, laY hcl, zo⟩)) ?_
    refine zV laB ?_;refine zV las ?_;refine zV lar ?_;refine zM lah ?_;refine zE laf ?_;refine zV lab ?_;refine zn (zQ ?_);refine zV laa ?_;refine zn ?_;refine zcT ?_;refine zQ ?_;refine zV laj ?_;refine zE laf ?_;refine zn (zre ?_)
    refine rq ?_
    exact lf0 (by exact .inr rfl) (by exact rfl) (by exact rfl) (by exact rfl) [] (by exact zo) (l' := o.c) (by exact laX _) (by exact ⟨⟨_, rfl, laX _⟩, ⟨_, rfl, WkBlk.refl _⟩, zo⟩) (by exact rfl) (by exact ⟨zo, zo, zo, zo⟩) (by exact ⟨la8 okf.c ⟨_, _, _, _, rfl, Nat.le_refl _⟩, laY okf.cl, zo⟩) rfl
  | leave ok hc hn hf hv h hp' =>
    rename_i n0 s' v f
    obtain ⟨t1, env1, c1, vv1, n1, F1, rows1⟩ := s
    simp only at hc hn hf hcl hv
    subst hc hn
    have hlen0 := ok.le
    have hlim := ok.lim
    simp only at hlen0 hlim
    have hz : ((((n0 + 1 : Nat)) : Int) == 0) = false := by rw [beq_eq_false_iff_ne]; omega
    dsimp only at h ⊢
    refine zbl (zq (zQ ?_));refine zV laa ?_;refine zV lag ?_;refine zV lad ?_;refine zV lae ?_;refine zV (laW rfl rfl rfl) ?_;refine zn ?_;refine zcF ?_;refine zsk (zq (zQ ?_));refine zV laa ?_;refine zV lag ?_;refine zV lad ?_;refine zV lae ?_;refine zV laM ?_;refine zV lac ?_;refine zn ?_;refine zcF ?_;refine zsk (zq ?_);refine zRD ?_;refine zV laa ?_;refine zV lag ?_;refine zV lad ?_;refine zV lae ?_;refine zV laa ?_;refine zV lag ?_;refine zV lad ?_;refine zV lae ?_;refine zV laM ?_;refine zV laJ ?_
    refine zV (laG n0 (by exact rfl) (by exact rfl) (by omega) (by exact rfl) (by omega)) ?_
    refine zV (ld3 (by exact rfl) (by exact rfl) hf (Cut.all (lfl f))) ?_
    refine zM lah ?_
    refine zE (laf rfl rfl rfl rfl (lfl f)) ?_
    refine znD ?_;refine zq ?_;refine zRD ?_;refine zV laa ?_;refine zV laa ?_;refine zV lag ?_;refine zV lad ?_;refine zV lae ?_;refine zV laa ?_;refine zV lag ?_;refine zV lad ?_;refine zV lae ?_;refine zV laM ?_;refine zV laJ ?_
    refine zV (lc2 (n' := n0) (by exact rfl) (by exact rfl) (by omega) (by exact rfl) (by omega) (by omega)) ?_
    refine zV lag ?_;refine zV lad ?_;refine zE lax ?_;refine znD ?_;refine zQ ?_;refine zV laa ?_
    refine zV (laj rfl rfl (Cut.all (lfl f))) ?_
    refine zY (lat h rfl (by exact ⟨_, _, rfl, LeU.of_eq rfl zo, ⟨_, rfl⟩, _, _, rfl, LeU.of_eq rfl zo, fr_ok f, rfl⟩) (by exact ⟨rfl, rfl, zo⟩) (by exact rfl) (by simp [namesL, MS.O]) (by exact ⟨la8 rfl ⟨_, _, _, _, rfl, Nat.le_refl _⟩, laY hcl, zo⟩)) ?_
    refine zV laB ?_;refine zV las ?_;refine zV lar ?_;refine zM lah ?_;refine zE laf ?_;refine zV lab ?_;refine zn (zQ ?_);refine zV laa ?_;refine zn ?_;refine zcF ?_;refine zsk ?_
    exact ⟨_, _, _, Nat.lt_succ_self _, (laZ [(0, .one (.ptr 1000 0)), (2, .one (.ptr 2 0))] [(1000, .obj (mCells (MS.t _) (MS.env _) (MS.c _) (MS.vv _) (MS.n _) (MS.F _))), (1001, .row 118 16 (MS.vv _) (MS.rows _)), (2, .obj Out.zero.c)] [] [] ⟨(zw rfl zo), (zw rfl zo), zo⟩ ⟨Or.inl ⟨_, rfl, WkBlk.refl _⟩, Or.inl ⟨_, rfl, WkBlk.refl _⟩, Or.inl ⟨_, rfl, WkBlk.refl _⟩, zo⟩ trivial zo rfl rfl ⟨⟨_, rfl⟩, ⟨_, rfl⟩, zo⟩ ⟨la8 hp'.ok.c ⟨_, _, _, _, rfl, Nat.le_refl _⟩, laY hp'.ok.cl, (by exact ⟨zo, zo, zo, zo⟩), zo⟩), _, hp', rfl, rfl⟩
  | leaveO ok okf hc hn hf hv h =>
    rename_i n0 v f
    obtain ⟨t1, env1, c1, vv1, n1, F1, rows1⟩ := s
    simp only at hc hn hf hcl hv
    subst hc hn
    have hlen0 := ok.le
    have hlim := ok.lim
    simp only at hlen0 hlim
    have hz : ((((n0 + 1 : Nat)) : Int) == 0) = false := by rw [beq_eq_false_iff_ne]; omega
    dsimp only at h ⊢
    refine zbl (zq (zQ ?_));refine zV laa ?_;refine zV lag ?_;refine zV lad ?_;refine zV lae ?_;refine zV (laW rfl rfl rfl) ?_;refine zn ?_;refine zcF ?_;refine zsk (zq (zQ ?_));refine zV laa ?_;refine zV lag ?_;refine zV lad ?_;refine zV lae ?_;refine zV laM ?_;refine zV lac ?_;refine zn ?_;refine zcF ?_;refine zsk (zq ?_);refine zRD ?_;refine zV laa ?_;refine zV lag ?_;refine zV lad ?_;refine zV lae ?_;refine zV laa ?_;refine zV lag ?_;refine zV lad ?_;refine zV lae ?_;refine zV laM ?_;refine zV laJ ?_
    refine zV (laG n0 (by exact rfl) (by exact rfl) (by omega) (by exact rfl) (by omega)) ?_
    refine zV (ld3 (by exact rfl) (by exact rfl) hf (Cut.all (lfl f))) ?_
    refine zM lah ?_
    refine zE (laf rfl rfl rfl rfl (lfl f)) ?_
    refine znD ?_;refine zq ?_;refine zRD ?_;refine zV laa ?_;refine zV laa ?_;refine zV lag ?_;refine zV lad ?_;refine zV lae ?_;refine zV laa ?_;refine zV lag ?_;refine zV lad ?_;refine zV lae ?_;refine zV laM ?_;refine zV laJ ?_
    refine zV (lc2 (n' := n0) (by exact rfl) (by exact rfl) (by omega) (by exact rfl) (by omega) (by omega)) ?_
    refine zV lag ?_;refine zV lad ?_;refine zE lax ?_;refine znD ?_;refine zQ ?_;refine zV laa ?_
    refine zV (laj rfl rfl (Cut.all (lfl f))) ?_
    refine zY (lat h rfl (by exact ⟨_, _, rfl, LeU.of_eq rfl zo, ⟨_, rfl⟩, _, _, rfl, LeU.of_eq rfl zo, fr_ok f, rfl⟩) (by exact ⟨rfl, rfl, zo⟩) (by exact rfl) (by simp [namesL, MS.O]) (by exact ⟨la8 rfl ⟨_, _, _, _, rfl, Nat.le_refl _⟩, laY hcl, zo⟩)) ?_
    refine zV laB ?_;refine zV las ?_;refine zV lar ?_;refine zM lah ?_;refine zE laf ?_;refine zV lab ?_;refine zn (zQ ?_);refine zV laa ?_;refine zn ?_;refine zcT ?_;refine zQ ?_;refine zV laj ?_;refine zE laf ?_;refine zn (zre ?_)
    refine rq ?_
    exact lf0 (by exact .inr rfl) (by exact rfl) (by exact rfl) (by exact rfl) [] (by exact zo) (l' := o.c) (by exact laX _) (by exact ⟨⟨_, rfl, laX _⟩, ⟨_, rfl, WkBlk.refl _⟩, zo⟩) (by exact rfl) (by exact ⟨zo, zo, zo, zo⟩) (by exact ⟨la8 okf.c ⟨_, _, _, _, rfl, Nat.le_refl _⟩, laY okf.cl, zo⟩) rfl
  | seen ok hc hn ho =>
    obtain ⟨t1, env1, c1, vv1, n1, F1, rows1⟩ := fin
    simp only at hc hcl hn
    subst hc hn ho
    have okf := ok.ok2
    dsimp only
    refine zbl (zq (zQ ?_));refine zV laa ?_;refine zV lag ?_;refine zV lad ?_;refine zV lae ?_;refine zV (laW rfl rfl rfl) ?_;refine zn ?_;refine zcF ?_;refine zsk (zq (zQ ?_));refine zV laa ?_;refine zV lag ?_;refine zV lad ?_;refine zV lae ?_;refine zV laM ?_;refine zV lac ?_;refine zn ?_;refine zcT ?_;refine zQ ?_;refine zV laa ?_;refine zV lag ?_;refine zV lad ?_;refine zV lae ?_
    refine zV (lal (seen_a _) rfl (by refine zC ?_;exact rfl)) ?_
    refine zE laf ?_;refine zn (zre ?_)
    refine rq ?_
    exact lf0 (by exact .inr rfl) (by exact rfl) (by exact rfl) (by exact rfl) [] (by exact zo) (l' := Out.c _) (by exact laX _) (by exact ⟨⟨_, rfl, laX _⟩, ⟨_, rfl, WkBlk.refl _⟩, zo⟩) (by exact rfl) (by exact ⟨zo, zo, zo, zo⟩) (by exact ⟨la8 okf.c ⟨_, _, _, _, rfl, Nat.le_refl _⟩, laY okf.cl, zo⟩) rfl
def BeginIs (t : Tm) (F : Int) (o : Out) (e : Int) : Prop :=
  ((F < 0 ∨ 100 < F) ∧ o = .zero ∧ e = 3) ∨ ∃ f : Nat, F = f ∧ f ≤ 100 ∧ ∃ r, Ev (.tm t []) f r ∧ o = r.told ∧ e = 0
def Low (t : Tm) : Prop := NB t ∧ ∀ (f : Nat) (r : Res) (h : Nat), f ≤ 100 → EvN (.tm t []) f r h → h ≤ 100000000000
theorem flow_of {t : Tm} {f : Nat} {r : Res} (hl : Low t) (hf : f ≤ 100) (he : Ev (.tm t []) f r) : ∃ fin : MS, fin.Ok2 ∧ ACalls Tryz.prog 37 [.one (.ptr 1000 0)] [(1000, .obj (mCells t [] .nilp 0 0 f)), (1001, .row 118 16 0 [])] r.told.u fin.O := by
  obtain ⟨n, hn⟩ := ev_n he
  obtain ⟨k, hk⟩ := ev_runsB hn (hl.2 f r n hf hn)
  have hm : MB ⟨.ent t [], [], f⟩ := ⟨⟨hl.1, fun v hv => by cases hv⟩, (fun g hg => by cases hg), Nat.le_trans hf (by decide)⟩
  obtain ⟨fin, s, h1, h2, h3, h4, hp⟩ := path_of hk (mCells t [] .nilp 0 0 f) 0 0 [] hm rfl ⟨rfl, Nat.le_refl _, rfl, rfl, fun r hr => by cases hr⟩
  have := flow_a r.told fin s k hp
  unfold MS.O at this
  rw [← h4, h1, h2] at this
  exact ⟨fin, hp.okf, this⟩
set_option maxHeartbeats 4000000 in
theorem begin_a (t : Tm) (hl : Low t) (F : Int) (o : Out) (e : Int) (h : BeginIs t F o e) : ACalls Tryz.prog 20 [t.u, .one (.int .i64 F)] [] (.tup [o.u, .one (.int .i64 e)]) [] := by
  rcases h with ⟨hF, rfl, rfl⟩ | ⟨f, rfl, hf, r, hr, rfl, rfl⟩
  · refine zB Tryz.func20 ?_
    cases h0 : decide (F < 0) with
    | true =>
      refine zQ ?_;refine zM lan ?_;refine zM lah ?_;refine zV lab ?_;refine zn (zq (zQ ?_));refine zV laa ?_;refine zV lac ?_;refine zV laa ?_;refine zt ?_;refine zt ?_;refine zV (lam true) ?_;refine zn ?_;refine zcT ?_;refine zQ ?_;refine zV laq ?_;refine zE laf ?_;refine zV lab ?_;refine zn (zre ?_)
      refine rq ?_
      exact lbn (by exact .inr rfl) (by exact rfl) (by exact rfl) (by exact rfl) (by exact rfl) [] trivial (l' := Out.zero.c) (by exact laX _) (by exact .le (.refl _)) (by exact zo) (by exact rfl) (by exact ⟨⟨zo, zo, zo, zo⟩, zo, zo⟩) (by exact zo) (by exact rfl)
    | false =>
      have h1 : decide (F > 100) = true := by
        have := of_decide_eq_false h0
        exact decide_eq_true (by omega)
      refine zQ ?_;refine zM lan ?_;refine zM lah ?_;refine zV lab ?_;refine zn (zq (zQ ?_));refine zV laa ?_;refine zV lac ?_;refine zV laa ?_;refine zF laa ?_;refine zF lac ?_;refine zV (lam false) ?_;refine zn ?_;refine zaT ?_;refine zQ ?_;refine zV laq ?_;refine zE laf ?_;refine zV lab ?_;refine zn (zre ?_)
      refine rq ?_
      exact lbn (by exact .inr rfl) (by exact rfl) (by exact rfl) (by exact rfl) (by exact rfl) [] trivial (l' := Out.zero.c) (by exact laX _) (by exact .le (.refl _)) (by exact zo) (by exact rfl) (by exact ⟨⟨zo, zo, zo, zo⟩, zo, zo⟩) (by exact zo) (by exact rfl)
  · obtain ⟨fin, hfin, hflow⟩ := flow_of hl hf hr
    have h0 : decide ((f : Int) < 0) = false := decide_eq_false (by omega)
    have h1 : decide ((f : Int) > 100) = false := decide_eq_false (by omega)
    refine zB Tryz.func20 ?_
    refine zQ ?_
    refine zM lan ?_
    refine zM lah ?_
    refine zV lab ?_;refine zn (zq (zQ ?_));refine zV laa ?_;refine zV lac ?_;refine zV laa ?_;refine zI laa ?_;refine zI lac ?_;refine zV law ?_;refine zn ?_;refine zaF ?_;refine zsk (zQ ?_);refine zV laj ?_;refine zV laa ?_;refine zV laq ?_
    refine zM (laQ 1000 (by exact rfl) (by exact rfl) (by exact rfl) (by exact rfl)) ?_
    refine zV lab ?_;refine zn ?_
    refine AW.gh (laZ [(4, .one (.ptr 4 0)), (5, .one (.int .i64 0)), (6, .one (.ptr 1000 0))] [(1000, .obj (mCells t [] .nilp 0 0 f)), (1001, .row 118 16 0 []), (4, .obj Out.zero.c)] [] [1001] ⟨(zw rfl zo), (zw rfl zo), (zw rfl zo), zo⟩ ⟨(by (refine Or.inl ⟨_, rfl, ?_⟩; show All2 _ _ _;exact ⟨WkC.le (LeC.refl _), WkC.le (LeC.refl _), WkC.le (LeC.refl _), WkC.le (LeC.refl _), WkC.le (LeC.refl _), WkC.le (LeC.refl _), WkC.le (LeC.refl _), WkC.le (LeC.refl _), WkC.le (LeC.refl _), WkC.nil (List.mem_cons_self ..), WkC.le (LeC.refl _), zo⟩)), (by exact Or.inr ⟨rfl, List.mem_cons_self .., _, _, by decide, rfl⟩), (by exact zb rfl), zo⟩ trivial ⟨rfl, zo⟩ rfl rfl ⟨⟨_, rfl⟩, zo, ⟨_, rfl⟩, zo⟩ ⟨(by exact ⟨zo, zo, zo, zo, zo, zo, zo, zo, zo, ⟨_, _, _, _, rfl, Nat.le_refl _⟩, zo, zo⟩), (laY (by exact rfl)), (by exact ⟨zo, zo, zo, zo⟩), zo⟩) ?_
    refine zQ ?_;refine zV laa ?_
    refine zY (lat hflow rfl (by refine ⟨_, _, rfl, (by exact LeU.of_eq rfl zo), (by exact Exists.intro _ rfl), ?_⟩;exact rfl) (by exact ⟨rfl, rfl, zo⟩) (by exact rfl) (by simp [namesL]) (by exact ⟨la8 rfl ⟨_, _, _, _, rfl, Nat.le_refl _⟩, laY rfl, zo⟩)) ?_
    refine zE laf ?_;refine zV lab ?_;refine zn (zre ?_)
    refine rq ?_
    exact lbn (by exact .inr rfl) (by exact rfl) (by exact rfl) (by exact rfl) (by exact rfl) [] trivial (l' := Out.c _) (by exact laX _) (by exact .le (.refl _)) (by exact zo) (by exact rfl) (by exact ⟨⟨zo, zo, zo, zo⟩, zo, zo⟩) (by exact zo) (by exact rfl)
theorem lc6 {a : Tm} (h : a.Good 0 = true) : a.good 0 ([] : List Ty).length = true := by
  unfold Tm.Good at h
  simp only [Bool.and_eq_true] at h
  exact h.2
def RunIs (a : Tm) (F : Int) (o : Out) (e : Int) : Prop :=
  (a.Good 0 = false ∧ o = .zero ∧ e = 1) ∨ (a.Good 0 = true ∧ walkT a [] 0 = none ∧ o = .zero ∧ e = 2) ∨ ∃ x k, a.Good 0 = true ∧ walkT a [] 0 = some (x, k) ∧ BeginIs x F o e
theorem walk_low {a x : Tm} {k : Ty} (hok : TmOk a) (hg : a.Good 0 = true) (h : walkT a [] 0 = some (x, k)) : Low x ∧ HT [] x k ∧ Right k := by
  obtain ⟨hc, hn⟩ := walk_small hg h
  have hgood := lc6 hg
  obtain ⟨h1, h2⟩ := walk_hd a [] 0 x k hgood (fun t h => by cases h) h
  have h3 := walk_ht a [] 0 x k hgood (fun t h => by cases h) h
  have hsz : a.nodes ≤ 40 := by unfold Tm.Good at hg; simp at hg; have := hg.1; omega
  exact ⟨⟨walk_nb a [] 0 x k hok.nb (by omega) h, fun f r n hf he => stack_le h1 hc hn hf he⟩, h3.1, h3.2⟩
set_option maxHeartbeats 4000000 in
theorem run_a (a : Tm) (hok : TmOk a) (hsz : a.nodes ≤ 1048576) (F : Int) (o : Out) (e : Int) (h : RunIs a F o e) : ACalls Tryz.prog 7 [a.u, .one (.int .i64 F)] [] (.tup [o.u, .one (.int .i64 e)]) [] := by
  have hch := check_a a hok hsz
  refine zB Tryz.func7 ?_
  refine zQ ?_;refine zM lan ?_;refine zM lah ?_;refine zV lab ?_;refine zn (zQ ?_);refine zV laj ?_
  refine zV (lal hch rfl (by refine zC7 ?_;exact rfl)) ?_
  rcases h with ⟨hg, rfl, rfl⟩ | ⟨hg, hw, rfl, rfl⟩ | ⟨x, k, hg, hw, hb⟩
  · rw [show checkU a = errU 1 by unfold checkU; rw [hg]; rfl]
    refine zV laB ?_;refine zV las ?_;refine zV las ?_;refine zV lar ?_;refine zM lah ?_;refine zM lah ?_;refine zE laf ?_;refine zE laf ?_;refine zV lab ?_;refine zn (zq (zQ ?_));refine zV laa ?_;refine zV lac ?_;refine zn ?_;refine zcT ?_;refine zQ ?_;refine zV laq ?_;refine zV laa ?_;refine zE laf ?_;refine zV lab ?_;refine zn (zre ?_)
    refine rq ?_
    exact lbn (by exact .inr rfl) (by exact rfl) (by exact rfl) (by exact rfl) (by exact rfl) [] trivial (l' := Out.zero.c) (by exact laX _) (by exact .le (.refl _)) (by exact zo) (by exact rfl) (by exact ⟨⟨zo, zo, zo, zo⟩, zo, zo⟩) (by exact zo) (by exact rfl)
  · rw [show checkU a = errU 2 by unfold checkU; rw [hg, hw]; rfl]
    refine zV laB ?_;refine zV las ?_;refine zV las ?_;refine zV lar ?_;refine zM lah ?_;refine zM lah ?_;refine zE laf ?_;refine zE laf ?_;refine zV lab ?_;refine zn (zq (zQ ?_));refine zV laa ?_;refine zV lac ?_;refine zn ?_;refine zcT ?_;refine zQ ?_;refine zV laq ?_;refine zV laa ?_;refine zE laf ?_;refine zV lab ?_;refine zn (zre ?_)
    refine rq ?_
    exact lbn (by exact .inr rfl) (by exact rfl) (by exact rfl) (by exact rfl) (by exact rfl) [] trivial (l' := Out.zero.c) (by exact laX _) (by exact .le (.refl _)) (by exact zo) (by exact rfl) (by exact ⟨⟨zo, zo, zo, zo⟩, zo, zo⟩) (by exact zo) (by exact rfl)
  · rw [show checkU a = walkU (some (x, k)) by unfold checkU; rw [hg, hw]; rfl]
    refine zV laB ?_;refine zV las ?_;refine zV las ?_;refine zV lar ?_;refine zM lah ?_;refine zM lah ?_;refine zE laf ?_;refine zE laf ?_;refine zV lab ?_;refine zn (zq (zQ ?_));refine zV laa ?_;refine zV lac ?_;refine zn ?_;refine zcF ?_;refine zsk (zQ ?_);refine zV laj ?_;refine zV laa ?_
    refine zV (lal (begin_a x (walk_low hok hg hw).1 F o e hb) rfl (by refine zC7 ?_;refine zC ?_;exact rfl)) ?_
    refine zV las ?_;refine zV lar ?_;refine zE laf ?_;refine zV lab ?_;refine zn (zre ?_)
    refine rq ?_
    exact lbn (by exact .inr rfl) (by exact rfl) (by exact rfl) (by exact rfl) (by exact rfl) [] trivial (l' := Out.c _) (by exact laX _) (by exact .le (.refl _)) (by exact zo) (by exact rfl) (by exact ⟨⟨zo, zo, zo, zo⟩, zo, zo⟩) (by exact zo) (by exact rfl)
theorem begin_ex (t : Tm) (ht : WfT t) (F : Int) : ∃ o e, BeginIs t F o e := by
  by_cases h : F < 0 ∨ 100 < F
  · exact ⟨_, _, .inl ⟨h, rfl, rfl⟩⟩
  · obtain ⟨f, rfl⟩ : ∃ f : Nat, F = f := ⟨F.toNat, by omega⟩
    obtain ⟨r, hr, _⟩ := tm_ex f t [] ht (fun v hv => by cases hv)
    exact ⟨_, _, .inr ⟨f, rfl, by omega, r, hr, rfl, rfl⟩⟩
theorem run_ex (a : Tm) (F : Int) : ∃ o e, RunIs a F o e := by
  cases hg : a.Good 0 with
  | false => exact ⟨_, _, .inl ⟨hg, rfl, rfl⟩⟩
  | true =>
    cases hw : walkT a [] 0 with
    | none => exact ⟨_, _, .inr (.inl ⟨hg, hw, rfl, rfl⟩)⟩
    | some q =>
      obtain ⟨x, k⟩ := q
      obtain ⟨o, e, h⟩ := begin_ex x (walk_ht a [] 0 x k (lc6 hg) (fun t h => by cases h) hw).1.wf F
      exact ⟨o, e, .inr (.inr ⟨x, k, hg, hw, h⟩)⟩
end Go.Proofs.YtnflnbdlgdjfmabGreatDoor
namespace Go.Proofs.YtnflnbdlgdjfmabGreatDoor
open Go.RowKit
def outEq (o p : Out) : Bool := o.kind == p.kind && (o.n == p.n && o.back == p.back)
theorem outEq_iff {o p : Out} : outEq o p = true ↔ o = p := by
  obtain ⟨a, b, c⟩ := o
  obtain ⟨d, e, f⟩ := p
  simp [outEq]
theorem outEq_refl (o : Out) : outEq o o = true := outEq_iff.2 rfl
theorem eqOutcome (a b c d : Int) (e f : Bool) (w : World) : (Op.equalIn 10000 30 (.agg #[.int .i64 a, .int .i64 b, .bool e]) (.agg #[.int .i64 c, .int .i64 d, .bool f])).run Tryz.prog w = .ok (a == c && (b == d && e == f)) w := by
  have u3 := Tryz.underlying3
  have a3 := Tryz.isAgg3
  have z3 := Tryz.sizeOf3
  have u4 := Tryz.underlying4
  have a4 := Tryz.isAgg4
  have z4 := Tryz.sizeOf4
  have hS : Tryz.prog.underlying 30 = some (.struct (Tryz.prog.fieldsOf 30)) := by kernel_rfl
  rw [show (10000 : Nat) = 9999 + 1 from rfl, run_equalIn_agg w 9999 30 _ _ hS (by kernel_rfl)]
  simp only [Program.fieldsOf, Tryz.underlying30]
  go_simp
  by_cases h1 : a = c <;> by_cases h2 : b = d <;> cases e <;> cases f <;> simp [h1, h2]
section ops
variable {s : St} {dst : Option Tmp} {rt : TypeId} {pos : String} {after : Array Edge} {guard : Option (Nat × Bool)}
theorem loc_eqOut {t' : TypeId} {x y : Operand} {o p : Out} (hx' : opU s.t x = .agg o.c) (hy' : opU s.t y = .agg p.c) : LocOp Tryz.prog ⟨dst, .binOp .eql 30 x y t', rt, pos, after, guard⟩ s [] [] (.one (.bool (outEq o p))) :=
  laC fun F ρ h w ev H hx => by
    have h1 := (hx x (by simp [Op.operands])).1
    have h2 := (hx y (by simp [Op.operands])).1
    rw [hx'] at h1
    rw [hy'] at h2
    obtain ⟨vs, h1, k1⟩ := h1
    obtain ⟨us, h2, k2⟩ := h2
    match vs, k1 with
    | [v0, v1, v2], ⟨r0, r1, r2, _⟩ =>
    match us, k2 with
    | [u0, u1, u2], ⟨q0, q1, q2, _⟩ =>
    have r0 : v0 = .int .i64 o.kind := r0
    have r1 : v1 = .int .i64 o.n := r1
    have r2 : v2 = .bool o.back := r2
    have q0 : u0 = .int .i64 p.kind := q0
    have q1 : u1 = .int .i64 p.n := q1
    have q2 : u2 = .bool p.back := q2
    subst r0 r1 r2 q0 q1 q2
    refine ⟨.bool (outEq o p), ?_, rfl, zo⟩
    have he := eqOutcome o.kind o.n p.kind p.n o.back p.back w
    have hg := run_eqGuard_agg (P := Tryz.prog) w .eql 30 x y #[.int .i64 o.kind, .int .i64 o.n, .bool o.back] #[.int .i64 p.kind, .int .i64 p.n, .bool p.back] (by kernel_rfl)
    simp only [execOp, h1, h2]
    simp [hg, run_eql_struct, he, outEq]
end ops
section ops
variable {P : Program} {s : St} {dst : Option Tmp} {rt : TypeId} {pos : String} {after : Array Edge} {guard : Option (Nat × Bool)}
theorem loc_addStr {t t' : TypeId} {x y : Operand} {a b r : ByteArray} (hx' : opU s.t x = .one (.str a)) (hy' : opU s.t y = .one (.str b)) (hsz : a.size + b.size ≤ 9223372036854775807) (hr : a ++ b = r) : LocOp P ⟨dst, .binOp .add t x y t', rt, pos, after, guard⟩ s [] [] (.one (.str r)) :=
  laC fun F ρ h w ev H hx => by
    subst hr
    have h1 := (hx x (by simp [Op.operands])).1
    have h2 := (hx y (by simp [Op.operands])).1
    rw [hx'] at h1
    rw [hy'] at h2
    have h1 : ev x = .string a := h1
    have h2 : ev y = .string b := h2
    refine ⟨.string (a ++ b), ?_, rfl, zo⟩
    simp only [execOp, h1, h2]
    simp [binOp_string_add, run_string_add_sum w a b hsz, eqGuard]
end ops
theorem ret_tt {P : Program} {x z : Tmp} {c c' : C} {e : Exit} {t : Nat → U} {h : Nat → Option Blk} (he : e = .normal ∨ e = .ret)
    (hx : t x = .one c) (hz : t z = .one c') (hok : okC (ofL []) c) (hok2 : okC (ofL []) c') : RetQ P #[.tmp x, .tmp z] (.tup [.one c, .one c']) [] e t h := by
  exact ⟨he, [.one c, .one c'], ⟨hx, hz, zo⟩, ⟨zo, zo, zo⟩, .tup [.one c, .one c'], rfl, [], zo, ⟨.le (.refl _), .le (.refl _), zo⟩, zo, rfl, ⟨hok, hok2, zo⟩, zo⟩
end Go.Proofs.YtnflnbdlgdjfmabGreatDoor
namespace Go.Proofs.YtnflnbdlgdjfmabGreatDoor
def isSpB (b : UInt8) : Bool := b == 32 || b == 10
def flushW (cur : List UInt8) : List (List UInt8) := if cur = [] then [] else [cur]
def spl : List UInt8 → List UInt8 → List (List UInt8)
  | cur, [] => flushW cur
  | cur, c :: l => if isSpB c then flushW cur ++ spl [] l else spl (cur ++ [c]) l
def toks : List UInt8 → List UInt8 → List (List UInt8)
  | cur, [] => flushW cur
  | cur, c :: l => if isSpB c then flushW cur ++ toks [] l else if c == 40 || c == 41 then flushW cur ++ [c] :: toks [] l else toks (cur ++ [c]) l
def padB (b : UInt8) : List UInt8 := if b == 40 then [32, 40, 32] else if b == 41 then [32, 41, 32] else [b]
theorem lf1 : ∀ (l cur : List UInt8), spl cur (l.flatMap padB) = toks cur l
  | [], cur => by simp [spl, toks]
  | c :: l, cur => by
    rw [List.flatMap_cons]
    by_cases h1 : c = 40
    · subst h1; simp [padB, spl, toks, isSpB, flushW, lf1 l]
    · by_cases h2 : c = 41
      · subst h2; simp [padB, spl, toks, isSpB, flushW, lf1 l]
      · have hp : padB c = [c] := by simp [padB, h1, h2]
        rw [hp]
        simp only [List.singleton_append, spl, toks]
        rw [lf1 l, lf1 l]
        simp [h1, h2]
theorem spl_run {xs : List UInt8} (h : ∀ b ∈ xs, isSpB b = false) (cur l : List UInt8) : spl cur (xs ++ l) = spl (cur ++ xs) l := by
  induction xs generalizing cur with
  | nil => simp
  | cons x xs ih =>
    simp only [List.cons_append, spl, h x (by simp), Bool.false_eq_true, if_false]
    rw [ih (fun b hb => h b (by simp [hb])), List.append_assoc]
    rfl
theorem index_ne (b c : UInt8) (l : List UInt8) (h : b ≠ c) : Lib.index (b :: l) [c] = if Lib.index l [c] == -1 then -1 else Lib.index l [c] + 1 := by
  have : List.isPrefixOf [c] (b :: l) = false := by simp [List.isPrefixOf]; intro h'; exact h h'.symm
  rw [Lib.index, this]; simp
theorem index_eq (c : UInt8) (l : List UInt8) : Lib.index (c :: l) [c] = 0 := by
  have : List.isPrefixOf [c] (c :: l) = true := by simp [List.isPrefixOf]
  rw [Lib.index, this]; simp
theorem lc7 (c : UInt8) (new : List UInt8) : ∀ (l : List UInt8), Lib.replaceK [c] new (l.count c) l = l.flatMap (fun b => if b == c then new else [b])
  | [] => by simp [Lib.replaceK]
  | b :: l => by
    by_cases h : b = c
    · subst h
      rw [List.count_cons_self, Lib.replaceK_hit _ _ _ _ 0 (by rw [index_eq]; rfl)]
      simp [lc7 b new l]
    · rw [List.count_cons_of_ne h, List.flatMap_cons]
      have hb : (b == c) = false := by simpa using h
      simp only [hb, Bool.false_eq_true, if_false, List.singleton_append]
      rw [← lc7 c new l]
      cases hc : l.count c with
      | zero => simp [Lib.replaceK]
      | succ k =>
        have hpos : 0 < Lib.count l [c] := by rw [Lib.count_one, hc]; omega
        obtain ⟨i, hi⟩ := Lib.index_of_count hpos
        rw [Lib.replaceK_hit _ _ _ l i hi, Lib.replaceK_hit _ _ _ (b :: l) (i + 1) (by
          rw [index_ne b c l h, hi]
          have : ((i : Int) == -1) = false := by rw [beq_eq_false_iff_ne]; omega
          rw [this]; simp)]
        simp [List.take_succ_cons, Nat.add_assoc, List.drop_succ_cons]
theorem ldu (c : UInt8) (new l : List UInt8) (hne : [c] ≠ new) : Lib.replaceAll l [c] new = l.flatMap (fun b => if b == c then new else [b]) := by
  unfold Lib.replaceAll Lib.replace
  rw [if_neg (by simpa using hne)]
  unfold Lib.replaceNum
  rw [if_pos (.inl (by decide)), Lib.count_one]
  exact lc7 c new l
theorem replace_both (l : List UInt8) : Lib.replaceAll (Lib.replaceAll l [40] [32, 40, 32]) [41] [32, 41, 32] = l.flatMap padB := by
  rw [ldu 40 _ _ (by decide), ldu 41 _ _ (by decide), List.flatMap_assoc]
  congr 1
  funext b
  by_cases h1 : b = 40
  · subst h1; decide
  · by_cases h2 : b = 41
    · subst h2; decide
    · simp [padB, h1, h2]
theorem decode_run (s : ByteArray) (pos : Nat) (h : pos < s.size) (ha : 128 ≤ (s[pos]'h).toNat) : pos + (Utf8.decode s pos).2 ≤ s.size ∧ ∀ k, k < (Utf8.decode s pos).2 → 128 ≤ (s.get! (pos + k)).toNat := by
  have hn : ¬ (s[pos]'h).toNat < 128 := by omega
  have e0 : s.get! (pos + 0) = s[pos]'h := get_at s pos h
  have h0 : 128 ≤ (s.get! (pos + 0)).toNat := by rw [e0]; exact ha
  have one : ∀ k, k < 1 → 128 ≤ (s.get! (pos + k)).toNat := fun k hk => by
    obtain rfl : k = 0 := by omega
    exact h0
  simp only [Utf8.decode, e0, hn, if_false]
  split
  · rename_i hc
    simp only [Bool.and_eq_true, beq_iff_eq, decide_eq_true_eq] at hc
    split
    · refine ⟨by omega, fun k hk => ?_⟩
      have : k = 0 ∨ k = 1 := by dsimp only at hk; omega
      rcases this with rfl | rfl
      · exact h0
      · have := hc.2.2; omega
    · exact ⟨by dsimp only; omega, one⟩
  · split
    · rename_i hc
      simp only [Bool.and_eq_true, beq_iff_eq, decide_eq_true_eq] at hc
      split
      · refine ⟨by dsimp only; omega, fun k hk => ?_⟩
        have : k = 0 ∨ k = 1 ∨ k = 2 := by dsimp only at hk; omega
        rcases this with rfl | rfl | rfl
        · exact h0
        · have := hc.1.2.2; omega
        · have := hc.2.2; omega
      · exact ⟨by dsimp only; omega, one⟩
    · split
      · rename_i hc
        simp only [Bool.and_eq_true, beq_iff_eq, decide_eq_true_eq] at hc
        split
        · refine ⟨by dsimp only; omega, fun k hk => ?_⟩
          have : k = 0 ∨ k = 1 ∨ k = 2 ∨ k = 3 := by dsimp only at hk; omega
          rcases this with rfl | rfl | rfl | rfl
          · exact h0
          · have := hc.1.1.2.2; omega
          · have := hc.1.2.2; omega
          · have := hc.2.2; omega
        · exact ⟨by dsimp only; omega, one⟩
      · exact ⟨by dsimp only; omega, one⟩
theorem lf2 (s : ByteArray) (i : Nat) (h : i < s.size) : s.data.toList[i]? = some (s.get! i) := by
  have h1 : s.get! i = s[i]'h := by have := get_at s i h; simpa using this
  rw [h1]
  have : i < s.data.toList.length := by simpa using h
  rw [List.getElem?_eq_getElem this]
  rfl
def pieceB (s : ByteArray) (x : Nat × Nat) : List UInt8 := (s.data.toList.drop x.1).take (x.2 - x.1)
def curB (s : ByteArray) (st : Option Nat) (pos : Nat) : List UInt8 := match st with | none => [] | some a => pieceB s (a, pos)
theorem curB_ne {s : ByteArray} {a pos : Nat} (h : a < pos) (h2 : pos ≤ s.size) : pieceB s (a, pos) ≠ [] := by
  intro h3
  have := congrArg List.length h3
  have hl : s.data.toList.length = s.size := by simp
  simp only [pieceB, List.length_take, List.length_drop, List.length_nil, hl] at this
  omega
theorem drop_run {l : List UInt8} {pos n : Nat} (h : pos + n ≤ l.length) : l.drop pos = (l.drop pos).take n ++ l.drop (pos + n) := by
  rw [← List.drop_drop]; exact (List.take_append_drop n (l.drop pos)).symm
theorem piece_run {l : List UInt8} {a pos n : Nat} (h1 : a ≤ pos) : (l.drop a).take (pos + n - a) = (l.drop a).take (pos - a) ++ (l.drop pos).take n := by
  have : pos + n - a = (pos - a) + n := by omega
  rw [this, List.take_add, List.drop_drop, show a + (pos - a) = pos by omega]
theorem spans_step (p : Nat → Bool) (s : ByteArray) (f pos : Nat) (st : Option Nat) (acc : List (Nat × Nat)) (h : pos < s.size) :
    Lib.spansFromP p s (f + 1) pos st acc = if p (Utf8.decode s pos).1 then Lib.spansFromP p s f (pos + (Utf8.decode s pos).2) none (match st with | some a => acc ++ [(a, pos)] | none => acc)
      else Lib.spansFromP p s f (pos + (Utf8.decode s pos).2) (some (st.getD pos)) acc := by
  conv => lhs; unfold Lib.spansFromP
  rw [if_pos h]
  cases st <;> rfl
theorem spansP_eq (p : Nat → Bool) (hp : ∀ x, p x = (x == 32 || x == 10)) (s : ByteArray) : ∀ (f pos : Nat) (st : Option Nat) (acc : List (Nat × Nat)), pos ≤ s.size → s.size ≤ pos + f → (∀ a, st = some a → a < pos) →
    (Lib.closeSpans s (Lib.spansFromP p s f pos st acc)).map (pieceB s) = acc.map (pieceB s) ++ spl (curB s st pos) (s.data.toList.drop pos) := by
  have hl : s.data.toList.length = s.size := by simp
  intro f
  induction f with
  | zero =>
    intro pos st acc h1 h2 h3
    obtain rfl : pos = s.size := by omega
    have hd : s.data.toList.drop s.size = [] := by rw [← hl]; exact List.drop_length ..
    rw [hd]
    cases st with
    | none => simp [Lib.spansFromP, Lib.closeSpans, curB, spl, flushW]
    | some a => simp [Lib.spansFromP, Lib.closeSpans, curB, spl, flushW, curB_ne (h3 a rfl) (Nat.le_refl _)]
  | succ f ih =>
    intro pos st acc h1 h2 h3
    by_cases hlt : pos < s.size
    · rw [spans_step p s f pos st acc hlt]
      have hget := lf2 s pos hlt
      have hg0 : s.get! pos = s[pos]'hlt := by have := get_at s pos hlt; simpa using this
      by_cases hlow : (s[pos]'hlt).toNat < 128
      · rw [decode_ascii s pos hlt hlow]
        dsimp only
        have hdr : s.data.toList.drop pos = s.get! pos :: s.data.toList.drop (pos + 1) := by
          rw [List.drop_eq_getElem_cons (by rw [hl]; exact hlt)]
          congr 1
          have := List.getElem?_eq_getElem (l := s.data.toList) (i := pos) (by rw [hl]; exact hlt)
          rw [hget] at this
          exact (Option.some.inj this).symm
        have hsp : p (s[pos]'hlt).toNat = isSpB (s.get! pos) := by
          rw [hp, hg0]
          unfold isSpB
          generalize s[pos]'hlt = b
          rw [Bool.eq_iff_iff]
          simp only [Bool.or_eq_true, beq_iff_eq]
          constructor
          · rintro (h | h)
            · exact .inl (UInt8.toNat_inj.1 h)
            · exact .inr (UInt8.toNat_inj.1 h)
          · rintro (h | h) <;> subst h
            · exact .inl rfl
            · exact .inr rfl
        rw [hsp, hdr]
        cases hs : isSpB (s.get! pos) with
        | true =>
          simp only [if_true, spl, hs]
          cases st with
          | none =>
            dsimp only
            rw [ih (pos + 1) none acc (by omega) (by omega) (by intro a h; cases h)]
            simp [curB, flushW]
          | some a =>
            dsimp only
            rw [ih (pos + 1) none _ (by omega) (by omega) (by intro a h; cases h)]
            simp [curB, flushW, curB_ne (h3 a rfl) (Nat.le_of_lt hlt)]
        | false =>
          simp only [Bool.false_eq_true, if_false, spl, hs]
          have h1e : [s.get! pos] = (s.data.toList.drop pos).take 1 := by rw [hdr]; rfl
          cases st with
          | none =>
            simp only [Option.getD_none]
            rw [ih (pos + 1) (some pos) acc (by omega) (by omega) (by intro a h; cases h; omega)]
            simp only [curB, pieceB, List.nil_append]
            rw [h1e, show pos + 1 - pos = 1 by omega]
          | some a =>
            simp only [Option.getD_some]
            rw [ih (pos + 1) (some a) acc (by omega) (by omega) (by intro b h; cases h; have := h3 a rfl; omega)]
            simp only [curB, pieceB]
            rw [piece_run (Nat.le_of_lt (h3 a rfl)), h1e]
      · have hhi : 128 ≤ (s[pos]'hlt).toNat := by omega
        obtain ⟨d1, d2⟩ := decode_high s pos hlt hhi
        obtain ⟨d3, d4⟩ := decode_run s pos hlt hhi
        have hsp : p (Utf8.decode s pos).1 = false := by
          rw [hp]; simp; omega
        rw [hsp]
        simp only [Bool.false_eq_true, if_false]
        generalize (Utf8.decode s pos).2 = n at *
        have hrun : ∀ b ∈ (s.data.toList.drop pos).take n, isSpB b = false := by
          intro b hb
          obtain ⟨k, hk, rfl⟩ := List.getElem_of_mem hb
          have hk' : k < n := by rw [List.length_take] at hk; omega
          have h128 := d4 k hk'
          have hge := lf2 s (pos + k) (by omega)
          have : ((s.data.toList.drop pos).take n)[k] = s.get! (pos + k) := by
            rw [List.getElem_take, List.getElem_drop]
            have h' := List.getElem?_eq_getElem (l := s.data.toList) (i := pos + k) (by rw [hl]; omega)
            rw [hge] at h'
            exact (Option.some.inj h').symm
          rw [this]
          unfold isSpB
          rw [Bool.or_eq_false_iff, beq_eq_false_iff_ne, beq_eq_false_iff_ne]
          constructor <;> (intro h; rw [h] at h128; revert h128; decide)
        cases st with
        | none =>
          simp only [Option.getD_none]
          rw [ih (pos + n) (some pos) acc (by omega) (by omega) (by intro a h; cases h; omega)]
          congr 1
          rw [drop_run (l := s.data.toList) (pos := pos) (n := n) (by rw [hl]; exact d3), spl_run hrun]
          simp only [curB, pieceB, List.nil_append]
          rw [show pos + n - pos = n by omega]
        | some a =>
          simp only [Option.getD_some]
          rw [ih (pos + n) (some a) acc (by omega) (by omega) (by intro b h; cases h; have := h3 a rfl; omega)]
          congr 1
          rw [drop_run (l := s.data.toList) (pos := pos) (n := n) (by rw [hl]; exact d3), spl_run hrun]
          simp only [curB, pieceB]
          rw [piece_run (Nat.le_of_lt (h3 a rfl))]
    · obtain rfl : pos = s.size := by omega
      rw [Lib.spansFromP_end _ _ _ _ _ _ hlt]
      have hd : s.data.toList.drop s.size = [] := by rw [← hl]; exact List.drop_length ..
      rw [hd]
      cases st with
      | none => simp [Lib.closeSpans, curB, spl, flushW]
      | some a => simp [Lib.closeSpans, curB, spl, flushW, curB_ne (h3 a rfl) (Nat.le_refl _)]
theorem fieldsP_eq (p : Nat → Bool) (hp : ∀ x, p x = (x == 32 || x == 10)) (s : ByteArray) : (Lib.goFieldsP p s).map (·.data.toList) = spl [] s.data.toList := by
  have h := spansP_eq p hp s s.size 0 none [] (Nat.zero_le _) (by omega) (by intro a h; cases h)
  unfold Lib.goFieldsP Lib.spansOfP
  rw [List.map_map]
  simp only [List.drop_zero, curB, List.map_nil, List.nil_append] at h
  rw [← h]
  apply List.map_congr_left
  intro x _
  simp only [Function.comp]
  exact Lib.extract_data ..
end Go.Proofs.YtnflnbdlgdjfmabGreatDoor
namespace Go.Proofs.YtnflnbdlgdjfmabGreatDoor
open Go.RowKit
set_option maxRecDepth 100000
attribute [local irreducible] RunL AW LocOp ACalls Gh
end Go.Proofs.YtnflnbdlgdjfmabGreatDoor
