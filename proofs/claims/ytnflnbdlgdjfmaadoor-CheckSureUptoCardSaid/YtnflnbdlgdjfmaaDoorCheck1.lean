/-
  The walks of the checker's small functions. Conditions: none.
-/
import Derived.Test.YtnflnbdlgdjfmaaDoorTerm2
import Derived.Test.YtnflnbdlgdjfmaaDoorChkC
namespace Go.Proofs.YtnflnbdlgdjfmaaDoor
open Go.RowKit
set_option linter.unusedVariables false
set_option linter.unusedSimpArgs false
set_option maxRecDepth 100000
attribute [local irreducible] RunL AW LocOp ACalls Gh

/-- Results: two structs and one more. -/
theorem ret_cct {P : Program} {x y z : Tmp} {tx ty : TypeId} {bx bz n m : Nat} {l l' k k' : List C} {c c' : C} {e : Exit} {t : Nat → U} {h : Nat → Option Blk} {O' : List (Nat × Blk)} [T : TAgg P tx n] [S : TAgg P ty m] (he : e = .normal ∨ e = .ret)
    (hx : t x = .one (.ptr bx 0)) (hbx : h bx = some (.obj l)) (hlx : l.length = n) (hy : t y = .one (.ptr bz 0)) (hby : h bz = some (.obj k)) (hly : k.length = m) (hz : t z = .one c)
    (fz : List Nat) (hfz : AllP (ClosedAt h) fz) (hwx : All2 (WkC h fz []) l l') (hwy : All2 (WkC h fz []) k k') (hwz : WkC h fz [] c c') (hO : AllP (fun p => ∃ x0, h p.1 = some x0 ∧ WkBlk h fz [] x0 p.2) O') (hd : disj fz (namesL O') = true)
    (hok : okU' (ofL O') (.tup [.agg l', .agg k', .one c'])) (hok2 : AllP (fun p => okBlk' (ofL O') p.2) O') {r : U} (hr : r = .tup [.agg l', .agg k', .one c']) : RetQ P #[.cell x tx, .cell y ty, .tmp z] r O' e t h := by
  subst hr
  exact ⟨he, [.agg l, .agg k, .one c], ⟨⟨bx, l, hx, hbx, .inl ⟨n, T, hlx, rfl⟩⟩, ⟨bz, k, hy, hby, .inl ⟨m, S, hly, rfl⟩⟩, hz, trivial⟩, ⟨trivial, trivial, trivial, trivial⟩, .tup [.agg l, .agg k, .one c], rfl, fz, hfz, ⟨hwx, hwy, hwz, trivial⟩, hO, hd, hok, hok2⟩
theorem ret_ct {P : Program} {x z : Tmp} {tx : TypeId} {bx n : Nat} {l l' : List C} {c c' : C} {e : Exit} {t : Nat → U} {h : Nat → Option Blk} {O' : List (Nat × Blk)} [T : TAgg P tx n] (he : e = .normal ∨ e = .ret)
    (hx : t x = .one (.ptr bx 0)) (hbx : h bx = some (.obj l)) (hlx : l.length = n) (hz : t z = .one c)
    (fz : List Nat) (hfz : AllP (ClosedAt h) fz) (hwx : All2 (WkC h fz []) l l') (hwz : WkC h fz [] c c') (hO : AllP (fun p => ∃ x0, h p.1 = some x0 ∧ WkBlk h fz [] x0 p.2) O') (hd : disj fz (namesL O') = true)
    (hok : okU' (ofL O') (.tup [.agg l', .one c'])) (hok2 : AllP (fun p => okBlk' (ofL O') p.2) O') {r : U} (hr : r = .tup [.agg l', .one c']) : RetQ P #[.cell x tx, .tmp z] r O' e t h := by
  subst hr
  exact ⟨he, [.agg l, .one c], ⟨⟨bx, l, hx, hbx, .inl ⟨n, T, hlx, rfl⟩⟩, hz, trivial⟩, ⟨trivial, trivial, trivial⟩, .tup [.agg l, .one c], rfl, fz, hfz, ⟨hwx, hwz, trivial⟩, hO, hd, hok, hok2⟩

set_option maxHeartbeats 1000000 in
theorem none_a (e : Int) : ACalls Tryd.prog 47 [.one (.int .i64 e)] [] (errU e) [] := by
  refine acalls_of_body Tryd.func47 rfl (by kernel_rfl) (Nat.le_of_ble_eq_true rfl) trivial (by simp [namesL]) ?_
  refine AW.seq ?_; refine AW.region (by kernel_rfl) ?_; refine RunL.mem (by exact rfl) (loc_allocD rfl rfl) ?_; refine RunL.mem (by exact rfl) (loc_allocD rfl rfl) ?_; refine RunL.val (by exact rfl) (loc_assignC rfl) ?_; refine RunL.nil ?_; refine AW.seq ?_; refine AW.region (by kernel_rfl) ?_; refine RunL.val (by exact rfl) (loc_build (by exact rfl) (by exact Cut.all (by exact rfl)) (by exact rfl)) ?_; refine RunL.val (by exact rfl) (loc_build (by exact rfl) (by exact Cut.all (by exact rfl)) (by exact rfl)) ?_; refine RunL.val (by exact rfl) (loc_moveC rfl) ?_; refine RunL.eff (by exact rfl) (loc_storeW rfl rfl rfl rfl (by exact rfl) (by exact rfl)) ?_; refine RunL.eff (by exact rfl) (loc_storeW rfl rfl rfl rfl (by exact rfl) (by exact rfl)) ?_; refine RunL.val (by exact rfl) (loc_assignC rfl) ?_; refine RunL.nil ?_; refine AW.ret ?_
  refine rq ?_
  refine ret_cct (by exact .inr rfl) (by exact rfl) (by exact rfl) (by exact rfl) (by exact rfl) (by exact rfl) (by exact rfl) (by exact rfl) [] trivial (l' := Tm.zero.c) (k' := Ty.any.c)
    (by exact ⟨.le (.refl _), .le (.refl _), .le (.refl _), .le (.nil _), .le (.refl _), .le (.nil _), .le (.nil _), trivial⟩) (by exact ⟨.le (.refl _), .le (.nil _), trivial⟩) (by exact .le (.refl _)) (by exact trivial) (by exact rfl) (by refine And.intro ?_ ?_; refine And.intro ?_ ?_; exact trivial; refine And.intro ?_ ?_; exact trivial; refine And.intro ?_ ?_; exact trivial; refine And.intro ?_ ?_; exact trivial; refine And.intro ?_ ?_; exact trivial; refine And.intro ?_ ?_; exact trivial; refine And.intro ?_ ?_; exact trivial; exact trivial; refine And.intro ?_ ?_; refine And.intro ?_ ?_; exact trivial; refine And.intro ?_ ?_; exact trivial; exact trivial; refine And.intro ?_ ?_; exact trivial; exact trivial) (by exact trivial) (by exact rfl)

set_option maxHeartbeats 1000000 in
theorem as_a (t : Tm) (a b : Ty) (n : Int) : ACalls Tryd.prog 67 [t.u, a.u, b.u, .one (.int .i64 n)] [] (asT t a b n).u [] := by
  refine acalls_of_body Tryd.func67 rfl (by kernel_rfl) (Nat.le_of_ble_eq_true rfl) trivial (by simp [namesL]) ?_
  refine AW.seq ?_; refine AW.region (by kernel_rfl) ?_; refine RunL.mem (by exact rfl) (loc_boxD rfl rfl rfl) ?_; refine RunL.mem (by exact rfl) (loc_boxD rfl rfl rfl) ?_; refine RunL.mem (by exact rfl) (loc_boxD rfl rfl rfl) ?_; refine RunL.mem (by exact rfl) (loc_allocD rfl rfl) ?_; refine RunL.nil ?_; refine AW.seq ?_; refine AW.seq ?_; refine AW.region (by kernel_rfl) ?_; refine RunL.val (by exact rfl) (loc_loadA rfl rfl (by exact Cut.all (by exact rfl))) ?_; refine RunL.val (by exact rfl) (loc_loadA rfl rfl (by exact Cut.all (by exact rfl))) ?_
  refine RunL.val (by exact rfl) (loc_fun (same_a a b) rfl (by refine ⟨_, _, rfl, (by exact LeU.of_eq rfl trivial), (by (refine And.intro ?_ ?_; exact trivial; refine And.intro ?_ ?_; exact trivial; exact trivial)), ?_⟩; refine ⟨_, _, rfl, (by exact LeU.of_eq rfl trivial), (by (refine And.intro ?_ ?_; exact trivial; refine And.intro ?_ ?_; exact trivial; exact trivial)), ?_⟩; exact rfl)) ?_
  cases hs : a.same b with
  | true =>
    refine RunL.nil ?_; refine AW.condT (by exact rfl) ?_; refine AW.seq ?_; refine AW.region (by kernel_rfl) ?_; refine RunL.val (by exact rfl) (loc_loadA rfl rfl (by exact Cut.all (by exact rfl))) ?_; refine RunL.eff (by exact rfl) (loc_storeW rfl rfl rfl rfl (by exact rfl) (by exact rfl)) ?_; refine RunL.nil ?_; refine AW.ret ?_
    rw [show asT t a b n = t by unfold asT; rw [hs]; rfl]
    refine rq ?_
    refine ret_cell (by exact .inr rfl) (by exact rfl) (by exact rfl) (by exact rfl) [] trivial (l' := t.c) (by exact wkRow_refl _) (by refine And.intro ?_ ?_; exact trivial; refine And.intro ?_ ?_; exact trivial; refine And.intro ?_ ?_; exact trivial; refine And.intro ?_ ?_; exact trivial; refine And.intro ?_ ?_; exact trivial; refine And.intro ?_ ?_; exact trivial; refine And.intro ?_ ?_; exact trivial; exact trivial) (by exact rfl)
  | false =>
    refine RunL.nil ?_; refine AW.condF (by exact rfl) ?_; refine AW.skip ?_; refine AW.seq ?_; refine AW.region (by kernel_rfl) ?_; refine RunL.val (by exact rfl) (loc_moveC rfl) ?_; refine RunL.val (by exact rfl) (loc_loadA rfl rfl (by exact Cut.all (by exact rfl))) ?_; refine RunL.val (by exact rfl) (loc_loadA rfl rfl (by exact Cut.all (by exact rfl))) ?_; refine RunL.val (by exact rfl) (loc_loadA rfl rfl (by exact Cut.all (by exact rfl))) ?_; refine RunL.val (by exact rfl) (loc_sliceLit (by exact rfl) (by exact rfl) (by decide) (by decide) (by exact RowsOf.cons (by exact rfl) RowsOf.nil) (by exact AllP.cons (by exact rfl) AllP.nil) (by exact rfl)) ?_; refine RunL.val (by exact rfl) (loc_build (by exact rfl) (by exact Cut.all (by exact rfl)) (by exact rfl)) ?_; refine RunL.eff (by exact rfl) (loc_storeW rfl rfl rfl rfl (by exact rfl) (by exact rfl)) ?_; refine RunL.nil ?_; refine AW.ret ?_
    rw [show asT t a b n = .mk 10 n b a [t] by unfold asT; rw [hs]; rfl]
    refine rq ?_
    refine ret_cell (by exact .inr rfl) (by exact rfl) (by exact rfl) (by exact rfl) [] trivial (l' := (Tm.mk 10 n b a [t]).c) (by exact ⟨.le (.refl _), .le (.refl _), .le (.refl _), .le (.refl _), .le (.refl _), .le (.refl _), .le (LeC.slF (by show LeRows [t.c] (tmRows [t]); simp only [tmRows, Tm.cells_c]; exact LeRows.refl _)), trivial⟩) (by refine And.intro ?_ ?_; exact trivial; refine And.intro ?_ ?_; exact trivial; refine And.intro ?_ ?_; exact trivial; refine And.intro ?_ ?_; exact trivial; refine And.intro ?_ ?_; exact trivial; refine And.intro ?_ ?_; exact trivial; refine And.intro ?_ ?_; exact trivial; exact trivial) (by exact rfl)
end Go.Proofs.YtnflnbdlgdjfmaaDoor
