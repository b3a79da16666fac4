/-
  Merged texts of the proof. Conditions: those typed in each theorem.
-/
import Derived.Test.YtnflnbdlgdjfmabGreatDoorX4
import Derived.Deep.Upon
set_option linter.unusedVariables false
set_option linter.unusedSimpArgs false
namespace Go.Proofs.YtnflnbdlgdjfmabGreatDoor
open Go.RowKit
set_option maxRecDepth 100000
attribute [local irreducible] RunL AW LocOp ACalls Gh
set_option maxHeartbeats 1000000 in
theorem fun_a (a b : Ty) : ACalls Tryz.prog 69 [a.u, b.u] [] (.to a b : Ty).u [] := by
  refine zB Tryz.func69 ?_
  refine zQ ?_;refine zM lan ?_;refine zM lan ?_;refine zM lah ?_;refine zn (zQ ?_);refine zV laj ?_;refine zV laj ?_;refine zV (laF (by exact rfl) (by exact rfl) (by decide) (by decide) (by exact RowsOf.cons (by exact rfl) (RowsOf.cons (by exact rfl) RowsOf.nil)) (by exact AllP.cons (by exact rfl) (AllP.cons (by exact rfl) AllP.nil))) ?_;refine zV laq ?_;refine zE laf ?_;refine zn (zre ?_)
  refine rq ?_
  refine lbg (by exact .inr rfl) (by exact rfl) (by exact rfl) (by exact rfl) [] trivial (l' := [.int .i64 3, slOf 2 (tyRows [a, b])]) (by exact ⟨.le (.refl _), .le (LeC.slF (by simp only [tyRows, Ty.cells_c];exact LeRows.refl _)), zo⟩) (by exact ⟨zo, zo, zo⟩) (by exact rfl)
set_option maxHeartbeats 2000000 in
theorem ldo : ∀ a b : Ty, a.right = true → b.right = true → ACalls Tryz.prog 67 [a.u, b.u] [] (.one (.bool (a.fits b))) [] := by
  intro a
  induction a using Ty.ind' with
  | h a ih =>
  intro b ha hb
  have hL := la2 a.l
  have hM := la2 b.l
  have hka := ((lbv a).1 ha).kle
  have hkb := ((lbv b).1 hb).kle
  have hmul : -9223372036854775808 ≤ a.k * b.k ∧ a.k * b.k ≤ 9223372036854775807 := by
    have h1 : 0 ≤ a.k * b.k := Int.mul_nonneg hka.1 hkb.1
    have h2 : a.k * b.k ≤ 3 * 3 := Int.mul_le_mul hka.2 hkb.2 hkb.1 (by decide)
    omega
  have hw : IntKind.i64.wrap (a.k * b.k) = a.k * b.k := wrap_in hmul.1 hmul.2
  refine zB Tryz.func67 ?_
  cases hz : (IntKind.i64.wrap (a.k * b.k) == 0) with
  | true =>
    refine zQ ?_;refine zM lan ?_;refine zM lan ?_;refine zV lab ?_;refine zn (zq (zQ ?_));refine zV lad ?_;refine zV lae ?_;refine zV lad ?_;refine zV lae ?_;refine zV lac ?_;refine zV lac ?_;refine zn ?_;refine zaT ?_;refine zQ ?_;refine zV lab ?_;refine zn (zre ?_)
    rw [show a.fits b = true by rw [hw, lfk] at hz; rw [lcc, hz]; rfl]
    exact la1 (.inr rfl) rfl zo
  | false =>
  have hz' : (a.k == 0 || b.k == 0) = false := by rw [← lfk, ← hw]; exact hz
  refine zq ?_
  refine zR ?_
  refine zM lan ?_;refine zM lan ?_;refine zV lab ?_;refine zn ?_
  refine zq ?_
  refine zq ?_
  refine zR ?_
  refine zV lad ?_;refine zV lae ?_;refine zV lad ?_;refine zV lae ?_;refine zV lac ?_;refine zV lac ?_;refine zn ?_
  refine zaF ?_
  refine zsk ?_
  refine zq ?_
  refine AW.midC (fun t h => t = tOfL [(2, .one (.ptr 2 0)), (3, .one (.ptr 3 0)), (5, .one (.bool (a.k == b.k && (((tyRows a.l).length : Nat) : Int) == ((tyRows b.l).length : Nat))))] ∧ h = ofL [(2, .obj a.c), (3, .obj b.c)]) ?_ ?_
  · cases h1 : (a.k == b.k) with
    | true =>
      refine zR ?_;refine zV lad ?_;refine zV lae ?_;refine zV lad ?_;refine zV lae ?_;refine zV lac ?_;refine zV laa ?_;refine zT lad ?_;refine zT lae ?_;refine zT lay ?_;refine zT lad ?_;refine zT lae ?_;refine zT lay ?_;refine zT lac ?_;refine zV (lam true) ?_;refine zV lab ?_;refine zn ?_
      exact ⟨_, _, (laZ [(2, .one (.ptr 2 0)), (3, .one (.ptr 3 0)), (5, .one (.bool ((((tyRows a.l).length : Nat) : Int) == ((tyRows b.l).length : Nat))))] [(2, .obj a.c), (3, .obj b.c)] [] [] ⟨(zw rfl zo), (zw rfl zo), (zw rfl zo), zo⟩ ⟨(by exact zb rfl), (by exact zb rfl), zo⟩ trivial zo rfl rfl ⟨⟨_, rfl⟩, ⟨_, rfl⟩, zo, zo⟩ ⟨(by exact ⟨zo, zo, zo⟩), (by exact ⟨zo, zo, zo⟩), zo⟩), by simp, rfl⟩
    | false =>
      refine zR ?_;refine zV lad ?_;refine zV lae ?_;refine zV lad ?_;refine zV lae ?_;refine zV lac ?_;refine zV laa ?_;refine zf ?_;refine zf ?_;refine zf ?_;refine zf ?_;refine zf ?_;refine zf ?_;refine zf ?_;refine zV (lam false) ?_;refine zV lab ?_;refine zn ?_
      exact ⟨_, _, (laZ [(2, .one (.ptr 2 0)), (3, .one (.ptr 3 0)), (5, .one (.bool false))] [(2, .obj a.c), (3, .obj b.c)] [] [] ⟨(zw rfl zo), (zw rfl zo), (zw rfl zo), zo⟩ ⟨(by exact zb rfl), (by exact zb rfl), zo⟩ trivial zo rfl rfl ⟨⟨_, rfl⟩, ⟨_, rfl⟩, zo, zo⟩ ⟨(by exact ⟨zo, zo, zo⟩), (by exact ⟨zo, zo, zo⟩), zo⟩), by simp, rfl⟩
  · rintro t h ⟨rfl, rfl⟩
    have h0 : a.fits b = ((a.k == b.k && (((tyRows a.l).length : Nat) : Int) == ((tyRows b.l).length : Nat)) && fitsL (a.l.drop 0) (b.l.drop 0)) := by
      rw [lcc, hz', hL, hM, List.drop_zero, List.drop_zero]
      by_cases hl : a.l.length = b.l.length
      · simp [hl]
      · simp [hl, lfG hl]
    have hl : (a.k == b.k && (((tyRows a.l).length : Nat) : Int) == ((tyRows b.l).length : Nat)) = true → a.l.length = b.l.length := by
      intro h; rw [hL, hM, Bool.and_eq_true] at h; have := h.2; simp at this; omega
    generalize (a.k == b.k && (((tyRows a.l).length : Nat) : Int) == ((tyRows b.l).length : Nat)) = ok0 at *
    refine zq (zQ ?_);refine zV lab ?_;refine zn (zbl ?_)
    refine AW.gh (laZ [(2, .one (.ptr 2 0)), (3, .one (.ptr 3 0)), (5, .one (.bool (ok0))), (6, .one (.int .i64 ((0 : Nat) : Int)))] [(2, .obj a.c), (3, .obj b.c)] [] [] ⟨(zw rfl zo), (zw rfl zo), (zw rfl zo), (zw rfl zo), zo⟩ ⟨(by exact zb rfl), (by exact zb rfl), zo⟩ trivial zo rfl rfl ⟨⟨_, rfl⟩, ⟨_, rfl⟩, zo, zo, zo⟩ ⟨(by exact ⟨zo, zo, zo⟩), (by exact ⟨zo, zo, zo⟩), zo⟩) ?_
    refine AW.lenBlk 2 1 rfl rfl fun hmax => ?_
    refine AW.loop (fun m t h => ∃ i : Nat, ∃ ok : Bool, i ≤ a.l.length ∧ m = a.l.length - i ∧ (ok = true → a.l.length = b.l.length) ∧ a.fits b = (ok && fitsL (a.l.drop i) (b.l.drop i)) ∧ t = tOfL [(2, .one (.ptr 2 0)), (3, .one (.ptr 3 0)), (5, .one (.bool (ok))), (6, .one (.int .i64 ((i : Nat) : Int)))] ∧ h = ofL [(2, .obj a.c), (3, .obj b.c)]) a.l.length ⟨0, ok0, Nat.zero_le _, rfl, hl, h0, rfl, rfl⟩ ?_
    rintro m t h ⟨i, ok, hi, rfl, hlen, hinv, rfl, rfl⟩
    clear hl h0
    cases ok with
    | false =>
      refine zq (zQ ?_);refine zV laa ?_;refine zV laa ?_;refine zs ?_;refine zs ?_;refine zs ?_;refine zs ?_;refine zs ?_;refine zV law ?_;refine zn ?_;refine zcF ?_;refine zex (zQ ?_);refine zV laa ?_;refine zV lab ?_;refine zn (zre ?_)
      rw [hinv]
      exact la1 (.inr rfl) rfl zo
    | true =>
    have hlen := hlen rfl
    cases hlt : decide ((i : Int) < ((tyRows a.l).length : Nat)) with
    | false =>
      have hil : i = a.l.length := by simp at hlt; omega
      refine zq (zQ ?_);refine zV laa ?_;refine zV laa ?_;refine zI laa ?_;refine zI lad ?_;refine zI lae ?_;refine zI lay ?_;refine zI lac ?_;refine zV laA ?_;refine zn ?_;refine zaF ?_;refine zex (zQ ?_);refine zV laa ?_;refine zV lab ?_;refine zn (zre ?_)
      rw [hinv, hil, show fitsL (a.l.drop a.l.length) (b.l.drop a.l.length) = true by rw [List.drop_length, hlen, List.drop_length]; rfl]
      exact la1 (.inr rfl) rfl zo
    | true =>
      have hil : i < a.l.length := by simp at hlt; omega
      have hilb : i < b.l.length := by omega
      have hr1 := lbb hil
      have hr2 := lbb hilb
      have hs := fitsL_drop hil hilb
      refine zq (zQ ?_);refine zV laa ?_;refine zV laa ?_;refine zI laa ?_;refine zI lad ?_;refine zI lae ?_;refine zI lay ?_;refine zI lac ?_;refine zV laA ?_;refine zn ?_;refine zaT ?_;refine zsk (zq (zbl ?_));refine zRD ?_;refine zV lad ?_;refine zV lae ?_;refine zV laa ?_;refine zV (lap _) ?_;refine zV lao ?_;refine zV lad ?_;refine zV lae ?_;refine zV laa ?_;refine zV (lap _) ?_;refine zV lao ?_
      refine zV (lal (ih a.l[i] (List.getElem_mem _) b.l[i] (ldR ha (List.getElem_mem _)) (ldR hb (List.getElem_mem _))) rfl (by refine zC2 ?_;refine zC2 ?_;exact rfl)) ?_
      refine zV lab ?_;refine znD ?_;refine zR ?_;refine zV laa ?_;refine zV laD ?_;refine zV lab ?_;refine zn ?_
      exact ⟨a.l.length - (i + 1), _, _, by omega, (laZ [(2, .one (.ptr 2 0)), (3, .one (.ptr 3 0)), (5, .one (.bool (a.l[i].fits b.l[i]))), (6, .one (.int .i64 (((i + 1) : Nat) : Int)))] [(2, .obj a.c), (3, .obj b.c)] [] [] ⟨(zw rfl zo), (zw rfl zo), (zw rfl zo), (zw rfl zo), zo⟩ ⟨(by exact zb rfl), (by exact zb rfl), zo⟩ trivial zo rfl rfl ⟨⟨_, rfl⟩, ⟨_, rfl⟩, zo, zo, zo⟩ ⟨(by exact ⟨zo, zo, zo⟩), (by exact ⟨zo, zo, zo⟩), zo⟩), i + 1, _, by omega, rfl, fun _ => hlen, by rw [hinv, hs]; rfl, rfl, rfl⟩
set_option maxHeartbeats 4000000 in
theorem joinOf_a : ∀ a b : Ty, a.right = true → b.right = true → ACalls Tryz.prog 68 [a.u, b.u] [] (a.join b).u [] := by
  intro a
  induction a using Ty.ind' with
  | h a ih =>
  intro b ha hb
  refine zB Tryz.func68 ?_
  rcases lfY ha with ⟨k, rfl, k0, k2⟩ | ⟨p, q, rfl, hp, hq⟩ <;> rcases lfY hb with ⟨k', rfl, k0', k2'⟩ | ⟨p', q', rfl, hp', hq'⟩
  · cases hk : (k != k') with
    | true =>
      rw [show (Ty.mk k []).join (.mk k' []) = .any by simp at hk; simp [Ty.join, hk, Ty.any]]
      refine zQ ?_;refine zM lan ?_;refine zM lan ?_;refine zM lah ?_;refine zn (zq (zbl (zQ ?_)));refine zV lad ?_;refine zV lae ?_;refine zV lad ?_;refine zV lae ?_;refine zV lac ?_;refine zV laa ?_;refine zt ?_;refine zt ?_;refine zt ?_;refine zt ?_;refine zt ?_;refine zt ?_;refine zt ?_;refine zV (lam true) ?_;refine zV lab ?_;refine zn ?_;refine zcT ?_;refine zQ ?_
      refine zV (lal lb1) ?_
      refine zE laf ?_;refine zn (zre ?_)
      refine rq ?_
      exact lbg (by exact .inr rfl) (by exact rfl) (by exact rfl) (by exact rfl) [] trivial (l' := Ty.any.c) (by exact ⟨.le (.refl _), .le (.refl _), zo⟩) (by exact ⟨zo, zo, zo⟩) (by exact rfl)
    | false =>
      rw [show (Ty.mk k []).join (.mk k' []) = .mk k [] by simp at hk; simp [Ty.join, hk, joinL]]
      refine zQ ?_;refine zM lan ?_;refine zM lan ?_;refine zM lah ?_;refine zn (zq (zbl (zQ ?_)));refine zV lad ?_;refine zV lae ?_;refine zV lad ?_;refine zV lae ?_;refine zV lac ?_;refine zV laa ?_;refine zF lad ?_;refine zF lae ?_;refine zF lay ?_;refine zF lad ?_;refine zF lae ?_;refine zF lay ?_;refine zF lac ?_;refine zV (lam false) ?_;refine zV lab ?_;refine zn ?_;refine zcF ?_;refine zQ ?_;refine zV lad ?_;refine zV lae ?_;refine zV lay ?_;refine zV lac ?_;refine zV lab ?_;refine zn ?_;refine zcF ?_;refine zsk (zQ ?_);refine zV lad ?_;refine zV lae ?_;refine zV laq ?_;refine zE laf ?_;refine zn (zre ?_)
      refine rq ?_
      refine lbg (by exact .inr rfl) (by exact rfl) (by exact rfl) (by exact rfl) [] trivial (l' := (Ty.mk k []).c) (by exact ⟨.le (.refl _), .le (.nil _), zo⟩) (by exact ⟨zo, zo, zo⟩) (by exact rfl)
  · have hk : (k != 3) = true := by simp; omega
    rw [show (Ty.mk k []).join (.mk 3 [p', q']) = .any by simp [Ty.join, Ty.any]]
    refine zQ ?_;refine zM lan ?_;refine zM lan ?_;refine zM lah ?_;refine zn (zq (zbl (zQ ?_)));refine zV lad ?_;refine zV lae ?_;refine zV lad ?_;refine zV lae ?_;refine zV lac ?_;refine zV laa ?_;refine zt ?_;refine zt ?_;refine zt ?_;refine zt ?_;refine zt ?_;refine zt ?_;refine zt ?_;refine zV (lam true) ?_;refine zV lab ?_;refine zn ?_;refine zcT ?_;refine zQ ?_
    refine zV (lal lb1) ?_
    refine zE laf ?_;refine zn (zre ?_)
    refine rq ?_
    exact lbg (by exact .inr rfl) (by exact rfl) (by exact rfl) (by exact rfl) [] trivial (l' := Ty.any.c) (by exact ⟨.le (.refl _), .le (.refl _), zo⟩) (by exact ⟨zo, zo, zo⟩) (by exact rfl)
  · have hk : (3 != k') = true := by simp; omega
    rw [show (Ty.mk 3 [p, q]).join (.mk k' []) = .any by simp [Ty.join, Ty.any]]
    refine zQ ?_;refine zM lan ?_;refine zM lan ?_;refine zM lah ?_;refine zn (zq (zbl (zQ ?_)));refine zV lad ?_;refine zV lae ?_;refine zV lad ?_;refine zV lae ?_;refine zV lac ?_;refine zV laa ?_;refine zt ?_;refine zt ?_;refine zt ?_;refine zt ?_;refine zt ?_;refine zt ?_;refine zt ?_;refine zV (lam true) ?_;refine zV lab ?_;refine zn ?_;refine zcT ?_;refine zQ ?_
    refine zV (lal lb1) ?_
    refine zE laf ?_;refine zn (zre ?_)
    refine rq ?_
    exact lbg (by exact .inr rfl) (by exact rfl) (by exact rfl) (by exact rfl) [] trivial (l' := Ty.any.c) (by exact ⟨.le (.refl _), .le (.refl _), zo⟩) (by exact ⟨zo, zo, zo⟩) (by exact rfl)
  · rw [show (Ty.mk 3 [p, q]).join (.mk 3 [p', q']) = .mk 3 [p.join p', q.join q'] by simp [Ty.join, joinL]]
    have r1 : (tyRows (Ty.mk 3 [p, q]).l)[0]? = some p.c := lbb (l := [p, q]) (i := 0) (by simp)
    have r2 : (tyRows (Ty.mk 3 [p, q]).l)[1]? = some q.c := lbb (l := [p, q]) (i := 1) (by simp)
    have r3 : (tyRows (Ty.mk 3 [p', q']).l)[0]? = some p'.c := lbb (l := [p', q']) (i := 0) (by simp)
    have r4 : (tyRows (Ty.mk 3 [p', q']).l)[1]? = some q'.c := lbb (l := [p', q']) (i := 1) (by simp)
    refine zQ ?_;refine zM lan ?_;refine zM lan ?_;refine zM lah ?_;refine zn (zq (zbl (zQ ?_)));refine zV lad ?_;refine zV lae ?_;refine zV lad ?_;refine zV lae ?_;refine zV lac ?_;refine zV laa ?_;refine zI lad ?_;refine zI lae ?_;refine zI lay ?_;refine zI lad ?_;refine zI lae ?_;refine zI lay ?_;refine zI lac ?_;refine zV law ?_;refine zV lab ?_;refine zn ?_;refine zcF ?_;refine zQ ?_;refine zV lad ?_;refine zV lae ?_;refine zV lay ?_;refine zV lac ?_;refine zV lab ?_;refine zn ?_;refine zcT ?_;refine zq ?_;refine zRD ?_;refine zV lad ?_;refine zV lae ?_;refine zV lad ?_;refine zV lae ?_;refine zV (lap _) ?_;refine zV lao ?_;refine zV lad ?_;refine zV lae ?_;refine zV (lap _) ?_;refine zV lao ?_
    refine zV (lal (ih p (by simp) p' hp hp') rfl (by refine zC2 ?_;refine zC2 ?_;exact rfl)) ?_
    refine zV lad ?_;refine zV lae ?_;refine zV (lap _) ?_;refine zV lao ?_;refine zV lad ?_;refine zV lae ?_;refine zV (lap _) ?_;refine zV lao ?_
    refine zV (lal (ih q (by simp) q' hq hq') rfl (by refine zC2 ?_;refine zC2 ?_;exact rfl)) ?_
    refine zV (laF (by exact rfl) (by exact rfl) (by decide) (by decide) (by exact RowsOf.cons (by exact rfl) (RowsOf.cons (by exact rfl) RowsOf.nil)) (by exact AllP.cons (by exact rfl) (AllP.cons (by exact rfl) AllP.nil))) ?_;refine zV laq ?_;refine zE laf ?_;refine znD ?_;refine zre ?_
    refine rq ?_
    refine lbg (by exact .inr rfl) (by exact rfl) (by exact rfl) (by exact rfl) [] trivial (l' := (Ty.mk 3 [p.join p', q.join q']).c) (by exact ⟨.le (.refl _), .le (LeC.slF (by simp only [Ty.l_mk, tyRows, Ty.cells_c];exact LeRows.refl _)), zo⟩) (by exact ⟨zo, zo, zo⟩) (by exact rfl)
set_option maxHeartbeats 1000000 in
theorem ld8 (a : Ty) : ACalls Tryz.prog 107 [a.u] [] a.ground.u [] := by
  refine zB Tryz.func107 ?_
  cases hk : (a.k == 3) with
  | true =>
    refine zQ ?_;refine zM lan ?_;refine zM lah ?_;refine zn (zq (zQ ?_));refine zV lad ?_;refine zV lae ?_;refine zV lac ?_;refine zn ?_;refine zaT ?_;refine zQ ?_
    refine zV (lal lb1) ?_
    refine zV (lal lb1) ?_
    refine zV (lal (fun_a .any .any) rfl (by refine zC2 ?_;refine zC2 ?_;exact rfl)) ?_
    refine zE laf ?_;refine zn (zre ?_)
    rw [show a.ground = .to .any .any by unfold Ty.ground; rw [hk]; rfl]
    refine rq ?_
    refine lbg (by exact .inr rfl) (by exact rfl) (by exact rfl) (by exact rfl) [] trivial (l' := (.to .any .any : Ty).c) (by exact ⟨.le (.refl _), .le (.refl _), zo⟩) (by exact ⟨zo, zo, zo⟩) (by exact rfl)
  | false =>
    refine zQ ?_;refine zM lan ?_;refine zM lah ?_;refine zn (zq (zQ ?_));refine zV lad ?_;refine zV lae ?_;refine zV lac ?_;refine zn ?_;refine zaF ?_;refine zsk (zQ ?_);refine zV lad ?_;refine zV lae ?_;refine zV laq ?_;refine zE laf ?_;refine zn (zre ?_)
    rw [show a.ground = .mk a.k [] by unfold Ty.ground; rw [hk]; rfl]
    refine rq ?_
    refine lbg (by exact .inr rfl) (by exact rfl) (by exact rfl) (by exact rfl) [] trivial (l' := (Ty.mk a.k []).c) (by exact ⟨.le (.refl _), .le (.nil _), zo⟩) (by exact ⟨zo, zo, zo⟩) (by exact rfl)
end Go.Proofs.YtnflnbdlgdjfmabGreatDoor
namespace Go.Proofs.YtnflnbdlgdjfmabGreatDoor
open Go.RowKit
section ops
variable {P : Program} {s : St} {dst : Option Tmp} {rt : TypeId} {pos : String} {after : Array Edge} {guard : Option (Nat × Bool)}
theorem ldt {t e : TypeId} {k bytes : Nat} {x y : Operand} {rows : List (List C)} {c c0 : C} [T : TElem P t e k bytes] (hx' : opU s.t x = .one c0) (hy' : opU s.t y = .one c) (hc0 : SrcC k rows c0) (hsrc : SrcC k [] c) (hk0 : ∀ r ∈ rows, r.length = k) :
    LocOp P ⟨dst, .call ⟨.builtin .append, #[x, y], #[t, t]⟩, rt, pos, after, guard⟩ s [] [] (.one c0) :=
  laC fun F ρ h w ev H hx => by
    have h1 := hx x (by simp [Op.operands, Call.operands])
    have h2 := (hx y (by simp [Op.operands, Call.operands])).1
    rw [hx'] at h1
    rw [hy'] at h2
    obtain ⟨h1, ho⟩ := h1
    obtain ⟨i, z, t1, t2, t3, t4, t5, t6, t7⟩ := T.spec
    obtain ⟨nv, hs, hnl, _⟩ := lfP (P := P) T hsrc (fun r hr => by cases hr) h2
    obtain ⟨ov, _, _, ⟨a, cap, hv, hle⟩, _⟩ := lfP (P := P) T hc0 hk0 h1
    have hnv : nv = [] := List.eq_nil_of_length_eq_zero (by rw [hnl]; simp)
    subst hnv
    exact ⟨ev x, lbz rfl (by rw [hv]; exact run_append_nothing w t t rt e i t1 t2 a rows.length cap hle _ (by rw [t3]; exact hs)), h1, ho⟩
theorem loc_buildOwn {t e : TypeId} {len k bytes : Nat} {parts : Array (Nat × Operand)} {rows : List (List C)} (nm : Nat) [T : TElem P t e k bytes] (hparts : parts.toList = ((parts.toList.map (·.2)).zipIdx 0).map fun x => (x.2, x.1)) (hlen : (parts.toList.map (·.2)).length = len) (h0 : 0 < len) (hsmall : len * k ≤ 16777216)
    (hrows : RowsOf ((parts.toList.map (·.2)).map (opU s.t)) rows) (hk : AllP (fun l => l.length = k) rows) (hcl : closedRows rows = true) (hn : s.h nm = none) (hd : (s.d.contains nm) = false) :
    LocOp P ⟨dst, .buildSlice t len parts, rt, pos, after, guard⟩ s [] [(nm, some (.row e k 0 rows))] (.one (.own nm 0 len)) := by
  generalize hxs : parts.toList.map (·.2) = xs at hparts hlen hrows
  generalize hus : xs.map (opU s.t) = us at hrows
  have hrows := hrows.rows
  have hk := lbh.1 hk
  intro F ρ h w a Q H hR hx
  have hn : h nm = none := (hR nm (.inr (by simp [namesP]))).trans hn
  have hx := lby H hx
  obtain ⟨i, z, t1, t2, t3, t4, t5, t6, t7⟩ := T.spec
  obtain ⟨r1, r2⟩ := lfO hrows
  have hmem : ∀ x ∈ xs, x ∈ (⟨dst, .buildSlice t len parts, rt, pos, after, guard⟩ : Oper).op.operands := fun x hxm => by
    obtain ⟨j, hj, hje⟩ := List.getElem_of_mem hxm
    have h1 : (j, x) ∈ parts.toList := by
      rw [hparts]
      refine List.mem_map.2 ⟨(x, j), ?_, rfl⟩
      rw [List.mem_zipIdx_iff_getElem?]
      simp [hj, hje]
    show x ∈ ((parts.toList.map (·.2)).toArray : Array Operand)
    rw [List.mem_toArray]
    exact List.mem_map.2 ⟨(j, x), h1, rfl⟩
  have hval : ∀ (j : Nat) x, xs[j]? = some x → ∃ l, rows[j]? = some l ∧ All2 (relC F ρ w) l (a.eval x).cells.toList ∧ (∀ c ∈ l, okC h c) ∧ l.length = k := fun j x hjx => by
    have hu : us[j]? = some (opU s.t x) := by rw [← hus]; simp [hjx]
    obtain ⟨l, h1, h2⟩ := r2 j _ hu
    have hr := hx x (hmem x (List.mem_of_getElem? hjx))
    obtain ⟨vs, hvs, hall, hokl⟩ := lcn h2 hr.1 hr.2
    exact ⟨l, h1, by rw [hvs]; exact hall, hokl, hk l (List.mem_of_getElem? h1)⟩
  let vs := xs.map a.eval
  have hvk : ∀ v ∈ vs, v.cells.toList.length = k := fun v hv => by
    obtain ⟨x, hxm, rfl⟩ := List.mem_map.1 hv
    obtain ⟨j, hj, hje⟩ := List.getElem_of_mem hxm
    obtain ⟨l, _, h2, _, h3⟩ := hval j x (by rw [List.getElem?_eq_getElem hj, hje])
    rw [← h2.length, h3]
  have hlk : len * i.size = len * k := by rw [t3]
  obtain ⟨cs', g1, g2, _, g4⟩ := lfN k vs 0 ((Array.range (len * i.size)).map (z.cells[· % z.cells.size]!)) hvk (by simp [vs, hlen, hlk])
  have hpv : (parts.map fun p => (p.1, a.eval p.2)).toList = (vs.zipIdx 0).map fun x => (x.2, x.1) := by
    rw [Array.toList_map, hparts, List.map_map, List.zipIdx_map, List.map_map]
    rfl
  have hrun := run_buildSlice (P := P) w t e len (parts.map fun p => (p.1, a.eval p.2)) cs' i z t1 t2 t6 (by rw [hlk]; omega) (by rw [hlk]; have := Nat.mul_pos h0 t5; omega) (by rw [hpv, t3]; rw [t3] at g1; exact g1)
  have hexec : (execOp a.eval (⟨dst, .buildSlice t len parts, rt, pos, after, guard⟩ : Oper)).run P w = .ok (.value (.slice (some ⟨w.heap.size, 0, none⟩) len len)) (w.alloc (.cells cs' e)) := by
    show (do pure (Next.value (← Instr.buildSlice t len (parts.map fun p => (p.1, a.eval p.2)))) : Sem Next).run P w = _
    rw [Sem.run_bind, hrun]
    rfl
  unfold Oper.wp
  rw [hexec]
  have hd' : nm ∉ s.d := by simpa using hd
  have hsz : (w.alloc (Obj.cells cs' e)).heap.size = w.heap.size + 1 := by simp
  have hrl : rows.length = len := by rw [r1, ← hus, List.length_map, hlen]
  have hlm : len ≤ maxLen := by have : len ≤ len * k := Nat.le_mul_of_pos_right _ t5; unfold maxLen; omega
  have hcs : cs'.size = len * k := by rw [g2]; simp [hlk]
  refine ⟨_, F, upd ρ nm ⟨some w.heap.size, len, 0⟩, rfl, lbU H nm _ (fun c hc => lbl _ _ hc) (.inl ⟨hn, hd'⟩) (fun _ h => h) (fun _ h => .inl h) (fun k hk => by rw [hsz];exact Nat.lt_succ_of_lt (H.lt k hk)) (fun k hk _ => Below.heap_alloc w _ k hk) rfl rfl rfl (by rw [hsz]; omega) (fun hrel => ?_) (fun g hg => ?_) (fun g hg hf => ?_) (fun hokm => fun r hr c hc => ?_), ?_, ?_⟩
  · refine ⟨by rw [la3], t5, .inr ⟨w.heap.size, cs', by rw [la3], heap_alloc_new w _, by rw [la3]; exact hcs, by rw [la3, hrl]; exact Nat.le_refl _, by rw [la3]; exact hlm, fun q row hq => ?_⟩⟩
    have hql : q < rows.length := (List.getElem?_eq_some_iff.1 hq).1
    have hxq : xs[q]? = some xs[q] := by simp [hlen, ← hrl, hql]
    obtain ⟨l, h1, h2, h3, h4⟩ := hval q _ hxq
    obtain rfl : row = l := Option.some.inj (hq.symm.trans h1)
    refine ⟨h4, fun j c hc => ?_⟩
    have hj : j < k := by rw [← h4]; exact (List.getElem?_eq_some_iff.1 hc).1
    have hcell := g4 q (a.eval xs[q]) (by simp [vs, hlen, ← hrl, hql]) j hj
    obtain ⟨u, hu, hru⟩ := h2.get j c hc
    refine ⟨u, by rw [Nat.zero_add] at hcell; rw [hcell];exact hu, hrel c u (h3 c (List.mem_of_getElem? hc)) hru⟩
  · rw [la3] at hg; cases hg; exact .inr (Nat.le_refl _)
  · rw [la3] at hg; cases hg; exact absurd (H.lt _ hf) (Nat.lt_irrefl _)
  · exact hokm c (la5 (lbR hcl hr hc))
  · exact ⟨rfl, fun _ => .inr ⟨w.heap.size, by rw [la3], by rw [la3]⟩⟩
  · exact ⟨e, k, 0, _, la3 .., Nat.le_refl _⟩
theorem loc_buildOwnD {t e : TypeId} {len k bytes : Nat} {parts : Array (Nat × Operand)} {rows : List (List C)} {x0 : Tmp} [T : TElem P t e k bytes] (hparts : parts.toList = ((parts.toList.map (·.2)).zipIdx 0).map fun x => (x.2, x.1)) (hlen : (parts.toList.map (·.2)).length = len) (h0 : 0 < len) (hsmall : len * k ≤ 16777216)
    (hrows : RowsOf ((parts.toList.map (·.2)).map (opU s.t)) rows) (hk : AllP (fun l => l.length = k) rows) (hcl : closedRows rows = true) (hn : s.h x0 = none) (hd : (s.d.contains x0) = false) :
    LocOp P ⟨some x0, .buildSlice t len parts, rt, pos, after, guard⟩ s [] [(x0, some (.row e k 0 rows))] (.one (.own x0 0 len)) := loc_buildOwn x0 hparts hlen h0 hsmall hrows hk hcl hn hd
end ops
end Go.Proofs.YtnflnbdlgdjfmabGreatDoor
namespace Go.Proofs.YtnflnbdlgdjfmabGreatDoor
open Go.RowKit
set_option maxRecDepth 100000
attribute [local irreducible] RunL AW LocOp ACalls Gh
theorem lcQ : ∀ env : List V, closedC (envC env) = true
  | [] => rfl
  | _ :: _ => rfl
theorem lb2 {h : Nat → Option Blk} (env : List V) : okC h (envC env) := la5 (lcQ env)
theorem lbq : ACalls Tryz.prog 100 [] [] (.tup [Out.stuck.u, .one (.bool true)]) [] := by
  refine zB Tryz.func100 ?_
  refine zQ ?_;refine zM lah ?_;refine zV lab ?_;refine zn (zQ ?_);refine zV laq ?_;refine zE laf ?_;refine zV lab ?_;refine zn (zre ?_)
  refine rq ?_
  refine lbn (by exact .inr rfl) (by exact rfl) (by exact rfl) (by exact rfl) (by exact rfl) [] trivial (l' := Out.stuck.c) (by exact laX _) (by exact .le (.refl _)) (by exact zo) (by exact rfl) (by exact ⟨⟨zo, zo, zo, zo⟩, zo, zo⟩) (by exact zo) (by exact rfl)
theorem lbO : ACalls Tryz.prog 102 [] [] (.tup [Out.zero.u, .one (.bool false)]) [] := by
  refine zB Tryz.func102 ?_
  refine zQ ?_;refine zM lah ?_;refine zV lab ?_;refine zn (zQ ?_);refine zV laq ?_;refine zE laf ?_;refine zV lab ?_;refine zn (zre ?_)
  refine rq ?_
  refine lbn (by exact .inr rfl) (by exact rfl) (by exact rfl) (by exact rfl) (by exact rfl) [] trivial (l' := Out.zero.c) (by exact laX _) (by exact .le (.refl _)) (by exact zo) (by exact rfl) (by exact ⟨⟨zo, zo, zo, zo⟩, zo, zo⟩) (by exact zo) (by exact rfl)
def V.tags : V → Nat
  | .tag v _ => v.tags + 1
  | _ => 0
theorem seen_a (v : V) : ACalls Tryz.prog 65 [.one v.p] [] v.seen.u [] := by
  refine zB Tryz.func65 ?_
  refine zQ ?_;refine zM lah ?_;refine zn (zq (zbl ?_))
  refine AW.gh (laZ [(0, .one v.p), (2, .one (.ptr 2 0))] [(2, .obj Out.zero.c)] [] [] ⟨(by exact WkU.of_eq rfl zo), (zw rfl zo), zo⟩ ⟨(by exact zb rfl), zo⟩ trivial zo rfl rfl ⟨zo, ⟨_, rfl⟩, zo⟩ ⟨(by exact ⟨zo, zo, zo, zo⟩), zo⟩) ?_
  refine AW.loop (fun m t h => ∃ u : V, u.seen = v.seen ∧ m = u.tags ∧ t = tOfL [(0, .one u.p), (2, .one (.ptr 2 0))] ∧ h = ofL [(2, .obj Out.zero.c)]) v.tags ⟨v, rfl, rfl, rfl, rfl⟩ ?_
  rintro m t h ⟨u, hu, rfl, rfl, rfl⟩
  cases u with
  | tag u g =>
    refine zq (zQ ?_);refine zV laa ?_;refine zV lag ?_;refine zV lak ?_;refine zV lai ?_;refine zV lac ?_;refine zn ?_;refine zcT ?_;refine zsk (zbl (zR ?_));refine zV laa ?_;refine zV lag ?_;refine zV lak ?_;refine zV lai ?_;refine zV lab ?_;refine zn ?_
    exact ⟨u.tags, _, _, by simp [V.tags], (laZ [(0, .one u.p), (2, .one (.ptr 2 0))] [(2, .obj Out.zero.c)] [] [] ⟨(by exact WkU.of_eq rfl zo), (zw rfl zo), zo⟩ ⟨(by exact zb rfl), zo⟩ trivial zo rfl rfl ⟨zo, ⟨_, rfl⟩, zo⟩ ⟨(by exact ⟨zo, zo, zo, zo⟩), zo⟩), u, hu, rfl, rfl, rfl⟩
  | num n =>
    refine zq (zQ ?_);refine zV laa ?_;refine zV lag ?_;refine zV lak ?_;refine zV lai ?_;refine zV lac ?_;refine zn ?_;refine zcF ?_;refine zex (zq (zQ ?_));refine zV laa ?_;refine zV lag ?_;refine zV lak ?_;refine zV lai ?_;refine zn (zbl (zq (zQ ?_)));refine zV lac ?_;refine zV lab ?_;refine zn ?_;refine zcT ?_;refine zsk ?_;refine zcT ?_;refine zq ?_;refine zRD ?_;refine zV laa ?_;refine zV lag ?_;refine zV lak ?_;refine zV lai ?_;refine zV laa ?_;refine zV lag ?_;refine zV lak ?_;refine zV lai ?_;refine zV laq ?_;refine zE laf ?_;refine znD ?_;refine zre ?_
    rw [← hu]
    refine rq ?_
    refine lbg (by exact .inr rfl) (by exact rfl) (by exact rfl) (by exact rfl) [] trivial (l' := (V.seen (.num n)).c) (by exact laX _) (by exact ⟨zo, zo, zo, zo⟩) (by exact rfl)
  | tru n =>
    refine zq (zQ ?_);refine zV laa ?_;refine zV lag ?_;refine zV lak ?_;refine zV lai ?_;refine zV lac ?_;refine zn ?_;refine zcF ?_;refine zex (zq (zQ ?_));refine zV laa ?_;refine zV lag ?_;refine zV lak ?_;refine zV lai ?_;refine zn (zbl (zq (zQ ?_)));refine zV lac ?_;refine zV lab ?_;refine zn ?_;refine zcF ?_;refine zR ?_;refine zV lac ?_;refine zV lab ?_;refine zn ?_;refine zcT ?_;refine zq ?_;refine zRD ?_;refine zV laa ?_;refine zV lag ?_;refine zV lak ?_;refine zV lai ?_;refine zV laa ?_;refine zV lag ?_;refine zV lak ?_;refine zV lai ?_;refine zV laq ?_;refine zE laf ?_;refine znD ?_;refine zre ?_
    rw [← hu]
    refine rq ?_
    refine lbg (by exact .inr rfl) (by exact rfl) (by exact rfl) (by exact rfl) [] trivial (l' := (V.seen (.tru n)).c) (by exact laX _) (by exact ⟨zo, zo, zo, zo⟩) (by exact rfl)
  | clo b e =>
    refine zq (zQ ?_);refine zV laa ?_;refine zV lag ?_;refine zV lak ?_;refine zV lai ?_;refine zV lac ?_;refine zn ?_;refine zcF ?_;refine zex (zq (zQ ?_));refine zV laa ?_;refine zV lag ?_;refine zV lak ?_;refine zV lai ?_;refine zn (zbl (zq (zQ ?_)));refine zV lac ?_;refine zV lab ?_;refine zn ?_;refine zcF ?_;refine zR ?_;refine zV lac ?_;refine zV lab ?_;refine zn ?_;refine zcF ?_;refine zsk (zQ ?_);refine zV laq ?_;refine zE laf ?_;refine zn (zre ?_)
    rw [← hu]
    refine rq ?_
    refine lbg (by exact .inr rfl) (by exact rfl) (by exact rfl) (by exact rfl) [] trivial (l' := (V.seen (.clo b e)).c) (by exact laX _) (by exact ⟨zo, zo, zo, zo⟩) (by exact rfl)
  | wrap u f t a b =>
    refine zq (zQ ?_);refine zV laa ?_;refine zV lag ?_;refine zV lak ?_;refine zV lai ?_;refine zV lac ?_;refine zn ?_;refine zcF ?_;refine zex (zq (zQ ?_));refine zV laa ?_;refine zV lag ?_;refine zV lak ?_;refine zV lai ?_;refine zn (zbl (zq (zQ ?_)));refine zV lac ?_;refine zV lab ?_;refine zn ?_;refine zcF ?_;refine zR ?_;refine zV lac ?_;refine zV lab ?_;refine zn ?_;refine zcF ?_;refine zsk (zQ ?_);refine zV laq ?_;refine zE laf ?_;refine zn (zre ?_)
    rw [← hu]
    refine rq ?_
    refine lbg (by exact .inr rfl) (by exact rfl) (by exact rfl) (by exact rfl) [] trivial (l' := (V.seen (.wrap u f t a b)).c) (by exact laX _) (by exact ⟨zo, zo, zo, zo⟩) (by exact rfl)
structure StkOk (s : List Fr) (n : Nat) (rows : List (List C)) : Prop where
  len : n = s.length
  le : n ≤ rows.length
  top : rows.take n = frRows s
  cl : closedRows rows = true
  k16 : ∀ r ∈ rows, r.length = 16
def mCells (t : Tm) (env : List V) (v : C) (vv n F : Nat) : List C := [.int .i64 t.k, .int .i64 t.n, .int .i64 t.t.k, slOf 2 (tyRows t.t.l), .int .i64 t.f.k, slOf 2 (tyRows t.f.l), slOf 7 (tmRows t.l), envC env, v, .own 1001 vv n, .int .i64 F]
theorem ldK (f : Fr) (s : List Fr) : frRows (f :: s) = frRows s ++ [f.c] := by simp [frRows]
theorem lch (s : List Fr) : (frRows s).length = s.length := by simp [frRows]
theorem lb6 {l m : List (List C)} : closedRows (l ++ m) = (closedRows l && closedRows m) := by
  induction l with
  | nil => simp [closedRows]
  | cons a l ih => simp only [List.cons_append, closedRows, ih, Bool.and_assoc]
theorem lc4 {l : List (List C)} (h : closedRows l = true) (n : Nat) : closedRows (l.take n) = true := by
  have := lb6 (l := l.take n) (m := l.drop n)
  rw [List.take_append_drop, h] at this
  simp only [Bool.true_eq, Bool.and_eq_true] at this
  exact this.1
theorem lfZ (f : Fr) : closedRow f.c = true := by
  cases f with
  | term t env => simp only [Fr.c, closedRow, lcQ]; rfl
  | _ => rfl
theorem lfl (f : Fr) : f.c.length = 16 := by cases f <;> rfl
theorem StkOk.push {s : List Fr} {n : Nat} {rows : List (List C)} (h : StkOk s n rows) (f : Fr) : StkOk (f :: s) (n + 1) (rows.take n ++ [f.c]) where
  len := by simp [h.len]
  le := by simp [List.length_take, h.le]
  top := by rw [List.take_of_length_le (by simp [List.length_take, h.le]), h.top, ldK]
  cl := by rw [lb6, lc4 h.cl]; simp [closedRows, lfZ]
  k16 := fun r hr => by
    rcases List.mem_append.1 hr with hr | hr
    · exact h.k16 r (List.mem_of_mem_take hr)
    · rw [List.mem_singleton.1 hr]; exact lfl f
theorem StkOk.pop {f : Fr} {s : List Fr} {n : Nat} {rows : List (List C)} (h : StkOk (f :: s) n rows) : StkOk s (n - 1) rows ∧ rows[n - 1]? = some f.c := by
  have hl := h.len
  rw [List.length_cons] at hl
  have h1 : rows.take (n - 1) = frRows s := by
    have e := congrArg (List.take (n - 1)) h.top
    rw [List.take_take, Nat.min_eq_left (by omega), ldK, List.take_append_of_le_length (by rw [lch]; omega)] at e
    rw [e, List.take_of_length_le (by rw [lch]; omega)]
  refine ⟨⟨by omega, by have := h.le; omega, h1, h.cl, h.k16⟩, ?_⟩
  have h2 : (rows.take n)[n - 1]? = some f.c := by
    rw [h.top, ldK, List.getElem?_append_right (by rw [lch]; omega), lch, show n - 1 - s.length = 0 by omega]; rfl
  rw [List.getElem?_take] at h2
  split at h2
  · exact h2
  · cases h2
theorem ret_none {P : Program} {e : Exit} {t : Nat → U} {h : Nat → Option Blk} {O' : List (Nat × Blk)} (he : e = .normal ∨ e = .ret) (hO : AllP (fun p => ∃ x0, h p.1 = some x0 ∧ WkBlk h [] [] x0 p.2) O') (hok2 : AllP (fun p => okBlk' (ofL O') p.2) O') : RetQ P #[] (.tup []) O' e t h :=
  ⟨he, [], trivial, trivial, .tup [], rfl, [], trivial, trivial, hO, rfl, trivial, hok2⟩
theorem la8 {h : Nat → Option Blk} {t : Tm} {env : List V} {v : C} {vv n F : Nat} (hv : closedC v = true) (ho : ∃ e k v' rows, h 1001 = some (.row e k v' rows) ∧ vv ≤ v') : AllP (okC h) (mCells t env v vv n F) :=
  ⟨trivial, trivial, trivial, trivial, trivial, trivial, trivial, lb2 env, la5 hv, ho, trivial, trivial⟩
theorem ldS (f : Fr) (t : Tm) (env : List V) (v : C) (hv : closedC v = true) (vv n F : Nat) (rows : List (List C)) (hn : n ≤ rows.length) (hcl : closedRows rows = true) (hmax : n ≤ 100000000010) :
    ACalls Tryz.prog 101 [.one (.ptr 1000 0), .agg f.c] [(1000, .obj (mCells t env v vv n F)), (1001, .row 118 16 vv rows)] (.tup []) [(1000, .obj (mCells t env v (vv + 1) (n + 1) F)), (1001, .row 118 16 (vv + 1) (rows.take n ++ [f.c]))] := by
  refine lbe Tryz.func101 rfl (by kernel_rfl) (Nat.le_of_ble_eq_true rfl) (by exact ⟨⟨rfl, zo⟩, ⟨rfl, Nat.le_succ _⟩, zo⟩) (by simp [namesL]) ?_
  have hfc := lfZ f
  have hfl := lfl f
  refine zQ ?_;refine zM lan ?_;refine zn ?_;refine zRD ?_;refine zV laa ?_;refine zV laa ?_;refine zV lag ?_;refine zV lad ?_;refine zV lae ?_
  refine zV (laj rfl rfl (Cut.all hfl)) ?_
  refine zV (laF (rows := [f.c]) (by exact rfl) (by exact rfl) (by decide) (by decide) (by exact RowsOf.cons (by exact rfl) RowsOf.nil) (by exact AllP.cons hfl AllP.nil) (by simp only [closedRows, hfc]; rfl)) ?_
  refine zM (lcO (news := [f.c]) (rows0 := rows.take n) (by exact rfl) (by exact rfl) (by exact rfl) (by exact .inl rfl) hn rfl (fun r hr => by rw [List.mem_singleton.1 hr];exact hfl) (by simp only [List.length_singleton]; unfold maxLen; omega) (by simp only [List.length_singleton]; omega)) ?_
  refine zV lag ?_;refine zV lad ?_;refine zE lax ?_;refine znD ?_
  refine rq ?_
  refine ret_none (by exact .inl rfl) ?_ ?_
  · exact ⟨⟨_, rfl, laX _⟩, ⟨_, rfl, WkBlk.refl _⟩, trivial⟩
  · exact ⟨la8 hv ⟨_, _, _, _, rfl, Nat.le_refl _⟩, laY (by rw [lb6, lc4 hcl]; simp only [closedRows, hfc]; rfl), trivial⟩
def outU : V ⊕ Out → U
  | .inl _ => .tup [Out.zero.u, .one (.bool false)]
  | .inr o => .tup [o.u, .one (.bool true)]
def outC : V ⊕ Out → C
  | .inl u => u.p
  | .inr _ => .nilp
theorem la4 {P : Program} {x z : Tmp} {tx : TypeId} {bx : Nat} {l : List C} {o : Out} {b : Bool} {e : Exit} {t : Nat → U} {h : Nat → Option Blk} {O' : List (Nat × Blk)} [T : TAgg P tx 3] (he : e = .normal ∨ e = .ret)
    (hx : t x = .one (.ptr bx 0)) (hbx : h bx = some (.obj l)) (hl : l = o.c) (hz : t z = .one (.bool b))
    (fz : List Nat) (hfz : AllP (ClosedAt h) fz) (hO : AllP (fun p => ∃ x0, h p.1 = some x0 ∧ WkBlk h fz [] x0 p.2) O') (hd : disj fz (namesL O') = true)
    (hok2 : AllP (fun p => okBlk' (ofL O') p.2) O') {r : U} (hr : r = .tup [o.u, .one (.bool b)]) : RetQ P #[.cell x tx, .tmp z] r O' e t h := by
  subst hl
  exact lbn he hx hbx rfl hz fz hfz (laX _) (.le (.refl _)) hO hd ⟨⟨zo, zo, zo, zo⟩, zo, zo⟩ hok2 hr
theorem wrapLe {v : V} {f t : Ty} {a : Int} {b : Bool} : All2 LeC [.int .i64 7, .int .i64 0, .int .i64 0, .int .i64 0, .int .i64 0, .nilsl, .int .i64 0, .nilsl, .nilsl, .nilp, v.p, .int .i64 f.k, slOf 2 (tyRows f.l), .int .i64 t.k, slOf 2 (tyRows t.l), .int .i64 a, .bool b] (V.wrap v f t a b).cells :=
  ⟨.refl _, .refl _, .refl _, .refl _, .refl _, .nil _, .refl _, .nil _, .nil _, .refl _, .refl _, .refl _, .refl _, .refl _, .refl _, .refl _, .refl _, trivial⟩
theorem tagLe {v : V} {g : Ty} : All2 LeC [.int .i64 8, .int .i64 0, .int .i64 0, .int .i64 0, .int .i64 0, .nilsl, .int .i64 0, .nilsl, .nilsl, .nilp, v.p, .int .i64 g.k, slOf 2 (tyRows g.l), .int .i64 0, .nilsl, .int .i64 0, .bool false] (V.tag v g).cells :=
  ⟨.refl _, .refl _, .refl _, .refl _, .refl _, .nil _, .refl _, .nil _, .nil _, .refl _, .refl _, .refl _, .refl _, .refl _, .nil _, .refl _, .refl _, trivial⟩
theorem numLe {n : Int} : All2 LeC [.int .i64 1, .int .i64 n, .int .i64 0, .int .i64 0, .int .i64 0, .nilsl, .int .i64 0, .nilsl, .nilsl, .nilp, .nilp, .int .i64 0, .nilsl, .int .i64 0, .nilsl, .int .i64 0, .bool false] (V.num n).cells :=
  ⟨.refl _, .refl _, .refl _, .refl _, .refl _, .nil _, .refl _, .nil _, .nil _, .refl _, .refl _, .refl _, .nil _, .refl _, .nil _, .refl _, .refl _, trivial⟩
theorem truLe {n : Int} : All2 LeC [.int .i64 2, .int .i64 n, .int .i64 0, .int .i64 0, .int .i64 0, .nilsl, .int .i64 0, .nilsl, .nilsl, .nilp, .nilp, .int .i64 0, .nilsl, .int .i64 0, .nilsl, .int .i64 0, .bool false] (V.tru n).cells :=
  ⟨.refl _, .refl _, .refl _, .refl _, .refl _, .nil _, .refl _, .nil _, .nil _, .refl _, .refl _, .refl _, .nil _, .refl _, .nil _, .refl _, .refl _, trivial⟩
theorem cloLe {b : Tm} {env : List V} : All2 LeC [.int .i64 3, .int .i64 0, .int .i64 b.k, .int .i64 b.n, .int .i64 b.t.k, slOf 2 (tyRows b.t.l), .int .i64 b.f.k, slOf 2 (tyRows b.f.l), slOf 7 (tmRows b.l), envC env, .nilp, .int .i64 0, .nilsl, .int .i64 0, .nilsl, .int .i64 0, .bool false] (V.clo b env).cells :=
  ⟨.refl _, .refl _, .refl _, .refl _, .refl _, .refl _, .refl _, .refl _, .refl _, .refl _, .refl _, .refl _, .nil _, .refl _, .nil _, .refl _, .refl _, trivial⟩
theorem groundK {f : Ty} : f.ground.k = f.k := by unfold Ty.ground; split <;> rename_i h <;> simp [Ty.to] <;> simp at h; omega
theorem lc5 {h : Nat → Option Blk} {fz : List Nat} {t : Tm} {env : List V} {c c' : C} {vv n F : Nat} (hw : WkC h fz [] c c') : All2 (WkC h fz []) (mCells t env c vv n F) (mCells t env c' vv n F) :=
  ⟨.le (.refl _), .le (.refl _), .le (.refl _), .le (.refl _), .le (.refl _), .le (.refl _), .le (.refl _), .le (.refl _), hw, .le (.refl _), .le (.refl _), trivial⟩
set_option maxHeartbeats 8000000 in
theorem cast_a (v : V) (f t : Ty) (at' : Int) (back : Bool) (t0 : Tm) (env0 : List V) (vv n F : Nat) (rows : List (List C)) (hcl : closedRows rows = true) :
    ACalls Tryz.prog 105 [.one (.ptr 1000 0), .one v.p, f.u, t.u, .one (.int .i64 at'), .one (.bool back)] [(1000, .obj (mCells t0 env0 .nilp vv n F)), (1001, .row 118 16 vv rows)]
      (outU (castV v f t at' back)) [(1000, .obj (mCells t0 env0 (outC (castV v f t at' back)) vv n F)), (1001, .row 118 16 vv rows)] := by
  refine zB2 Tryz.func105 ?_
  refine zQ ?_;refine zM lan ?_;refine zM lan ?_;refine zM lah ?_;refine zV lab ?_;refine zn (zbl ?_)
  refine AW.gh (laZ [(0, .one (.ptr 1000 0)), (1, .one (V.p (v))), (4, .one (.int .i64 at')), (5, .one (.bool back)), (8, .one (.ptr 8 0)), (9, .one (.ptr 9 0)), (12, .one (.ptr 12 0)), (13, .one (.bool false))] [(1000, .obj (mCells t0 env0 .nilp vv n F)), (1001, .row 118 16 vv rows), (8, .obj (Ty.c (f))), (9, .obj t.c), (12, .obj Out.zero.c)] [] [] ⟨(zw rfl zo), (by exact WkU.of_eq rfl zo), (zw rfl zo), (zw rfl zo), (zw rfl zo), (zw rfl zo), (zw rfl zo), (zw rfl zo), zo⟩ ⟨(by exact zb rfl), (by exact zb rfl), (by exact zb rfl), (by exact zb rfl), (by exact zb rfl), zo⟩ trivial zo rfl rfl ⟨⟨_, rfl⟩, zo, zo, zo, ⟨_, rfl⟩, ⟨_, rfl⟩, ⟨_, rfl⟩, zo, zo⟩ ⟨(by exact ⟨zo, zo, zo, zo, zo, zo, zo, lb2 _, zo, ⟨_, _, _, _, rfl, Nat.le_refl _⟩, zo, zo⟩), (laY (by assumption)), (by exact ⟨zo, zo, zo⟩), (by exact ⟨zo, zo, zo⟩), (by exact ⟨zo, zo, zo, zo⟩), zo⟩) ?_
  refine AW.loop (fun m t' h => ∃ (w : V) (g : Ty), castV w g t at' back = castV v f t at' back ∧ m = w.tags ∧ t' = tOfL [(0, .one (.ptr 1000 0)), (1, .one (V.p (w))), (4, .one (.int .i64 at')), (5, .one (.bool back)), (8, .one (.ptr 8 0)), (9, .one (.ptr 9 0)), (12, .one (.ptr 12 0)), (13, .one (.bool false))] ∧ h = ofL [(1000, .obj (mCells t0 env0 .nilp vv n F)), (1001, .row 118 16 vv rows), (8, .obj (Ty.c (g))), (9, .obj t.c), (12, .obj Out.zero.c)]) v.tags ⟨v, f, rfl, rfl, rfl, rfl⟩ ?_
  rintro m t' h ⟨w, g, hw, rfl, rfl, rfl⟩
  rw [← hw]
  refine zbl (zbl (zQ ?_));refine zV laj ?_;refine zV laj ?_
  refine zV (lal (lfX g t) rfl (by refine ⟨_, _, rfl, (by exact LeU.of_eq rfl zo), (by (exact ⟨zo, zo, zo⟩)), ?_⟩;refine ⟨_, _, rfl, (by exact LeU.of_eq rfl zo), (by (exact ⟨zo, zo, zo⟩)), ?_⟩;exact rfl)) ?_
  cases h1 : g.same t with
  | true =>
    have e : castV w g t at' back = .inl w := by unfold castV; rw [if_pos h1]
    rw [e]
    refine zV lab ?_;refine zn ?_;refine zcT ?_;refine zQ ?_;refine zV laa ?_;refine zV laa ?_;refine zV lag ?_;refine zV lad ?_;refine zE lax ?_;refine zn (zQ ?_)
    refine zV (lal lbO) ?_
    refine zV las ?_;refine zV lar ?_;refine zE laf ?_;refine zV lab ?_;refine zn (zre ?_)
    refine rq ?_
    exact la4 (o := Out.zero) (b := false) (by exact .inr rfl) (by exact rfl) (by exact rfl) rfl (by exact rfl) [] trivial (by exact ⟨⟨_, rfl, laX _⟩, ⟨_, rfl, WkBlk.refl _⟩, zo⟩) (by exact rfl) (by exact ⟨la8 rfl ⟨_, _, _, _, rfl, Nat.le_refl _⟩, laY hcl, zo⟩) rfl
  | false =>
  have h1' : ¬ g.same t = true := by simp [h1]
  cases h2 : (g.k == 3 && t.k == 3) with
  | true =>
    have e : castV w g t at' back = .inl (.wrap w g t at' back) := by unfold castV; rw [if_neg h1', if_pos h2]
    have h3 : (g.k == 3) = true ∧ (t.k == 3) = true := by simpa using h2
    have hg3 := h3.1
    have ht3 := h3.2
    rw [e]
    refine zV lab ?_;refine zn ?_;refine zcF ?_;refine zQ ?_;refine zV lad ?_;refine zV lae ?_;refine zV lac ?_;refine zV laa ?_;refine zT lad ?_;refine zT lae ?_;refine zT lac ?_;refine zV (lam true) ?_;refine zV lab ?_;refine zn ?_;refine zaT ?_;refine zQ ?_;refine zV laa ?_;refine zV laa ?_;refine zV laj ?_;refine zV laj ?_;refine zV laa ?_;refine zV laa ?_;refine zV laq ?_;refine zM lan ?_;refine zV lag ?_;refine zV lad ?_;refine zE lax ?_;refine zn (zQ ?_)
    refine zV (lal lbO) ?_
    refine zV las ?_;refine zV lar ?_;refine zE laf ?_;refine zV lab ?_;refine zn (zre ?_)
    refine rq ?_
    exact la4 (o := Out.zero) (b := false) (by exact .inr rfl) (by exact rfl) (by exact rfl) rfl (by exact rfl) [46] (by exact ⟨⟨_, rfl, rfl⟩, zo⟩) (by exact ⟨⟨_, rfl, (by exact lc5 (c := .ptr 46 0) (.obj (List.mem_cons_self ..) rfl wrapLe))⟩, ⟨_, rfl, WkBlk.refl _⟩, zo⟩) (by exact rfl) (by exact ⟨la8 rfl ⟨_, _, _, _, rfl, Nat.le_refl _⟩, laY hcl, zo⟩) rfl
  | false =>
  have h2' : ¬ (g.k == 3 && t.k == 3) = true := by rw [h2]; decide
  cases h21 : (g.k == 3) with
  | true =>
    have h22 : (t.k == 3) = false := by rw [h21] at h2; simpa using h2
    cases h3 : (t.k == 0) with
    | true =>
      refine zV lab ?_;refine zn ?_;refine zcF ?_;refine zQ ?_;refine zV lad ?_;refine zV lae ?_;refine zV lac ?_;refine zV laa ?_;refine zT lad ?_;refine zT lae ?_;refine zT lac ?_;refine zV (lam true) ?_;refine zV lab ?_;refine zn ?_;refine zaF ?_;refine zQ ?_;refine zV lad ?_;refine zV lae ?_;refine zV lac ?_;refine zV lab ?_;refine zn ?_;refine zaT ?_;refine zQ ?_;refine zV laj ?_
      refine zV (lal (lfy g) rfl (by refine ⟨_, _, rfl, (by exact LeU.of_eq rfl zo), (by (exact ⟨zo, zo, zo⟩)), ?_⟩;exact rfl)) ?_
      refine zM lah ?_;refine zE laf ?_;refine zn (zq (zQ ?_));refine zV laj ?_;refine zV laj ?_
      refine zV (lal (lfX g g.ground) rfl (by refine ⟨_, _, rfl, (by exact LeU.of_eq rfl zo), (by (exact ⟨zo, zo, zo⟩)), ?_⟩;refine ⟨_, _, rfl, (by exact LeU.of_eq rfl zo), (by (exact ⟨zo, zo, zo⟩)), ?_⟩;exact rfl)) ?_
      cases h4 : g.same g.ground with
      | true =>
        have e : castV w g t at' back = .inl (.tag w g.ground) := by unfold castV; rw [if_neg h1', if_neg h2', if_pos h3, if_pos h4]
        rw [e]
        refine zV laz ?_;refine zn ?_;refine zcF ?_;refine zsk (zQ ?_);refine zV laa ?_;refine zV laa ?_;refine zV laj ?_;refine zV laq ?_;refine zM lan ?_;refine zV lag ?_;refine zV lad ?_;refine zE lax ?_;refine zn (zQ ?_)
        refine zV (lal lbO) ?_
        refine zV las ?_;refine zV lar ?_;refine zE laf ?_;refine zV lab ?_;refine zn (zre ?_)
        refine rq ?_
        exact la4 (o := Out.zero) (b := false) (by exact .inr rfl) (by exact rfl) (by exact rfl) rfl (by exact rfl) [73] (by exact ⟨⟨_, rfl, rfl⟩, zo⟩) (by exact ⟨⟨_, rfl, (by exact lc5 (c := .ptr 73 0) (.obj (List.mem_cons_self ..) rfl tagLe))⟩, ⟨_, rfl, WkBlk.refl _⟩, zo⟩) (by exact rfl) (by exact ⟨la8 rfl ⟨_, _, _, _, rfl, Nat.le_refl _⟩, laY hcl, zo⟩) rfl
      | false =>
        have e : castV w g t at' back = .inl (.tag (.wrap w g g.ground at' back) g.ground) := by unfold castV; rw [if_neg h1', if_neg h2', if_pos h3, if_neg (by simp [h4])]
        rw [e]
        refine zV laz ?_;refine zn ?_;refine zcT ?_;refine zR ?_;refine zV laa ?_;refine zV laj ?_;refine zV laj ?_;refine zV laa ?_;refine zV laa ?_;refine zV laq ?_
        refine zM lan ?_
        refine zV lab ?_;refine zn ?_
        refine AW.gh (laZ [(0, .one (.ptr 1000 0)), (1, .one (V.p (.wrap w g g.ground at' back))), (4, .one (.int .i64 at')), (5, .one (.bool back)), (8, .one (.ptr 8 0)), (9, .one (.ptr 9 0)), (12, .one (.ptr 12 0)), (13, .one (.bool false)), (14, .one (.ptr 14 0))] [(1000, .obj (mCells t0 env0 .nilp vv n F)), (1001, .row 118 16 vv rows), (8, .obj (Ty.c (g))), (9, .obj t.c), (12, .obj Out.zero.c), (14, .obj g.ground.c)] [68] [] ⟨(zw rfl zo), (by exact WkC.obj (List.mem_cons_self ..) rfl wrapLe), (zw rfl zo), (zw rfl zo), (zw rfl zo), (zw rfl zo), (zw rfl zo), (zw rfl zo), (zw rfl zo), zo⟩ ⟨(by exact zb rfl), (by exact zb rfl), (by exact zb rfl), (by exact zb rfl), (by exact zb rfl), (by exact zb rfl), zo⟩ ⟨⟨_, rfl, rfl⟩, zo⟩ trivial rfl rfl ⟨⟨_, rfl⟩, zo, zo, zo, ⟨_, rfl⟩, ⟨_, rfl⟩, ⟨_, rfl⟩, zo, ⟨_, rfl⟩, zo⟩ ⟨(by exact ⟨zo, zo, zo, zo, zo, zo, zo, lb2 _, zo, ⟨_, _, _, _, rfl, Nat.le_refl _⟩, zo, zo⟩), (laY (by assumption)), (by exact ⟨zo, zo, zo⟩), (by exact ⟨zo, zo, zo⟩), (by exact ⟨zo, zo, zo, zo⟩), (by exact ⟨zo, zo, zo⟩), zo⟩) ?_
        refine zQ ?_;refine zV laa ?_;refine zV laa ?_;refine zV laj ?_;refine zV laq ?_;refine zM lan ?_;refine zV lag ?_;refine zV lad ?_;refine zE lax ?_;refine zn (zQ ?_)
        refine zV (lal lbO) ?_
        refine zV las ?_;refine zV lar ?_;refine zE laf ?_;refine zV lab ?_;refine zn (zre ?_)
        refine rq ?_
        exact la4 (o := Out.zero) (b := false) (by exact .inr rfl) (by exact rfl) (by exact rfl) rfl (by exact rfl) [73] (by exact ⟨⟨_, rfl, rfl⟩, zo⟩) (by exact ⟨⟨_, rfl, (by exact lc5 (c := .ptr 73 0) (.obj (List.mem_cons_self ..) rfl tagLe))⟩, ⟨_, rfl, WkBlk.refl _⟩, zo⟩) (by exact rfl) (by exact ⟨la8 rfl ⟨_, _, _, _, rfl, Nat.le_refl _⟩, laY hcl, zo⟩) rfl
    | false =>
      have h3' : ¬ (t.k == 0) = true := by rw [h3]; decide
      have h5 : (g.k == 0) = false := by rw [beq_iff_eq] at h21; rw [h21]; rfl
      have e : castV w g t at' back = .inr .stuck := by unfold castV; rw [if_neg h1', if_neg h2', if_neg h3', if_neg (by rw [h5]; decide)]
      rw [e]
      refine zV lab ?_;refine zn ?_;refine zcF ?_;refine zQ ?_;refine zV lad ?_;refine zV lae ?_;refine zV lac ?_;refine zV laa ?_;refine zT lad ?_;refine zT lae ?_;refine zT lac ?_;refine zV (lam true) ?_;refine zV lab ?_;refine zn ?_;refine zaF ?_;refine zQ ?_;refine zV lad ?_;refine zV lae ?_;refine zV lac ?_;refine zV lab ?_;refine zn ?_;refine zaF ?_;refine zQ ?_;refine zV lad ?_;refine zV lae ?_;refine zV lac ?_;refine zV laa ?_;refine zf ?_;refine zf ?_;refine zf ?_;refine zf ?_;refine zf ?_;refine zV (lam false) ?_;refine zV lab ?_;refine zn ?_;refine zcF ?_;refine zQ ?_
      refine zV (lal lbq) ?_
      refine zV las ?_;refine zV lar ?_;refine zE laf ?_;refine zV lab ?_;refine zn (zre ?_)
      refine rq ?_
      exact la4 (o := Out.stuck) (b := true) (by exact .inr rfl) (by exact rfl) (by exact rfl) rfl (by exact rfl) [] (by exact zo) (by exact ⟨⟨_, rfl, laX _⟩, ⟨_, rfl, WkBlk.refl _⟩, zo⟩) (by exact rfl) (by exact ⟨la8 rfl ⟨_, _, _, _, rfl, Nat.le_refl _⟩, laY hcl, zo⟩) rfl
  | false =>
    cases h3 : (t.k == 0) with
    | true =>
      refine zV lab ?_;refine zn ?_;refine zcF ?_;refine zQ ?_;refine zV lad ?_;refine zV lae ?_;refine zV lac ?_;refine zV laa ?_;refine zf ?_;refine zf ?_;refine zf ?_;refine zV (lam false) ?_;refine zV lab ?_;refine zn ?_;refine zcF ?_;refine zQ ?_;refine zV lad ?_;refine zV lae ?_;refine zV lac ?_;refine zV lab ?_;refine zn ?_;refine zaT ?_;refine zQ ?_;refine zV laj ?_
      refine zV (lal (lfy g) rfl (by refine ⟨_, _, rfl, (by exact LeU.of_eq rfl zo), (by (exact ⟨zo, zo, zo⟩)), ?_⟩;exact rfl)) ?_
      refine zM lah ?_;refine zE laf ?_;refine zn (zq (zQ ?_));refine zV laj ?_;refine zV laj ?_
      refine zV (lal (lfX g g.ground) rfl (by refine ⟨_, _, rfl, (by exact LeU.of_eq rfl zo), (by (exact ⟨zo, zo, zo⟩)), ?_⟩;refine ⟨_, _, rfl, (by exact LeU.of_eq rfl zo), (by (exact ⟨zo, zo, zo⟩)), ?_⟩;exact rfl)) ?_
      cases h4 : g.same g.ground with
      | true =>
        have e : castV w g t at' back = .inl (.tag w g.ground) := by unfold castV; rw [if_neg h1', if_neg h2', if_pos h3, if_pos h4]
        rw [e]
        refine zV laz ?_;refine zn ?_;refine zcF ?_;refine zsk (zQ ?_);refine zV laa ?_;refine zV laa ?_;refine zV laj ?_;refine zV laq ?_;refine zM lan ?_;refine zV lag ?_;refine zV lad ?_;refine zE lax ?_;refine zn (zQ ?_)
        refine zV (lal lbO) ?_
        refine zV las ?_;refine zV lar ?_;refine zE laf ?_;refine zV lab ?_;refine zn (zre ?_)
        refine rq ?_
        exact la4 (o := Out.zero) (b := false) (by exact .inr rfl) (by exact rfl) (by exact rfl) rfl (by exact rfl) [73] (by exact ⟨⟨_, rfl, rfl⟩, zo⟩) (by exact ⟨⟨_, rfl, (by exact lc5 (c := .ptr 73 0) (.obj (List.mem_cons_self ..) rfl tagLe))⟩, ⟨_, rfl, WkBlk.refl _⟩, zo⟩) (by exact rfl) (by exact ⟨la8 rfl ⟨_, _, _, _, rfl, Nat.le_refl _⟩, laY hcl, zo⟩) rfl
      | false =>
        have e : castV w g t at' back = .inl (.tag (.wrap w g g.ground at' back) g.ground) := by unfold castV; rw [if_neg h1', if_neg h2', if_pos h3, if_neg (by simp [h4])]
        rw [e]
        refine zV laz ?_;refine zn ?_;refine zcT ?_;refine zR ?_;refine zV laa ?_;refine zV laj ?_;refine zV laj ?_;refine zV laa ?_;refine zV laa ?_;refine zV laq ?_
        refine zM lan ?_
        refine zV lab ?_;refine zn ?_
        refine AW.gh (laZ [(0, .one (.ptr 1000 0)), (1, .one (V.p (.wrap w g g.ground at' back))), (4, .one (.int .i64 at')), (5, .one (.bool back)), (8, .one (.ptr 8 0)), (9, .one (.ptr 9 0)), (12, .one (.ptr 12 0)), (13, .one (.bool false)), (14, .one (.ptr 14 0))] [(1000, .obj (mCells t0 env0 .nilp vv n F)), (1001, .row 118 16 vv rows), (8, .obj (Ty.c (g))), (9, .obj t.c), (12, .obj Out.zero.c), (14, .obj g.ground.c)] [68] [] ⟨(zw rfl zo), (by exact WkC.obj (List.mem_cons_self ..) rfl wrapLe), (zw rfl zo), (zw rfl zo), (zw rfl zo), (zw rfl zo), (zw rfl zo), (zw rfl zo), (zw rfl zo), zo⟩ ⟨(by exact zb rfl), (by exact zb rfl), (by exact zb rfl), (by exact zb rfl), (by exact zb rfl), (by exact zb rfl), zo⟩ ⟨⟨_, rfl, rfl⟩, zo⟩ trivial rfl rfl ⟨⟨_, rfl⟩, zo, zo, zo, ⟨_, rfl⟩, ⟨_, rfl⟩, ⟨_, rfl⟩, zo, ⟨_, rfl⟩, zo⟩ ⟨(by exact ⟨zo, zo, zo, zo, zo, zo, zo, lb2 _, zo, ⟨_, _, _, _, rfl, Nat.le_refl _⟩, zo, zo⟩), (laY (by assumption)), (by exact ⟨zo, zo, zo⟩), (by exact ⟨zo, zo, zo⟩), (by exact ⟨zo, zo, zo, zo⟩), (by exact ⟨zo, zo, zo⟩), zo⟩) ?_
        refine zQ ?_;refine zV laa ?_;refine zV laa ?_;refine zV laj ?_;refine zV laq ?_;refine zM lan ?_;refine zV lag ?_;refine zV lad ?_;refine zE lax ?_;refine zn (zQ ?_)
        refine zV (lal lbO) ?_
        refine zV las ?_;refine zV lar ?_;refine zE laf ?_;refine zV lab ?_;refine zn (zre ?_)
        refine rq ?_
        exact la4 (o := Out.zero) (b := false) (by exact .inr rfl) (by exact rfl) (by exact rfl) rfl (by exact rfl) [73] (by exact ⟨⟨_, rfl, rfl⟩, zo⟩) (by exact ⟨⟨_, rfl, (by exact lc5 (c := .ptr 73 0) (.obj (List.mem_cons_self ..) rfl tagLe))⟩, ⟨_, rfl, WkBlk.refl _⟩, zo⟩) (by exact rfl) (by exact ⟨la8 rfl ⟨_, _, _, _, rfl, Nat.le_refl _⟩, laY hcl, zo⟩) rfl
    | false =>
      have h3' : ¬ (t.k == 0) = true := by rw [h3]; decide
      cases h5 : (g.k == 0) with
      | false =>
        have e : castV w g t at' back = .inr .stuck := by unfold castV; rw [if_neg h1', if_neg h2', if_neg h3', if_neg (by rw [h5]; decide)]
        rw [e]
        refine zV lab ?_;refine zn ?_;refine zcF ?_;refine zQ ?_;refine zV lad ?_;refine zV lae ?_;refine zV lac ?_;refine zV laa ?_;refine zf ?_;refine zf ?_;refine zf ?_;refine zV (lam false) ?_;refine zV lab ?_;refine zn ?_;refine zcF ?_;refine zQ ?_;refine zV lad ?_;refine zV lae ?_;refine zV lac ?_;refine zV lab ?_;refine zn ?_;refine zaF ?_;refine zQ ?_;refine zV lad ?_;refine zV lae ?_;refine zV lac ?_;refine zV laa ?_;refine zf ?_;refine zf ?_;refine zf ?_;refine zf ?_;refine zf ?_;refine zV (lam false) ?_;refine zV lab ?_;refine zn ?_;refine zcF ?_;refine zQ ?_
        refine zV (lal lbq) ?_
        refine zV las ?_;refine zV lar ?_;refine zE laf ?_;refine zV lab ?_;refine zn (zre ?_)
        refine rq ?_
        exact la4 (o := Out.stuck) (b := true) (by exact .inr rfl) (by exact rfl) (by exact rfl) rfl (by exact rfl) [] (by exact zo) (by exact ⟨⟨_, rfl, laX _⟩, ⟨_, rfl, WkBlk.refl _⟩, zo⟩) (by exact rfl) (by exact ⟨la8 rfl ⟨_, _, _, _, rfl, Nat.le_refl _⟩, laY hcl, zo⟩) rfl
      | true =>
        cases w with
        | num q =>
          have e : castV (.num q) g t at' back = .inr .stuck := by unfold castV; rw [if_neg h1', if_neg h2', if_neg h3', if_pos h5]
          rw [e]
          refine zV lab ?_;refine zn ?_;refine zcF ?_;refine zQ ?_;refine zV lad ?_;refine zV lae ?_;refine zV lac ?_;refine zV laa ?_;refine zf ?_;refine zf ?_;refine zf ?_;refine zV (lam false) ?_;refine zV lab ?_;refine zn ?_;refine zcF ?_;refine zQ ?_;refine zV lad ?_;refine zV lae ?_;refine zV lac ?_;refine zV lab ?_;refine zn ?_;refine zaF ?_;refine zQ ?_;refine zV lad ?_;refine zV lae ?_;refine zV lac ?_;refine zV laa ?_;refine zT laa ?_;refine zT lag ?_;refine zT lak ?_;refine zT lai ?_;refine zT lac ?_;refine zV (lam true) ?_;refine zV lab ?_;refine zn ?_;refine zcF ?_;refine zQ ?_
          refine zV (lal lbq) ?_
          refine zV las ?_;refine zV lar ?_;refine zE laf ?_;refine zV lab ?_;refine zn (zre ?_)
          refine rq ?_
          exact la4 (o := Out.stuck) (b := true) (by exact .inr rfl) (by exact rfl) (by exact rfl) rfl (by exact rfl) [] (by exact zo) (by exact ⟨⟨_, rfl, laX _⟩, ⟨_, rfl, WkBlk.refl _⟩, zo⟩) (by exact rfl) (by exact ⟨la8 rfl ⟨_, _, _, _, rfl, Nat.le_refl _⟩, laY hcl, zo⟩) rfl
        | tru q =>
          have e : castV (.tru q) g t at' back = .inr .stuck := by unfold castV; rw [if_neg h1', if_neg h2', if_neg h3', if_pos h5]
          rw [e]
          refine zV lab ?_;refine zn ?_;refine zcF ?_;refine zQ ?_;refine zV lad ?_;refine zV lae ?_;refine zV lac ?_;refine zV laa ?_;refine zf ?_;refine zf ?_;refine zf ?_;refine zV (lam false) ?_;refine zV lab ?_;refine zn ?_;refine zcF ?_;refine zQ ?_;refine zV lad ?_;refine zV lae ?_;refine zV lac ?_;refine zV lab ?_;refine zn ?_;refine zaF ?_;refine zQ ?_;refine zV lad ?_;refine zV lae ?_;refine zV lac ?_;refine zV laa ?_;refine zT laa ?_;refine zT lag ?_;refine zT lak ?_;refine zT lai ?_;refine zT lac ?_;refine zV (lam true) ?_;refine zV lab ?_;refine zn ?_;refine zcF ?_;refine zQ ?_
          refine zV (lal lbq) ?_
          refine zV las ?_;refine zV lar ?_;refine zE laf ?_;refine zV lab ?_;refine zn (zre ?_)
          refine rq ?_
          exact la4 (o := Out.stuck) (b := true) (by exact .inr rfl) (by exact rfl) (by exact rfl) rfl (by exact rfl) [] (by exact zo) (by exact ⟨⟨_, rfl, laX _⟩, ⟨_, rfl, WkBlk.refl _⟩, zo⟩) (by exact rfl) (by exact ⟨la8 rfl ⟨_, _, _, _, rfl, Nat.le_refl _⟩, laY hcl, zo⟩) rfl
        | clo q q2 =>
          have e : castV (.clo q q2) g t at' back = .inr .stuck := by unfold castV; rw [if_neg h1', if_neg h2', if_neg h3', if_pos h5]
          rw [e]
          refine zV lab ?_;refine zn ?_;refine zcF ?_;refine zQ ?_;refine zV lad ?_;refine zV lae ?_;refine zV lac ?_;refine zV laa ?_;refine zf ?_;refine zf ?_;refine zf ?_;refine zV (lam false) ?_;refine zV lab ?_;refine zn ?_;refine zcF ?_;refine zQ ?_;refine zV lad ?_;refine zV lae ?_;refine zV lac ?_;refine zV lab ?_;refine zn ?_;refine zaF ?_;refine zQ ?_;refine zV lad ?_;refine zV lae ?_;refine zV lac ?_;refine zV laa ?_;refine zT laa ?_;refine zT lag ?_;refine zT lak ?_;refine zT lai ?_;refine zT lac ?_;refine zV (lam true) ?_;refine zV lab ?_;refine zn ?_;refine zcF ?_;refine zQ ?_
          refine zV (lal lbq) ?_
          refine zV las ?_;refine zV lar ?_;refine zE laf ?_;refine zV lab ?_;refine zn (zre ?_)
          refine rq ?_
          exact la4 (o := Out.stuck) (b := true) (by exact .inr rfl) (by exact rfl) (by exact rfl) rfl (by exact rfl) [] (by exact zo) (by exact ⟨⟨_, rfl, laX _⟩, ⟨_, rfl, WkBlk.refl _⟩, zo⟩) (by exact rfl) (by exact ⟨la8 rfl ⟨_, _, _, _, rfl, Nat.le_refl _⟩, laY hcl, zo⟩) rfl
        | wrap q q2 q3 q4 q5 =>
          have e : castV (.wrap q q2 q3 q4 q5) g t at' back = .inr .stuck := by unfold castV; rw [if_neg h1', if_neg h2', if_neg h3', if_pos h5]
          rw [e]
          refine zV lab ?_;refine zn ?_;refine zcF ?_;refine zQ ?_;refine zV lad ?_;refine zV lae ?_;refine zV lac ?_;refine zV laa ?_;refine zf ?_;refine zf ?_;refine zf ?_;refine zV (lam false) ?_;refine zV lab ?_;refine zn ?_;refine zcF ?_;refine zQ ?_;refine zV lad ?_;refine zV lae ?_;refine zV lac ?_;refine zV lab ?_;refine zn ?_;refine zaF ?_;refine zQ ?_;refine zV lad ?_;refine zV lae ?_;refine zV lac ?_;refine zV laa ?_;refine zT laa ?_;refine zT lag ?_;refine zT lak ?_;refine zT lai ?_;refine zT lac ?_;refine zV (lam true) ?_;refine zV lab ?_;refine zn ?_;refine zcF ?_;refine zQ ?_
          refine zV (lal lbq) ?_
          refine zV las ?_;refine zV lar ?_;refine zE laf ?_;refine zV lab ?_;refine zn (zre ?_)
          refine rq ?_
          exact la4 (o := Out.stuck) (b := true) (by exact .inr rfl) (by exact rfl) (by exact rfl) rfl (by exact rfl) [] (by exact zo) (by exact ⟨⟨_, rfl, laX _⟩, ⟨_, rfl, WkBlk.refl _⟩, zo⟩) (by exact rfl) (by exact ⟨la8 rfl ⟨_, _, _, _, rfl, Nat.le_refl _⟩, laY hcl, zo⟩) rfl
        | tag u gg =>
          refine zV lab ?_;refine zn ?_;refine zcF ?_;refine zQ ?_;refine zV lad ?_;refine zV lae ?_;refine zV lac ?_;refine zV laa ?_;refine zf ?_;refine zf ?_;refine zf ?_;refine zV (lam false) ?_;refine zV lab ?_;refine zn ?_;refine zcF ?_;refine zQ ?_;refine zV lad ?_;refine zV lae ?_;refine zV lac ?_;refine zV lab ?_;refine zn ?_;refine zaF ?_;refine zQ ?_;refine zV lad ?_;refine zV lae ?_;refine zV lac ?_;refine zV laa ?_;refine zT laa ?_;refine zT lag ?_;refine zT lak ?_;refine zT lai ?_;refine zT lac ?_;refine zV (lam true) ?_;refine zV lab ?_;refine zn ?_;refine zcT ?_;refine zQ ?_;refine zV laj ?_
          refine zV (lal (lfy t) rfl (by refine ⟨_, _, rfl, (by exact LeU.of_eq rfl zo), (by (exact ⟨zo, zo, zo⟩)), ?_⟩;exact rfl)) ?_
          refine zM lah ?_;refine zE laf ?_;refine zn (zq (zq ?_));refine zRD ?_;refine zV laa ?_;refine zV lag ?_;refine zV lak ?_;refine zV (lao rfl (by exact Cut.cons (by exact rfl) (Cut.cons (by exact rfl) Cut.nil))) ?_;refine zV laj ?_
          refine zV (lal (lfX gg t.ground) rfl (by refine ⟨_, _, rfl, (by exact LeU.of_eq rfl zo), (by (exact ⟨zo, zo, zo⟩)), ?_⟩;refine ⟨_, _, rfl, (by exact LeU.of_eq rfl zo), (by (exact ⟨zo, zo, zo⟩)), ?_⟩;exact rfl)) ?_
          cases h6 : gg.same t.ground with
          | false =>
            have e : castV (.tag u gg) g t at' back = .inr (.blame at' back) := by unfold castV; rw [if_neg h1', if_neg h2', if_neg h3', if_pos h5]; dsimp only; rw [if_neg (by rw [h6]; decide)]
            rw [e]
            refine zV laz ?_;refine znD ?_;refine zcT ?_;refine zQ ?_;refine zV laa ?_;refine zV laa ?_;refine zV laq ?_;refine zE laf ?_;refine zV lab ?_;refine zn (zre ?_)
            refine rq ?_
            exact la4 (o := Out.blame at' back) (b := true) (by exact .inr rfl) (by exact rfl) (by exact rfl) rfl (by exact rfl) [] (by exact zo) (by exact ⟨⟨_, rfl, laX _⟩, ⟨_, rfl, WkBlk.refl _⟩, zo⟩) (by exact rfl) (by exact ⟨la8 rfl ⟨_, _, _, _, rfl, Nat.le_refl _⟩, laY hcl, zo⟩) rfl
          | true =>
            have e : castV u t.ground t at' back = castV (.tag u gg) g t at' back := by
              have h7 : (t.ground.k == 0) = false := by rw [groundK]; exact h3
              rw [show castV (.tag u gg) g t at' back = (if t.ground.same t then .inl u else if t.k == 3 then .inl (.wrap u t.ground t at' back) else .inr .stuck) by unfold castV; rw [if_neg h1', if_neg h2', if_neg h3', if_pos h5]; dsimp only; rw [if_pos h6]]
              unfold castV
              rw [groundK, Bool.and_self, if_neg h3', if_neg h3']
            refine zV laz ?_;refine znD ?_;refine zcF ?_;refine zsk ?_;refine zRD ?_;refine zV laa ?_;refine zV lag ?_;refine zV lak ?_;refine zV lai ?_;refine zV laj ?_;refine zV lab ?_;refine zE laf ?_;refine znD ?_
            exact ⟨u.tags, _, _, by simp [V.tags], (laZ [(0, .one (.ptr 1000 0)), (1, .one (V.p (u))), (4, .one (.int .i64 at')), (5, .one (.bool back)), (8, .one (.ptr 8 0)), (9, .one (.ptr 9 0)), (12, .one (.ptr 12 0)), (13, .one (.bool false))] [(1000, .obj (mCells t0 env0 .nilp vv n F)), (1001, .row 118 16 vv rows), (8, .obj (Ty.c (t.ground))), (9, .obj t.c), (12, .obj Out.zero.c)] [] [] ⟨(zw rfl zo), (by exact WkU.of_eq rfl zo), (zw rfl zo), (zw rfl zo), (zw rfl zo), (zw rfl zo), (zw rfl zo), (zw rfl zo), zo⟩ ⟨(by exact zb rfl), (by exact zb rfl), (by exact zb rfl), (by exact zb rfl), (by exact zb rfl), zo⟩ trivial zo rfl rfl ⟨⟨_, rfl⟩, zo, zo, zo, ⟨_, rfl⟩, ⟨_, rfl⟩, ⟨_, rfl⟩, zo, zo⟩ ⟨(by exact ⟨zo, zo, zo, zo, zo, zo, zo, lb2 _, zo, ⟨_, _, _, _, rfl, Nat.le_refl _⟩, zo, zo⟩), (laY (by assumption)), (by exact ⟨zo, zo, zo⟩), (by exact ⟨zo, zo, zo⟩), (by exact ⟨zo, zo, zo, zo⟩), zo⟩), u, t.ground, e, rfl, rfl, rfl⟩
set_option maxHeartbeats 8000000 in
theorem two_a (k : Int) (a b : V) (r : V ⊕ Out) (hr : twoV k a b = some r) (t0 : Tm) (env0 : List V) (vv n F : Nat) (rows : List (List C)) (hcl : closedRows rows = true) :
    ACalls Tryz.prog 104 [.one (.ptr 1000 0), .one (.int .i64 k), .one a.p, .one b.p] [(1000, .obj (mCells t0 env0 (.nilp) vv n F)), (1001, .row 118 16 vv rows)] (outU r) [(1000, .obj (mCells t0 env0 (outC r) vv n F)), (1001, .row 118 16 vv rows)] := by
  refine zB2 Tryz.func104 ?_
  cases a with
  | num p =>
    cases b with
    | num q =>
      simp only [twoV] at hr
      cases hin : (inB p && inB q) with
      | false => rw [hin] at hr; simp at hr
      | true =>
        rw [hin] at hr
        simp only [if_true, Option.some.injEq] at hr
        simp only [Bool.and_eq_true, ld0] at hin
        cases hk : (k == 5) with
        | true =>
          rw [hk, if_pos rfl] at hr
          cases hl : decide (p < q) with
          | true =>
            rw [if_pos (of_decide_eq_true hl)] at hr
            subst hr
            refine zQ ?_;refine zM lah ?_;refine zV lab ?_;refine zn (zq (zQ ?_));refine zV laa ?_;refine zV lag ?_;refine zV lak ?_;refine zV lai ?_;refine zV lac ?_;refine zV laa ?_;refine zI laa ?_;refine zI lag ?_;refine zI lak ?_;refine zI lai ?_;refine zI lac ?_;refine zV law ?_;refine zn ?_;refine zcF ?_;refine zsk (zq (zQ ?_));refine zV laa ?_;refine zV lac ?_;refine zn ?_;refine zaT ?_;refine zQ ?_;refine zV laa ?_;refine zV laq ?_;refine zM lan ?_;refine zV lag ?_;refine zV lad ?_;refine zE lax ?_;refine zn (zq (zq ?_));refine zRD ?_;refine zV laa ?_;refine zV lag ?_;refine zV lak ?_;refine zV lai ?_;refine zV laa ?_;refine zV lag ?_;refine zV lak ?_;refine zV lai ?_;refine zV lac ?_;refine znD ?_;refine zaT ?_;refine zR ?_;refine zV laa ?_;refine zV lag ?_;refine zV lad ?_;refine zV lae ?_;refine zV lag ?_;refine zV lad ?_;refine zE lax ?_;refine zn (zQ ?_)
            refine zV (lal lbO) ?_
            refine zV las ?_;refine zV lar ?_;refine zE laf ?_;refine zV lab ?_;refine zn (zre ?_)
            refine rq ?_
            exact la4 (o := Out.zero) (b := false) (by exact .inr rfl) (by exact rfl) (by exact rfl) rfl (by exact rfl) [30] (by exact ⟨⟨_, rfl, rfl⟩, zo⟩) (by exact ⟨⟨_, rfl, (by exact lc5 (c := .ptr 30 0) (.obj (List.mem_cons_self ..) rfl truLe))⟩, ⟨_, rfl, WkBlk.refl _⟩, zo⟩) (by exact rfl) (by exact ⟨la8 rfl ⟨_, _, _, _, rfl, Nat.le_refl _⟩, laY hcl, zo⟩) rfl
          | false =>
            rw [if_neg (of_decide_eq_false hl)] at hr
            subst hr
            refine zQ ?_;refine zM lah ?_;refine zV lab ?_;refine zn (zq (zQ ?_));refine zV laa ?_;refine zV lag ?_;refine zV lak ?_;refine zV lai ?_;refine zV lac ?_;refine zV laa ?_;refine zI laa ?_;refine zI lag ?_;refine zI lak ?_;refine zI lai ?_;refine zI lac ?_;refine zV law ?_;refine zn ?_;refine zcF ?_;refine zsk (zq (zQ ?_));refine zV laa ?_;refine zV lac ?_;refine zn ?_;refine zaT ?_;refine zQ ?_;refine zV laa ?_;refine zV laq ?_;refine zM lan ?_;refine zV lag ?_;refine zV lad ?_;refine zE lax ?_;refine zn (zq (zq ?_));refine zRD ?_;refine zV laa ?_;refine zV lag ?_;refine zV lak ?_;refine zV lai ?_;refine zV laa ?_;refine zV lag ?_;refine zV lak ?_;refine zV lai ?_;refine zV lac ?_;refine znD ?_;refine zaF ?_;refine zsk (zQ ?_)
            refine zV (lal lbO) ?_
            refine zV las ?_;refine zV lar ?_;refine zE laf ?_;refine zV lab ?_;refine zn (zre ?_)
            refine rq ?_
            exact la4 (o := Out.zero) (b := false) (by exact .inr rfl) (by exact rfl) (by exact rfl) rfl (by exact rfl) [30] (by exact ⟨⟨_, rfl, rfl⟩, zo⟩) (by exact ⟨⟨_, rfl, (by exact lc5 (c := .ptr 30 0) (.obj (List.mem_cons_self ..) rfl truLe))⟩, ⟨_, rfl, WkBlk.refl _⟩, zo⟩) (by exact rfl) (by exact ⟨la8 rfl ⟨_, _, _, _, rfl, Nat.le_refl _⟩, laY hcl, zo⟩) rfl
        | false =>
          rw [hk, if_neg (by decide)] at hr
          subst hr
          refine zQ ?_;refine zM lah ?_;refine zV lab ?_;refine zn (zq (zQ ?_));refine zV laa ?_;refine zV lag ?_;refine zV lak ?_;refine zV lai ?_;refine zV lac ?_;refine zV laa ?_;refine zI laa ?_;refine zI lag ?_;refine zI lak ?_;refine zI lai ?_;refine zI lac ?_;refine zV law ?_;refine zn ?_;refine zcF ?_;refine zsk (zq (zQ ?_));refine zV laa ?_;refine zV lac ?_;refine zn ?_;refine zaF ?_;refine zsk (zq ?_);refine zRD ?_;refine zV laa ?_;refine zV lag ?_;refine zV lak ?_;refine zV lai ?_;refine zV laa ?_;refine zV lag ?_;refine zV lak ?_;refine zV lai ?_;refine zV laI ?_
          refine zV (loc_min2 rfl rfl) ?_
          refine zV (loc_max2 rfl rfl) ?_
          refine zV lab ?_;refine znD ?_;refine zQ ?_;refine zV laa ?_;refine zV laa ?_;refine zV laq ?_;refine zM lan ?_;refine zV lag ?_;refine zV lad ?_;refine zE lax ?_;refine zn (zQ ?_)
          refine zV (lal lbO) ?_
          refine zV las ?_;refine zV lar ?_;refine zE laf ?_;refine zV lab ?_;refine zn (zre ?_)
          refine rq ?_
          exact la4 (o := Out.zero) (b := false) (by exact .inr rfl) (by exact rfl) (by exact rfl) rfl (by exact rfl) [65] (by exact ⟨⟨_, rfl, rfl⟩, zo⟩) (by exact ⟨⟨_, rfl, (by exact lc5 (c := .ptr 65 0) (.obj (List.mem_cons_self ..) rfl numLe))⟩, ⟨_, rfl, WkBlk.refl _⟩, zo⟩) (by exact rfl) (by exact ⟨la8 rfl ⟨_, _, _, _, rfl, Nat.le_refl _⟩, laY hcl, zo⟩) rfl
    | tru q =>
      simp only [twoV, Option.some.injEq] at hr
      subst hr
      refine zQ ?_;refine zM lah ?_;refine zV lab ?_;refine zn (zq (zQ ?_));refine zV laa ?_;refine zV lag ?_;refine zV lak ?_;refine zV lai ?_;refine zV lac ?_;refine zV laa ?_;refine zI laa ?_;refine zI lag ?_;refine zI lak ?_;refine zI lai ?_;refine zI lac ?_;refine zV law ?_;refine zn ?_;refine zcT ?_;refine zQ ?_
      refine zV (lal lbq) ?_
      refine zV las ?_;refine zV lar ?_;refine zE laf ?_;refine zV lab ?_;refine zn (zre ?_)
      refine rq ?_
      exact la4 (o := Out.stuck) (b := true) (by exact .inr rfl) (by exact rfl) (by exact rfl) rfl (by exact rfl) [] (by exact zo) (by exact ⟨⟨_, rfl, laX _⟩, ⟨_, rfl, WkBlk.refl _⟩, zo⟩) (by exact rfl) (by exact ⟨la8 rfl ⟨_, _, _, _, rfl, Nat.le_refl _⟩, laY hcl, zo⟩) rfl
    | clo q1 q2 =>
      simp only [twoV, Option.some.injEq] at hr
      subst hr
      refine zQ ?_;refine zM lah ?_;refine zV lab ?_;refine zn (zq (zQ ?_));refine zV laa ?_;refine zV lag ?_;refine zV lak ?_;refine zV lai ?_;refine zV lac ?_;refine zV laa ?_;refine zI laa ?_;refine zI lag ?_;refine zI lak ?_;refine zI lai ?_;refine zI lac ?_;refine zV law ?_;refine zn ?_;refine zcT ?_;refine zQ ?_
      refine zV (lal lbq) ?_
      refine zV las ?_;refine zV lar ?_;refine zE laf ?_;refine zV lab ?_;refine zn (zre ?_)
      refine rq ?_
      exact la4 (o := Out.stuck) (b := true) (by exact .inr rfl) (by exact rfl) (by exact rfl) rfl (by exact rfl) [] (by exact zo) (by exact ⟨⟨_, rfl, laX _⟩, ⟨_, rfl, WkBlk.refl _⟩, zo⟩) (by exact rfl) (by exact ⟨la8 rfl ⟨_, _, _, _, rfl, Nat.le_refl _⟩, laY hcl, zo⟩) rfl
    | wrap q1 q2 q3 q4 q5 =>
      simp only [twoV, Option.some.injEq] at hr
      subst hr
      refine zQ ?_;refine zM lah ?_;refine zV lab ?_;refine zn (zq (zQ ?_));refine zV laa ?_;refine zV lag ?_;refine zV lak ?_;refine zV lai ?_;refine zV lac ?_;refine zV laa ?_;refine zI laa ?_;refine zI lag ?_;refine zI lak ?_;refine zI lai ?_;refine zI lac ?_;refine zV law ?_;refine zn ?_;refine zcT ?_;refine zQ ?_
      refine zV (lal lbq) ?_
      refine zV las ?_;refine zV lar ?_;refine zE laf ?_;refine zV lab ?_;refine zn (zre ?_)
      refine rq ?_
      exact la4 (o := Out.stuck) (b := true) (by exact .inr rfl) (by exact rfl) (by exact rfl) rfl (by exact rfl) [] (by exact zo) (by exact ⟨⟨_, rfl, laX _⟩, ⟨_, rfl, WkBlk.refl _⟩, zo⟩) (by exact rfl) (by exact ⟨la8 rfl ⟨_, _, _, _, rfl, Nat.le_refl _⟩, laY hcl, zo⟩) rfl
    | tag q1 q2 =>
      simp only [twoV, Option.some.injEq] at hr
      subst hr
      refine zQ ?_;refine zM lah ?_;refine zV lab ?_;refine zn (zq (zQ ?_));refine zV laa ?_;refine zV lag ?_;refine zV lak ?_;refine zV lai ?_;refine zV lac ?_;refine zV laa ?_;refine zI laa ?_;refine zI lag ?_;refine zI lak ?_;refine zI lai ?_;refine zI lac ?_;refine zV law ?_;refine zn ?_;refine zcT ?_;refine zQ ?_
      refine zV (lal lbq) ?_
      refine zV las ?_;refine zV lar ?_;refine zE laf ?_;refine zV lab ?_;refine zn (zre ?_)
      refine rq ?_
      exact la4 (o := Out.stuck) (b := true) (by exact .inr rfl) (by exact rfl) (by exact rfl) rfl (by exact rfl) [] (by exact zo) (by exact ⟨⟨_, rfl, laX _⟩, ⟨_, rfl, WkBlk.refl _⟩, zo⟩) (by exact rfl) (by exact ⟨la8 rfl ⟨_, _, _, _, rfl, Nat.le_refl _⟩, laY hcl, zo⟩) rfl
  | tru p =>
    simp only [twoV, Option.some.injEq] at hr
    subst hr
    refine zQ ?_;refine zM lah ?_;refine zV lab ?_;refine zn (zq (zQ ?_));refine zV laa ?_;refine zV lag ?_;refine zV lak ?_;refine zV lai ?_;refine zV lac ?_;refine zV laa ?_;refine zs ?_;refine zs ?_;refine zs ?_;refine zs ?_;refine zs ?_;refine zV laA ?_;refine zn ?_;refine zcT ?_;refine zQ ?_
    refine zV (lal lbq) ?_
    refine zV las ?_;refine zV lar ?_;refine zE laf ?_;refine zV lab ?_;refine zn (zre ?_)
    refine rq ?_
    exact la4 (o := Out.stuck) (b := true) (by exact .inr rfl) (by exact rfl) (by exact rfl) rfl (by exact rfl) [] (by exact zo) (by exact ⟨⟨_, rfl, laX _⟩, ⟨_, rfl, WkBlk.refl _⟩, zo⟩) (by exact rfl) (by exact ⟨la8 rfl ⟨_, _, _, _, rfl, Nat.le_refl _⟩, laY hcl, zo⟩) rfl
  | clo p1 p2 =>
    simp only [twoV, Option.some.injEq] at hr
    subst hr
    refine zQ ?_;refine zM lah ?_;refine zV lab ?_;refine zn (zq (zQ ?_));refine zV laa ?_;refine zV lag ?_;refine zV lak ?_;refine zV lai ?_;refine zV lac ?_;refine zV laa ?_;refine zs ?_;refine zs ?_;refine zs ?_;refine zs ?_;refine zs ?_;refine zV laA ?_;refine zn ?_;refine zcT ?_;refine zQ ?_
    refine zV (lal lbq) ?_
    refine zV las ?_;refine zV lar ?_;refine zE laf ?_;refine zV lab ?_;refine zn (zre ?_)
    refine rq ?_
    exact la4 (o := Out.stuck) (b := true) (by exact .inr rfl) (by exact rfl) (by exact rfl) rfl (by exact rfl) [] (by exact zo) (by exact ⟨⟨_, rfl, laX _⟩, ⟨_, rfl, WkBlk.refl _⟩, zo⟩) (by exact rfl) (by exact ⟨la8 rfl ⟨_, _, _, _, rfl, Nat.le_refl _⟩, laY hcl, zo⟩) rfl
  | wrap p1 p2 p3 p4 p5 =>
    simp only [twoV, Option.some.injEq] at hr
    subst hr
    refine zQ ?_;refine zM lah ?_;refine zV lab ?_;refine zn (zq (zQ ?_));refine zV laa ?_;refine zV lag ?_;refine zV lak ?_;refine zV lai ?_;refine zV lac ?_;refine zV laa ?_;refine zs ?_;refine zs ?_;refine zs ?_;refine zs ?_;refine zs ?_;refine zV laA ?_;refine zn ?_;refine zcT ?_;refine zQ ?_
    refine zV (lal lbq) ?_
    refine zV las ?_;refine zV lar ?_;refine zE laf ?_;refine zV lab ?_;refine zn (zre ?_)
    refine rq ?_
    exact la4 (o := Out.stuck) (b := true) (by exact .inr rfl) (by exact rfl) (by exact rfl) rfl (by exact rfl) [] (by exact zo) (by exact ⟨⟨_, rfl, laX _⟩, ⟨_, rfl, WkBlk.refl _⟩, zo⟩) (by exact rfl) (by exact ⟨la8 rfl ⟨_, _, _, _, rfl, Nat.le_refl _⟩, laY hcl, zo⟩) rfl
  | tag p1 p2 =>
    simp only [twoV, Option.some.injEq] at hr
    subst hr
    refine zQ ?_;refine zM lah ?_;refine zV lab ?_;refine zn (zq (zQ ?_));refine zV laa ?_;refine zV lag ?_;refine zV lak ?_;refine zV lai ?_;refine zV lac ?_;refine zV laa ?_;refine zs ?_;refine zs ?_;refine zs ?_;refine zs ?_;refine zs ?_;refine zV laA ?_;refine zn ?_;refine zcT ?_;refine zQ ?_
    refine zV (lal lbq) ?_
    refine zV las ?_;refine zV lar ?_;refine zE laf ?_;refine zV lab ?_;refine zn (zre ?_)
    refine rq ?_
    exact la4 (o := Out.stuck) (b := true) (by exact .inr rfl) (by exact rfl) (by exact rfl) rfl (by exact rfl) [] (by exact zo) (by exact ⟨⟨_, rfl, laX _⟩, ⟨_, rfl, WkBlk.refl _⟩, zo⟩) (by exact rfl) (by exact ⟨la8 rfl ⟨_, _, _, _, rfl, Nat.le_refl _⟩, laY hcl, zo⟩) rfl
def MOk (m : Mch) (cells : List C) (vv n : Nat) : Prop :=
  match m.ctl with
  | .ent t env => cells = mCells t env .nilp vv n m.fuel
  | .val v => ∃ t env, cells = mCells t env v.p vv n m.fuel
def Does (f : FuncId) (us : List U) (O : List (Nat × Blk)) (vv0 : Nat) : Mch ⊕ Out → Prop
  | .inl m => ∃ cells vv n rows, vv0 ≤ vv ∧ MOk m cells vv n ∧ StkOk m.stk n rows ∧ ACalls Tryz.prog f us O (.tup [Out.zero.u, .one (.bool false)]) [(1000, .obj cells), (1001, .row 118 16 vv rows)]
  | .inr o => ∃ t env vv n F rows, vv0 ≤ vv ∧ closedRows rows = true ∧ ACalls Tryz.prog f us O (.tup [o.u, .one (.bool true)]) [(1000, .obj (mCells t env .nilp vv n F)), (1001, .row 118 16 vv rows)]
theorem cloClosed {b : Tm} {env : List V} : closedRow [.int .i64 3, .int .i64 0, .int .i64 b.k, .int .i64 b.n, .int .i64 b.t.k, slOf 2 (tyRows b.t.l), .int .i64 b.f.k, slOf 2 (tyRows b.f.l), slOf 7 (tmRows b.l), envC env, .nilp, .int .i64 0, .nilsl, .int .i64 0, .nilsl, .int .i64 0, .bool false] = true := by
  simp only [closedRow, lcQ]; rfl
set_option maxHeartbeats 20000000 in
theorem enter_a (t : Tm) (env : List V) (s : List Fr) (F vv n : Nat) (rows : List (List C)) (hs : StkOk s n rows) (hL : s.length ≤ 100000000000) (hn : t.n ≤ 9223372036854775807) (r : Mch ⊕ Out) (hr : enterM t env s F = some r) :
    Does 64 [.one (.ptr 1000 0)] [(1000, .obj (mCells t env (.nilp) vv n F)), (1001, .row 118 16 vv rows)] vv r := by
  have hcl := hs.cl
  unfold enterM at hr
  cases h1 : (t.k == 1) with
  | true =>
    rw [h1, if_pos rfl] at hr
    obtain ⟨N, hN2⟩ : ∃ N : Nat, t.n.toNat = N := ⟨_, rfl⟩
    rw [hN2] at hr
    have hNmax : N ≤ 9223372036854775807 := by omega
    cases hv : env[N]? with
    | some v =>
      rw [hv] at hr
      cases hr
      refine ⟨_, vv, n, rows, Nat.le_refl _, ⟨t, env, rfl⟩, hs, ?_⟩
      refine zB2 Tryz.func64 ?_
      refine zQ ?_;refine zM lah ?_;refine zV lab ?_;refine zn (zQ ?_);refine zV laa ?_;refine zV lag ?_;refine zV lad ?_;refine zV (laj rfl rfl (by exact Cut.cons (by exact rfl) (Cut.cons (by exact rfl) (Cut.cons (by exact rfl) (Cut.cons (by exact rfl) (Cut.cons (by exact rfl) (Cut.cons (by exact rfl) (Cut.cons (by exact rfl) Cut.nil)))))))) ?_;refine zM lah ?_;refine zE laf ?_;refine zn (zq (zQ ?_));refine zV lad ?_;refine zV lae ?_;refine zn (zbl (zQ ?_));refine zV lac ?_;refine zV lab ?_;refine zn ?_;refine zaT ?_;refine zQ ?_;refine zV laa ?_;refine zV lag ?_;refine zV lad ?_;refine zV lae ?_;refine zV lab ?_;refine zn (zq (zQ ?_));refine zV lab ?_;refine zn (zbl ?_)
      refine AW.gh (laZ [(0, .one (.ptr 1000 0)), (2, .one (.ptr 2 0)), (3, .one (.bool false)), (4, .one (.ptr 4 0)), (5, .one (envC (env))), (6, .one (.int .i64 ((0 : Nat) : Int)))] [(1000, .obj (mCells t env .nilp vv n F)), (1001, .row 118 16 vv rows), (2, .obj Out.zero.c), (4, .obj t.c)] [] [] ⟨(zw rfl zo), (zw rfl zo), (zw rfl zo), (zw rfl zo), (by exact WkU.of_eq rfl zo), (zw rfl zo), zo⟩ ⟨(by exact zb rfl), (by exact zb rfl), (by exact zb rfl), (by exact zb rfl), zo⟩ trivial zo rfl rfl ⟨⟨_, rfl⟩, ⟨_, rfl⟩, zo, ⟨_, rfl⟩, (lb2 _), zo, zo⟩ ⟨(by exact ⟨zo, zo, zo, zo, zo, zo, zo, lb2 _, zo, ⟨_, _, _, _, rfl, Nat.le_refl _⟩, zo, zo⟩), (laY (by assumption)), (by exact ⟨zo, zo, zo, zo⟩), (by exact ⟨zo, zo, zo, zo, zo, zo, zo, zo⟩), zo⟩) ?_
      refine AW.loop (fun m t' h => ∃ (i : Nat) (e : List V), e = env.drop i ∧ i ≤ N ∧ m = N - i ∧ t' = tOfL [(0, .one (.ptr 1000 0)), (2, .one (.ptr 2 0)), (3, .one (.bool false)), (4, .one (.ptr 4 0)), (5, .one (envC (e))), (6, .one (.int .i64 ((i : Nat) : Int)))] ∧ h = ofL [(1000, .obj (mCells t env .nilp vv n F)), (1001, .row 118 16 vv rows), (2, .obj Out.zero.c), (4, .obj t.c)]) N ⟨0, env, (by simp), Nat.zero_le _, rfl, rfl, rfl⟩ ?_
      rintro m t' h ⟨i, e, he, hi, rfl, rfl, rfl⟩
      cases hlt : decide ((i : Int) < t.n) with
      | true =>
        have hiN : i < N := by have := of_decide_eq_true hlt; omega
        cases e with
        | nil =>
          exfalso
          have h3 := (List.getElem?_eq_some_iff.1 hv).1
          have h4 := congrArg List.length he
          simp at h4; omega
        | cons u e =>
          have he' : e = env.drop (i + 1) := by
            have h3 := congrArg (List.drop 1) he
            simpa [List.drop_drop, Nat.add_comm] using h3
          refine zq (zQ ?_);refine zV laa ?_;refine zV lad ?_;refine zV lae ?_;refine zV lac ?_;refine zV laa ?_;refine zT laa ?_;refine zT (loc_neNilT rfl rfl rfl) ?_;refine zV (lam true) ?_;refine zn ?_;refine zcT ?_;refine zsk (zq (zbl (zR ?_)));refine zV laa ?_;refine zV lag ?_;refine zV lak ?_;refine zV lai ?_;refine zV lab ?_;refine zn (zR ?_);refine zV laa ?_;refine zV laD ?_;refine zV lab ?_;refine zn ?_
          exact ⟨N - (i + 1), _, _, by omega, (laZ [(0, .one (.ptr 1000 0)), (2, .one (.ptr 2 0)), (3, .one (.bool false)), (4, .one (.ptr 4 0)), (5, .one (envC (e))), (6, .one (.int .i64 (((i + 1) : Nat) : Int)))] [(1000, .obj (mCells t env .nilp vv n F)), (1001, .row 118 16 vv rows), (2, .obj Out.zero.c), (4, .obj t.c)] [] [] ⟨(zw rfl zo), (zw rfl zo), (zw rfl zo), (zw rfl zo), (by exact WkU.of_eq rfl zo), (zw rfl zo), zo⟩ ⟨(by exact zb rfl), (by exact zb rfl), (by exact zb rfl), (by exact zb rfl), zo⟩ trivial zo rfl rfl ⟨⟨_, rfl⟩, ⟨_, rfl⟩, zo, ⟨_, rfl⟩, (lb2 _), zo, zo⟩ ⟨(by exact ⟨zo, zo, zo, zo, zo, zo, zo, lb2 _, zo, ⟨_, _, _, _, rfl, Nat.le_refl _⟩, zo, zo⟩), (laY (by assumption)), (by exact ⟨zo, zo, zo, zo⟩), (by exact ⟨zo, zo, zo, zo, zo, zo, zo, zo⟩), zo⟩), i + 1, e, he', by omega, rfl, rfl, rfl⟩
      | false =>
        have hiN : i = N := by have := of_decide_eq_false hlt; omega
        subst hiN
        cases e with
        | nil =>
          exfalso
          have h3 := (List.getElem?_eq_some_iff.1 hv).1
          have h4 := congrArg List.length he
          simp at h4; omega
        | cons u e =>
          have hu : u = v := by
            have h3 := congrArg (fun l => l[0]?) he
            simp only [List.getElem?_drop, Nat.add_zero, hv, List.getElem?_cons_zero, Option.some.injEq] at h3
            exact h3
          subst hu
          refine zq (zQ ?_);refine zV laa ?_;refine zV lad ?_;refine zV lae ?_;refine zV lac ?_;refine zV laa ?_;refine zf ?_;refine zf ?_;refine zV (lam false) ?_;refine zn ?_;refine zcF ?_;refine zex (zq (zQ ?_));refine zV laa ?_;refine zV (laW rfl rfl rfl) ?_;refine zn ?_;refine zcF ?_;refine zsk (zR ?_);refine zV laa ?_;refine zV laa ?_;refine zV lag ?_;refine zV lak ?_;refine zV lai ?_;refine zV lag ?_;refine zV lad ?_;refine zE lax ?_;refine zn (zQ ?_)
          refine zV (lal lbO) ?_
          refine zV las ?_;refine zV lar ?_;refine zE laf ?_;refine zV lab ?_;refine zn (zre ?_)
          refine rq ?_
          exact la4 (o := Out.zero) (b := false) (by exact .inr rfl) (by exact rfl) (by exact rfl) rfl (by exact rfl) [] (by exact zo) (by exact ⟨⟨_, rfl, laX _⟩, ⟨_, rfl, WkBlk.refl _⟩, zo⟩) (by exact rfl) (by exact ⟨la8 rfl ⟨_, _, _, _, rfl, Nat.le_refl _⟩, laY hcl, zo⟩) rfl
    | none =>
      rw [hv] at hr
      cases hr
      refine ⟨t, env, vv, n, F, rows, Nat.le_refl _, hcl, ?_⟩
      refine zB2 Tryz.func64 ?_
      refine zQ ?_;refine zM lah ?_;refine zV lab ?_;refine zn (zQ ?_);refine zV laa ?_;refine zV lag ?_;refine zV lad ?_;refine zV (laj rfl rfl (by exact Cut.cons (by exact rfl) (Cut.cons (by exact rfl) (Cut.cons (by exact rfl) (Cut.cons (by exact rfl) (Cut.cons (by exact rfl) (Cut.cons (by exact rfl) (Cut.cons (by exact rfl) Cut.nil)))))))) ?_;refine zM lah ?_;refine zE laf ?_;refine zn (zq (zQ ?_));refine zV lad ?_;refine zV lae ?_;refine zn (zbl (zQ ?_));refine zV lac ?_;refine zV lab ?_;refine zn ?_;refine zaT ?_;refine zQ ?_;refine zV laa ?_;refine zV lag ?_;refine zV lad ?_;refine zV lae ?_;refine zV lab ?_;refine zn (zq (zQ ?_));refine zV lab ?_;refine zn (zbl ?_)
      refine AW.gh (laZ [(0, .one (.ptr 1000 0)), (2, .one (.ptr 2 0)), (3, .one (.bool false)), (4, .one (.ptr 4 0)), (5, .one (envC (env))), (6, .one (.int .i64 ((0 : Nat) : Int)))] [(1000, .obj (mCells t env .nilp vv n F)), (1001, .row 118 16 vv rows), (2, .obj Out.zero.c), (4, .obj t.c)] [] [] ⟨(zw rfl zo), (zw rfl zo), (zw rfl zo), (zw rfl zo), (by exact WkU.of_eq rfl zo), (zw rfl zo), zo⟩ ⟨(by exact zb rfl), (by exact zb rfl), (by exact zb rfl), (by exact zb rfl), zo⟩ trivial zo rfl rfl ⟨⟨_, rfl⟩, ⟨_, rfl⟩, zo, ⟨_, rfl⟩, (lb2 _), zo, zo⟩ ⟨(by exact ⟨zo, zo, zo, zo, zo, zo, zo, lb2 _, zo, ⟨_, _, _, _, rfl, Nat.le_refl _⟩, zo, zo⟩), (laY (by assumption)), (by exact ⟨zo, zo, zo, zo⟩), (by exact ⟨zo, zo, zo, zo, zo, zo, zo, zo⟩), zo⟩) ?_
      refine AW.loop (fun m t' h => ∃ (i : Nat) (e : List V), e = env.drop i ∧ i ≤ N ∧ m = N - i ∧ t' = tOfL [(0, .one (.ptr 1000 0)), (2, .one (.ptr 2 0)), (3, .one (.bool false)), (4, .one (.ptr 4 0)), (5, .one (envC (e))), (6, .one (.int .i64 ((i : Nat) : Int)))] ∧ h = ofL [(1000, .obj (mCells t env .nilp vv n F)), (1001, .row 118 16 vv rows), (2, .obj Out.zero.c), (4, .obj t.c)]) N ⟨0, env, (by simp), Nat.zero_le _, rfl, rfl, rfl⟩ ?_
      rintro m t' h ⟨i, e, he, hi, rfl, rfl, rfl⟩
      cases hlt : decide ((i : Int) < t.n) with
      | true =>
        have hiN : i < N := by have := of_decide_eq_true hlt; omega
        cases e with
        | nil =>
          refine zq (zQ ?_);refine zV laa ?_;refine zV lad ?_;refine zV lae ?_;refine zV lac ?_;refine zV laa ?_;refine zT laa ?_;refine zT (loc_neNilF rfl rfl) ?_;refine zV (lam true) ?_;refine zn ?_;refine zcF ?_;refine zex (zq (zQ ?_));refine zV laa ?_;refine zV (laV rfl rfl) ?_;refine zn ?_;refine zcT ?_;refine zQ ?_
          refine zV (lal lbq) ?_
          refine zV las ?_;refine zV lar ?_;refine zE laf ?_;refine zV lab ?_;refine zn (zre ?_)
          refine rq ?_
          exact la4 (o := Out.stuck) (b := true) (by exact .inr rfl) (by exact rfl) (by exact rfl) rfl (by exact rfl) [] (by exact zo) (by exact ⟨⟨_, rfl, laX _⟩, ⟨_, rfl, WkBlk.refl _⟩, zo⟩) (by exact rfl) (by exact ⟨la8 rfl ⟨_, _, _, _, rfl, Nat.le_refl _⟩, laY hcl, zo⟩) rfl
        | cons u e =>
          have he' : e = env.drop (i + 1) := by
            have h3 := congrArg (List.drop 1) he
            simpa [List.drop_drop, Nat.add_comm] using h3
          refine zq (zQ ?_);refine zV laa ?_;refine zV lad ?_;refine zV lae ?_;refine zV lac ?_;refine zV laa ?_;refine zT laa ?_;refine zT (loc_neNilT rfl rfl rfl) ?_;refine zV (lam true) ?_;refine zn ?_;refine zcT ?_;refine zsk (zq (zbl (zR ?_)));refine zV laa ?_;refine zV lag ?_;refine zV lak ?_;refine zV lai ?_;refine zV lab ?_;refine zn (zR ?_);refine zV laa ?_;refine zV laD ?_;refine zV lab ?_;refine zn ?_
          exact ⟨N - (i + 1), _, _, by omega, (laZ [(0, .one (.ptr 1000 0)), (2, .one (.ptr 2 0)), (3, .one (.bool false)), (4, .one (.ptr 4 0)), (5, .one (envC (e))), (6, .one (.int .i64 (((i + 1) : Nat) : Int)))] [(1000, .obj (mCells t env .nilp vv n F)), (1001, .row 118 16 vv rows), (2, .obj Out.zero.c), (4, .obj t.c)] [] [] ⟨(zw rfl zo), (zw rfl zo), (zw rfl zo), (zw rfl zo), (by exact WkU.of_eq rfl zo), (zw rfl zo), zo⟩ ⟨(by exact zb rfl), (by exact zb rfl), (by exact zb rfl), (by exact zb rfl), zo⟩ trivial zo rfl rfl ⟨⟨_, rfl⟩, ⟨_, rfl⟩, zo, ⟨_, rfl⟩, (lb2 _), zo, zo⟩ ⟨(by exact ⟨zo, zo, zo, zo, zo, zo, zo, lb2 _, zo, ⟨_, _, _, _, rfl, Nat.le_refl _⟩, zo, zo⟩), (laY (by assumption)), (by exact ⟨zo, zo, zo, zo⟩), (by exact ⟨zo, zo, zo, zo, zo, zo, zo, zo⟩), zo⟩), i + 1, e, he', by omega, rfl, rfl, rfl⟩
      | false =>
        have hiN : i = N := by have := of_decide_eq_false hlt; omega
        subst hiN
        cases e with
        | nil =>
          refine zq (zQ ?_);refine zV laa ?_;refine zV lad ?_;refine zV lae ?_;refine zV lac ?_;refine zV laa ?_;refine zf ?_;refine zf ?_;refine zV (lam false) ?_;refine zn ?_;refine zcF ?_;refine zex (zq (zQ ?_));refine zV laa ?_;refine zV (laV rfl rfl) ?_;refine zn ?_;refine zcT ?_;refine zQ ?_
          refine zV (lal lbq) ?_
          refine zV las ?_;refine zV lar ?_;refine zE laf ?_;refine zV lab ?_;refine zn (zre ?_)
          refine rq ?_
          exact la4 (o := Out.stuck) (b := true) (by exact .inr rfl) (by exact rfl) (by exact rfl) rfl (by exact rfl) [] (by exact zo) (by exact ⟨⟨_, rfl, laX _⟩, ⟨_, rfl, WkBlk.refl _⟩, zo⟩) (by exact rfl) (by exact ⟨la8 rfl ⟨_, _, _, _, rfl, Nat.le_refl _⟩, laY hcl, zo⟩) rfl
        | cons u e =>
          exfalso
          have h3 := List.getElem?_eq_none_iff.1 hv
          have h4 := congrArg List.length he
          simp at h4; omega
  | false =>
  rw [h1, if_neg (by decide)] at hr
  cases h2 : (t.k == 2) with
  | true =>
    rw [h2, if_pos rfl] at hr
    cases hr
    refine ⟨_, vv, n, rows, Nat.le_refl _, ⟨t, env, rfl⟩, hs, ?_⟩
    refine zB2 Tryz.func64 ?_
    refine zQ ?_;refine zM lah ?_;refine zV lab ?_;refine zn (zQ ?_);refine zV laa ?_;refine zV lag ?_;refine zV lad ?_;refine zV (laj rfl rfl (by exact Cut.cons (by exact rfl) (Cut.cons (by exact rfl) (Cut.cons (by exact rfl) (Cut.cons (by exact rfl) (Cut.cons (by exact rfl) (Cut.cons (by exact rfl) (Cut.cons (by exact rfl) Cut.nil)))))))) ?_;refine zM lah ?_;refine zE laf ?_;refine zn (zq (zQ ?_));refine zV lad ?_;refine zV lae ?_;refine zn (zbl (zQ ?_));refine zV lac ?_;refine zV lab ?_;refine zn ?_;refine zaF ?_;refine zQ ?_;refine zV lac ?_;refine zV lab ?_;refine zn ?_;refine zaT ?_;refine zR ?_;refine zV laa ?_;refine zV lad ?_;refine zV lae ?_;refine zV laq ?_;refine zM lan ?_;refine zV lag ?_;refine zV lad ?_;refine zE lax ?_;refine zn (zQ ?_)
    refine zV (lal lbO) ?_
    refine zV las ?_;refine zV lar ?_;refine zE laf ?_;refine zV lab ?_;refine zn (zre ?_)
    refine rq ?_
    exact la4 (o := Out.zero) (b := false) (by exact .inr rfl) (by exact rfl) (by exact rfl) rfl (by exact rfl) [68] (by exact ⟨⟨_, rfl, rfl⟩, zo⟩) (by exact ⟨⟨_, rfl, (by exact lc5 (c := .ptr 68 0) (.obj (List.mem_cons_self ..) rfl numLe))⟩, ⟨_, rfl, WkBlk.refl _⟩, zo⟩) (by exact rfl) (by exact ⟨la8 rfl ⟨_, _, _, _, rfl, Nat.le_refl _⟩, laY hcl, zo⟩) rfl
  | false =>
  rw [h2, if_neg (by decide)] at hr
  cases h3 : (t.k == 3) with
  | true =>
    rw [h3, if_pos rfl] at hr
    cases hr
    refine ⟨_, vv, n, rows, Nat.le_refl _, ⟨t, env, rfl⟩, hs, ?_⟩
    refine zB2 Tryz.func64 ?_
    refine zQ ?_;refine zM lah ?_;refine zV lab ?_;refine zn (zQ ?_);refine zV laa ?_;refine zV lag ?_;refine zV lad ?_;refine zV (laj rfl rfl (by exact Cut.cons (by exact rfl) (Cut.cons (by exact rfl) (Cut.cons (by exact rfl) (Cut.cons (by exact rfl) (Cut.cons (by exact rfl) (Cut.cons (by exact rfl) (Cut.cons (by exact rfl) Cut.nil)))))))) ?_;refine zM lah ?_;refine zE laf ?_;refine zn (zq (zQ ?_));refine zV lad ?_;refine zV lae ?_;refine zn (zbl (zQ ?_));refine zV lac ?_;refine zV lab ?_;refine zn ?_;refine zaF ?_;refine zQ ?_;refine zV lac ?_;refine zV lab ?_;refine zn ?_;refine zaF ?_;refine zQ ?_;refine zV lac ?_;refine zV lab ?_;refine zn ?_;refine zaT ?_;refine zR ?_;refine zV laa ?_;refine zV lad ?_;refine zV lae ?_;refine zV laq ?_;refine zM lan ?_;refine zV lag ?_;refine zV lad ?_;refine zE lax ?_;refine zn (zQ ?_)
    refine zV (lal lbO) ?_
    refine zV las ?_;refine zV lar ?_;refine zE laf ?_;refine zV lab ?_;refine zn (zre ?_)
    refine rq ?_
    exact la4 (o := Out.zero) (b := false) (by exact .inr rfl) (by exact rfl) (by exact rfl) rfl (by exact rfl) [77] (by exact ⟨⟨_, rfl, rfl⟩, zo⟩) (by exact ⟨⟨_, rfl, (by exact lc5 (c := .ptr 77 0) (.obj (List.mem_cons_self ..) rfl truLe))⟩, ⟨_, rfl, WkBlk.refl _⟩, zo⟩) (by exact rfl) (by exact ⟨la8 rfl ⟨_, _, _, _, rfl, Nat.le_refl _⟩, laY hcl, zo⟩) rfl
  | false =>
  rw [h3, if_neg (by decide)] at hr
  cases hl : t.l with
  | nil => rw [hl] at hr; cases hr
  | cons b l =>
  rw [hl] at hr
  have hr0 : (tmRows t.l)[0]? = some b.c := by rw [hl]; simp [tmRows, Tm.cells_c]
  simp only at hr
  cases h7 : (t.k == 7) with
  | true =>
    rw [h7, if_pos rfl] at hr
    cases hr
    refine ⟨_, vv, n, rows, Nat.le_refl _, ⟨t, env, rfl⟩, hs, ?_⟩
    refine zB2 Tryz.func64 ?_
    refine zQ ?_;refine zM lah ?_;refine zV lab ?_;refine zn (zQ ?_);refine zV laa ?_;refine zV lag ?_;refine zV lad ?_;refine zV (laj rfl rfl (by exact Cut.cons (by exact rfl) (Cut.cons (by exact rfl) (Cut.cons (by exact rfl) (Cut.cons (by exact rfl) (Cut.cons (by exact rfl) (Cut.cons (by exact rfl) (Cut.cons (by exact rfl) Cut.nil)))))))) ?_;refine zM lah ?_;refine zE laf ?_;refine zn (zq (zQ ?_));refine zV lad ?_;refine zV lae ?_;refine zn (zbl (zQ ?_));refine zV lac ?_;refine zV lab ?_;refine zn ?_;refine zaF ?_;refine zQ ?_;refine zV lac ?_;refine zV lab ?_;refine zn ?_;refine zaF ?_;refine zQ ?_;refine zV lac ?_;refine zV lab ?_;refine zn ?_;refine zaF ?_;refine zQ ?_;refine zV lac ?_;refine zV lab ?_;refine zn ?_;refine zaT ?_;refine zRD ?_;refine zV laa ?_;refine zV lad ?_;refine zV lae ?_;refine zV (lap _) ?_;refine zV lao ?_;refine zV laa ?_;refine zV lag ?_;refine zV lad ?_;refine zV lae ?_;refine zV laq ?_;refine zM lan ?_;refine zV lag ?_;refine zV lad ?_;refine zE lax ?_;refine znD ?_;refine zQ ?_
    refine zV (lal lbO) ?_
    refine zV las ?_;refine zV lar ?_;refine zE laf ?_;refine zV lab ?_;refine zn (zre ?_)
    refine rq ?_
    exact la4 (o := Out.zero) (b := false) (by exact .inr rfl) (by exact rfl) (by exact rfl) rfl (by exact rfl) [92] (by exact ⟨⟨_, rfl, cloClosed⟩, zo⟩) (by exact ⟨⟨_, rfl, (by exact lc5 (c := .ptr 92 0) (.obj (List.mem_cons_self ..) rfl cloLe))⟩, ⟨_, rfl, WkBlk.refl _⟩, zo⟩) (by exact rfl) (by exact ⟨la8 rfl ⟨_, _, _, _, rfl, Nat.le_refl _⟩, laY hcl, zo⟩) rfl
  | false =>
  rw [h7, if_neg (by decide)] at hr
  cases h10 : (t.k == 10) with
  | true =>
    rw [h10, if_pos rfl] at hr
    cases hr
    have hpcl := (hs.push (.casts t.f t.t t.n false)).cl
    refine ⟨_, vv + 1, n + 1, _, Nat.le_succ _, (by exact rfl), hs.push _, ?_⟩
    refine lbe Tryz.func64 rfl (by kernel_rfl) (Nat.le_of_ble_eq_true rfl) (by exact ⟨⟨rfl, zo⟩, ⟨rfl, Nat.le_succ _⟩, zo⟩) (by simp [namesL]) ?_
    refine zQ ?_;refine zM lah ?_;refine zV lab ?_;refine zn (zQ ?_);refine zV laa ?_;refine zV lag ?_;refine zV lad ?_;refine zV (laj rfl rfl (by exact Cut.cons (by exact rfl) (Cut.cons (by exact rfl) (Cut.cons (by exact rfl) (Cut.cons (by exact rfl) (Cut.cons (by exact rfl) (Cut.cons (by exact rfl) (Cut.cons (by exact rfl) Cut.nil)))))))) ?_;refine zM lah ?_;refine zE laf ?_;refine zn (zq (zQ ?_));refine zV lad ?_;refine zV lae ?_;refine zn (zbl (zQ ?_));refine zV lac ?_;refine zV lab ?_;refine zn ?_;refine zaF ?_;refine zQ ?_;refine zV lac ?_;refine zV lab ?_;refine zn ?_;refine zaF ?_;refine zQ ?_;refine zV lac ?_;refine zV lab ?_;refine zn ?_;refine zaF ?_;refine zQ ?_;refine zV lac ?_;refine zV lab ?_;refine zn ?_;refine zaF ?_;refine zQ ?_;refine zV lac ?_;refine zV lab ?_;refine zn ?_;refine zaT ?_;refine zQ ?_;refine zV laa ?_;refine zV lad ?_;refine zV (laj rfl rfl (by exact Cut.cons (by exact rfl) (Cut.cons (by exact rfl) Cut.nil))) ?_;refine zV lad ?_;refine zV (laj rfl rfl (by exact Cut.cons (by exact rfl) (Cut.cons (by exact rfl) Cut.nil))) ?_;refine zV lad ?_;refine zV lae ?_;refine zV laq ?_
    refine zY (lat (ldS (.casts t.f t.t t.n false) t env .nilp rfl vv n F rows hs.le hcl (by have := hs.len; omega)) rfl (by refine ⟨_, _, rfl, (by exact LeU.of_eq rfl zo), (by exact Exists.intro _ rfl), ?_⟩;refine ⟨_, _, rfl, (by (refine LeU.agg' rfl ?_;exact ⟨LeC.refl _, LeC.refl _, LeC.refl _, LeC.refl _, LeC.nil _, LeC.refl _, LeC.nil _, LeC.nil _, LeC.refl _, LeC.refl _, LeC.refl _, LeC.refl _, LeC.refl _, LeC.refl _, LeC.refl _, LeC.refl _, zo⟩)), (by exact ⟨zo, zo, zo, zo, zo, zo, zo, zo, zo, zo, zo, zo, zo, zo, zo, zo, zo⟩), ?_⟩;exact rfl) (by exact ⟨rfl, rfl, zo⟩) (by exact rfl) (by simp [namesL]) (by exact ⟨la8 rfl ⟨_, _, _, _, rfl, Nat.le_refl _⟩, laY hcl, zo⟩)) ?_
    refine zn (zR ?_);refine zV laa ?_;refine zV lad ?_;refine zV lae ?_;refine zV (lap _) ?_;refine zV lao ?_;refine zV lag ?_;refine zV lad ?_;refine zE lax ?_;refine zn (zQ ?_)
    refine zV (lal lbO) ?_
    refine zV las ?_;refine zV lar ?_;refine zE laf ?_;refine zV lab ?_;refine zn (zre ?_)
    refine rq ?_
    exact la4 (o := Out.zero) (b := false) (by exact .inr rfl) (by exact rfl) (by exact rfl) rfl (by exact rfl) [] (by exact zo) (by exact ⟨⟨_, rfl, laX _⟩, ⟨_, rfl, WkBlk.refl _⟩, zo⟩) (by exact rfl) (by exact ⟨la8 rfl ⟨_, _, _, _, rfl, Nat.le_refl _⟩, laY hpcl, zo⟩) rfl
  | false =>
  rw [h10, if_neg (by decide)] at hr
  cases h9 : (t.k == 9) with
  | true =>
    rw [h9, if_pos rfl] at hr
    cases hr
    refine ⟨_, vv, n, rows, Nat.le_refl _, (by exact rfl), hs, ?_⟩
    refine zB2 Tryz.func64 ?_
    refine zQ ?_;refine zM lah ?_;refine zV lab ?_;refine zn (zQ ?_);refine zV laa ?_;refine zV lag ?_;refine zV lad ?_;refine zV (laj rfl rfl (by exact Cut.cons (by exact rfl) (Cut.cons (by exact rfl) (Cut.cons (by exact rfl) (Cut.cons (by exact rfl) (Cut.cons (by exact rfl) (Cut.cons (by exact rfl) (Cut.cons (by exact rfl) Cut.nil)))))))) ?_;refine zM lah ?_;refine zE laf ?_;refine zn (zq (zQ ?_));refine zV lad ?_;refine zV lae ?_;refine zn (zbl (zQ ?_));refine zV lac ?_;refine zV lab ?_;refine zn ?_;refine zaF ?_;refine zQ ?_;refine zV lac ?_;refine zV lab ?_;refine zn ?_;refine zaF ?_;refine zQ ?_;refine zV lac ?_;refine zV lab ?_;refine zn ?_;refine zaF ?_;refine zQ ?_;refine zV lac ?_;refine zV lab ?_;refine zn ?_;refine zaF ?_;refine zQ ?_;refine zV lac ?_;refine zV lab ?_;refine zn ?_;refine zaF ?_;refine zQ ?_;refine zV lac ?_;refine zV lab ?_;refine zn ?_;refine zaT ?_;refine zR ?_;refine zV laa ?_;refine zV lad ?_;refine zV lae ?_;refine zV (lap _) ?_;refine zV lao ?_;refine zV lag ?_;refine zV lad ?_;refine zE lax ?_;refine zn (zQ ?_)
    refine zV (lal lbO) ?_
    refine zV las ?_;refine zV lar ?_;refine zE laf ?_;refine zV lab ?_;refine zn (zre ?_)
    refine rq ?_
    exact la4 (o := Out.zero) (b := false) (by exact .inr rfl) (by exact rfl) (by exact rfl) rfl (by exact rfl) [] (by exact zo) (by exact ⟨⟨_, rfl, laX _⟩, ⟨_, rfl, WkBlk.refl _⟩, zo⟩) (by exact rfl) (by exact ⟨la8 rfl ⟨_, _, _, _, rfl, Nat.le_refl _⟩, laY hcl, zo⟩) rfl
  | false =>
    rw [h9, if_neg (by decide)] at hr
    cases hr
    have hpcl := (hs.push (.term t env)).cl
    refine ⟨_, vv + 1, n + 1, _, Nat.le_succ _, (by exact rfl), hs.push _, ?_⟩
    refine lbe Tryz.func64 rfl (by kernel_rfl) (Nat.le_of_ble_eq_true rfl) (by exact ⟨⟨rfl, zo⟩, ⟨rfl, Nat.le_succ _⟩, zo⟩) (by simp [namesL]) ?_
    refine zQ ?_;refine zM lah ?_;refine zV lab ?_;refine zn (zQ ?_);refine zV laa ?_;refine zV lag ?_;refine zV lad ?_;refine zV (laj rfl rfl (by exact Cut.cons (by exact rfl) (Cut.cons (by exact rfl) (Cut.cons (by exact rfl) (Cut.cons (by exact rfl) (Cut.cons (by exact rfl) (Cut.cons (by exact rfl) (Cut.cons (by exact rfl) Cut.nil)))))))) ?_;refine zM lah ?_;refine zE laf ?_;refine zn (zq (zQ ?_));refine zV lad ?_;refine zV lae ?_;refine zn (zbl (zQ ?_));refine zV lac ?_;refine zV lab ?_;refine zn ?_;refine zaF ?_;refine zQ ?_;refine zV lac ?_;refine zV lab ?_;refine zn ?_;refine zaF ?_;refine zQ ?_;refine zV lac ?_;refine zV lab ?_;refine zn ?_;refine zaF ?_;refine zQ ?_;refine zV lac ?_;refine zV lab ?_;refine zn ?_;refine zaF ?_;refine zQ ?_;refine zV lac ?_;refine zV lab ?_;refine zn ?_;refine zaF ?_;refine zQ ?_;refine zV lac ?_;refine zV lab ?_;refine zn ?_;refine zaF ?_;refine zq ?_;refine zRD ?_;refine zV laa ?_;refine zV lad ?_;refine zV lae ?_;refine zV laj ?_;refine zV laa ?_;refine zV lag ?_;refine zV lad ?_;refine zV lae ?_;refine zV laq ?_
    refine zY (lat (ldS (.term t env) t env .nilp rfl vv n F rows hs.le hcl (by have := hs.len; omega)) rfl (by refine ⟨_, _, rfl, (by exact LeU.of_eq rfl zo), (by exact Exists.intro _ rfl), ?_⟩;refine ⟨_, _, rfl, (by (refine LeU.agg' rfl ?_;exact ⟨LeC.refl _, LeC.refl _, LeC.refl _, LeC.refl _, LeC.refl _, LeC.refl _, LeC.refl _, LeC.refl _, LeC.refl _, LeC.refl _, LeC.refl _, LeC.nil _, LeC.refl _, LeC.nil _, LeC.refl _, LeC.refl _, zo⟩)), (by exact ⟨zo, zo, zo, zo, zo, zo, zo, zo, lb2 _, zo, zo, zo, zo, zo, zo, zo, zo⟩), ?_⟩;exact rfl) (by exact ⟨rfl, rfl, zo⟩) (by exact rfl) (by simp [namesL]) (by exact ⟨la8 rfl ⟨_, _, _, _, rfl, Nat.le_refl _⟩, laY hcl, zo⟩)) ?_
    refine znD ?_;refine zR ?_;refine zV laa ?_;refine zV lad ?_;refine zV lae ?_;refine zV (lap _) ?_;refine zV lao ?_;refine zV lag ?_;refine zV lad ?_;refine zE lax ?_;refine zn (zQ ?_)
    refine zV (lal lbO) ?_
    refine zV las ?_;refine zV lar ?_;refine zE laf ?_;refine zV lab ?_;refine zn (zre ?_)
    refine rq ?_
    exact la4 (o := Out.zero) (b := false) (by exact .inr rfl) (by exact rfl) (by exact rfl) rfl (by exact rfl) [] (by exact zo) (by exact ⟨⟨_, rfl, laX _⟩, ⟨_, rfl, WkBlk.refl _⟩, zo⟩) (by exact rfl) (by exact ⟨la8 rfl ⟨_, _, _, _, rfl, Nat.le_refl _⟩, laY hpcl, zo⟩) rfl
theorem mc_env {h : Nat → Option Blk} {fz : List Nat} {t : Tm} {env : List V} {c c' : C} {vv n F : Nat} (hw : WkC h fz [] c' (envC env)) : All2 (WkC h fz []) [.int .i64 t.k, .int .i64 t.n, .int .i64 t.t.k, slOf 2 (tyRows t.t.l), .int .i64 t.f.k, slOf 2 (tyRows t.f.l), slOf 7 (tmRows t.l), c', c, .own 1001 vv n, .int .i64 F] (mCells t env c vv n F) :=
  ⟨.le (.refl _), .le (.refl _), .le (.refl _), .le (.refl _), .le (.refl _), .le (.refl _), .le (.refl _), hw, .le (.refl _), .le (.refl _), .le (.refl _), trivial⟩
theorem scopeClosed {x : V} {env : List V} : closedRow [x.p, envC env] = true := by simp only [closedRow, lcQ]; rfl
set_option maxHeartbeats 20000000 in
theorem call_a (f x : V) (t : Tm) (env : List V) (s : List Fr) (F vv n : Nat) (rows : List (List C)) (hs : StkOk s n rows) (hL : s.length ≤ 100000000000) (hF : F ≤ 1000) (r : Mch ⊕ Out) (hr : callM f x s F = some r) :
    Does 103 [.one (.ptr 1000 0), .one f.p, .one x.p] [(1000, .obj (mCells t env (.nilp) vv n F)), (1001, .row 118 16 vv rows)] vv r := by
  have hcl := hs.cl
  cases f with
  | num p =>
    simp only [callM, Option.some.injEq] at hr
    subst hr
    refine ⟨t, env, vv, n, F, rows, Nat.le_refl _, hcl, ?_⟩
    refine zB2 Tryz.func103 ?_
    refine zQ ?_;refine zM lah ?_;refine zV lab ?_;refine zn (zq (zQ ?_));refine zV laa ?_;refine zV lag ?_;refine zV lak ?_;refine zV lai ?_;refine zn (zbl (zQ ?_));refine zV lac ?_;refine zV lab ?_;refine zn ?_;refine zcF ?_;refine zQ ?_;refine zV lac ?_;refine zV lab ?_;refine zn ?_;refine zcF ?_;refine zsk (zQ ?_)
    refine zV (lal lbq) ?_
    refine zV las ?_;refine zV lar ?_;refine zE laf ?_;refine zV lab ?_;refine zn (zre ?_)
    refine rq ?_
    exact la4 (o := Out.stuck) (b := true) (by exact .inr rfl) (by exact rfl) (by exact rfl) rfl (by exact rfl) [] (by exact zo) (by exact ⟨⟨_, rfl, laX _⟩, ⟨_, rfl, WkBlk.refl _⟩, zo⟩) (by exact rfl) (by exact ⟨la8 rfl ⟨_, _, _, _, rfl, Nat.le_refl _⟩, laY hcl, zo⟩) rfl
  | tru p =>
    simp only [callM, Option.some.injEq] at hr
    subst hr
    refine ⟨t, env, vv, n, F, rows, Nat.le_refl _, hcl, ?_⟩
    refine zB2 Tryz.func103 ?_
    refine zQ ?_;refine zM lah ?_;refine zV lab ?_;refine zn (zq (zQ ?_));refine zV laa ?_;refine zV lag ?_;refine zV lak ?_;refine zV lai ?_;refine zn (zbl (zQ ?_));refine zV lac ?_;refine zV lab ?_;refine zn ?_;refine zcF ?_;refine zQ ?_;refine zV lac ?_;refine zV lab ?_;refine zn ?_;refine zcF ?_;refine zsk (zQ ?_)
    refine zV (lal lbq) ?_
    refine zV las ?_;refine zV lar ?_;refine zE laf ?_;refine zV lab ?_;refine zn (zre ?_)
    refine rq ?_
    exact la4 (o := Out.stuck) (b := true) (by exact .inr rfl) (by exact rfl) (by exact rfl) rfl (by exact rfl) [] (by exact zo) (by exact ⟨⟨_, rfl, laX _⟩, ⟨_, rfl, WkBlk.refl _⟩, zo⟩) (by exact rfl) (by exact ⟨la8 rfl ⟨_, _, _, _, rfl, Nat.le_refl _⟩, laY hcl, zo⟩) rfl
  | tag p p2 =>
    simp only [callM, Option.some.injEq] at hr
    subst hr
    refine ⟨t, env, vv, n, F, rows, Nat.le_refl _, hcl, ?_⟩
    refine zB2 Tryz.func103 ?_
    refine zQ ?_;refine zM lah ?_;refine zV lab ?_;refine zn (zq (zQ ?_));refine zV laa ?_;refine zV lag ?_;refine zV lak ?_;refine zV lai ?_;refine zn (zbl (zQ ?_));refine zV lac ?_;refine zV lab ?_;refine zn ?_;refine zcF ?_;refine zQ ?_;refine zV lac ?_;refine zV lab ?_;refine zn ?_;refine zcF ?_;refine zsk (zQ ?_)
    refine zV (lal lbq) ?_
    refine zV las ?_;refine zV lar ?_;refine zE laf ?_;refine zV lab ?_;refine zn (zre ?_)
    refine rq ?_
    exact la4 (o := Out.stuck) (b := true) (by exact .inr rfl) (by exact rfl) (by exact rfl) rfl (by exact rfl) [] (by exact zo) (by exact ⟨⟨_, rfl, laX _⟩, ⟨_, rfl, WkBlk.refl _⟩, zo⟩) (by exact rfl) (by exact ⟨la8 rfl ⟨_, _, _, _, rfl, Nat.le_refl _⟩, laY hcl, zo⟩) rfl
  | clo b e =>
    cases F with
    | zero =>
      simp only [callM, Option.some.injEq] at hr
      subst hr
      refine ⟨t, env, vv, n, 0, rows, Nat.le_refl _, hcl, ?_⟩
      refine zB2 Tryz.func103 ?_
      refine zQ ?_;refine zM lah ?_;refine zV lab ?_;refine zn (zq (zQ ?_));refine zV laa ?_;refine zV lag ?_;refine zV lak ?_;refine zV lai ?_;refine zn (zbl (zQ ?_));refine zV lac ?_;refine zV lab ?_;refine zn ?_;refine zcT ?_;refine zq (zQ ?_);refine zV laa ?_;refine zV lag ?_;refine zV lad ?_;refine zV lae ?_;refine zV lac ?_;refine zn ?_;refine zcT ?_;refine zQ ?_;refine zV laq ?_;refine zE laf ?_;refine zV lab ?_;refine zn (zre ?_)
      refine rq ?_
      exact la4 (o := Out.fuel) (b := true) (by exact .inr rfl) (by exact rfl) (by exact rfl) rfl (by exact rfl) [] (by exact zo) (by exact ⟨⟨_, rfl, laX _⟩, ⟨_, rfl, WkBlk.refl _⟩, zo⟩) (by exact rfl) (by exact ⟨la8 rfl ⟨_, _, _, _, rfl, Nat.le_refl _⟩, laY hcl, zo⟩) rfl
    | succ F =>
      simp only [callM, Option.some.injEq] at hr
      subst hr
      refine ⟨_, vv, n, rows, Nat.le_refl _, (by exact rfl), hs, ?_⟩
      have hF0 : ((((F + 1 : Nat)) : Int) == 0) = false := by rw [beq_eq_false_iff_ne]; omega
      have hF1 : (((F + 1 : Nat)) : Int) - 1 = (F : Int) := by omega
      refine zB2 Tryz.func103 ?_
      refine zQ ?_;refine zM lah ?_;refine zV lab ?_;refine zn (zq (zQ ?_));refine zV laa ?_;refine zV lag ?_;refine zV lak ?_;refine zV lai ?_;refine zn (zbl (zQ ?_));refine zV lac ?_;refine zV lab ?_;refine zn ?_;refine zcT ?_;refine zq (zQ ?_);refine zV laa ?_;refine zV lag ?_;refine zV lad ?_;refine zV lae ?_;refine zV lac ?_;refine zn ?_;refine zcF ?_;refine zsk (zQ ?_);refine zV laa ?_;refine zV lag ?_;refine zV lad ?_;refine zV lae ?_;refine zV laJ ?_;refine zV lag ?_;refine zV lad ?_;refine zE lax ?_;refine zn (zq ?_);refine zRD ?_;refine zV laa ?_;refine zV laa ?_;refine zV laa ?_;refine zV laa ?_;refine zV lag ?_;refine zV lak ?_;refine zV (lao rfl (by exact Cut.cons (by exact rfl) (Cut.cons (by exact rfl) (Cut.cons (by exact rfl) (Cut.cons (by exact rfl) (Cut.cons (by exact rfl) (Cut.cons (by exact rfl) (Cut.cons (by exact rfl) Cut.nil)))))))) ?_;refine zV laa ?_;refine zV laa ?_;refine zV lag ?_;refine zV lak ?_;refine zV lai ?_;refine zV laq ?_;refine zM lan ?_;refine zV lag ?_;refine zV lad ?_;refine zE lax ?_;refine zV lag ?_;refine zV lad ?_;refine zE lax ?_;refine zV lag ?_;refine zV lad ?_;refine zE lax ?_;refine znD ?_;refine zQ ?_
      refine zV (lal lbO) ?_
      refine zV las ?_;refine zV lar ?_;refine zE laf ?_;refine zV lab ?_;refine zn (zre ?_)
      rw [hF1]
      refine rq ?_
      exact la4 (o := Out.zero) (b := false) (by exact .inr rfl) (by exact rfl) (by exact rfl) rfl (by exact rfl) [40] (by exact ⟨⟨_, rfl, scopeClosed⟩, zo⟩) (by exact ⟨⟨_, rfl, (by exact mc_env (env := x :: e) (.obj (List.mem_cons_self ..) rfl (la0 _)))⟩, ⟨_, rfl, WkBlk.refl _⟩, zo⟩) (by exact rfl) (by exact ⟨la8 rfl ⟨_, _, _, _, rfl, Nat.le_refl _⟩, laY hcl, zo⟩) rfl
  | wrap u f t' at' back =>
    simp only [callM] at hr
    split at hr
    · rename_i f0 f1 t0 t1 hfl htl
      have e1 : (tyRows f.l)[0]? = some f0.c := by rw [hfl, lba]; rfl
      have e2 : (tyRows f.l)[1]? = some f1.c := by rw [hfl, lba]; rfl
      have e3 : (tyRows t'.l)[0]? = some t0.c := by rw [htl, lba]; rfl
      have e4 : (tyRows t'.l)[1]? = some t1.c := by rw [htl, lba]; rfl
      have hp1 := hs.push (.casts f1 t1 at' back)
      have hp2 := hp1.push (.given u)
      cases hc : castV x t0 f0 at' (!back) with
      | inl y =>
        rw [hc] at hr
        simp only [Option.some.injEq] at hr
        subst hr
        refine ⟨_, vv + 1 + 1, n + 1 + 1, _, by omega, ⟨t, env, rfl⟩, hp2, ?_⟩
        refine lbe Tryz.func103 rfl (by kernel_rfl) (Nat.le_of_ble_eq_true rfl) (by exact ⟨⟨rfl, zo⟩, ⟨rfl, (show vv ≤ vv + 1 + 1 by omega)⟩, zo⟩) (by simp [namesL]) ?_
        refine zQ ?_;refine zM lah ?_;refine zV lab ?_;refine zn (zq (zQ ?_));refine zV laa ?_;refine zV lag ?_;refine zV lak ?_;refine zV lai ?_;refine zn (zbl (zQ ?_));refine zV lac ?_;refine zV lab ?_;refine zn ?_;refine zcF ?_;refine zQ ?_;refine zV lac ?_;refine zV lab ?_;refine zn ?_;refine zcT ?_;refine zq ?_;refine zRD ?_;refine zV laa ?_;refine zV laa ?_;refine zV lag ?_;refine zV lak ?_;refine zV lak ?_;refine zV lai ?_;refine zV (lap _) ?_;refine zV lao ?_;refine zV laa ?_;refine zV lag ?_;refine zV lak ?_;refine zV lak ?_;refine zV lai ?_;refine zV (lap _) ?_;refine zV lao ?_;refine zV laa ?_;refine zV lag ?_;refine zV lak ?_;refine zV lai ?_;refine zV laa ?_;refine zV lag ?_;refine zV lak ?_;refine zV lai ?_;refine zV laq ?_
        refine zY (lat (ldS ((.casts f1 t1 at' back)) t env .nilp rfl (vv) (n) F rows hs.le hcl (by have := hs.len; omega)) rfl (by refine ⟨_, _, rfl, (by exact LeU.of_eq rfl zo), (by exact Exists.intro _ rfl), ?_⟩;refine ⟨_, _, rfl, (by (refine LeU.agg' rfl ?_;exact ⟨LeC.refl _, LeC.refl _, LeC.refl _, LeC.refl _, LeC.nil _, LeC.refl _, LeC.nil _, LeC.nil _, LeC.refl _, LeC.refl _, LeC.refl _, LeC.refl _, LeC.refl _, LeC.refl _, LeC.refl _, LeC.refl _, zo⟩)), (by exact ⟨zo, zo, zo, zo, zo, zo, zo, zo, zo, zo, zo, zo, zo, zo, zo, zo, zo⟩), ?_⟩;exact rfl) (by exact ⟨rfl, rfl, zo⟩) (by exact rfl) (by simp [namesL]) (by exact ⟨la8 rfl ⟨_, _, _, _, rfl, Nat.le_refl _⟩, laY hcl, zo⟩)) ?_
        refine znD ?_;refine zQ ?_;refine zV laa ?_;refine zV laa ?_;refine zV lag ?_;refine zV lak ?_;refine zV lai ?_;refine zV laq ?_
        refine zY (lat (ldS ((.given u)) t env .nilp rfl (vv + 1) (n + 1) F (rows.take n ++ [(Fr.casts f1 t1 at' back).c]) hp1.le hp1.cl (by have := hs.len; omega)) rfl (by refine ⟨_, _, rfl, (by exact LeU.of_eq rfl zo), (by exact Exists.intro _ rfl), ?_⟩;refine ⟨_, _, rfl, (by (refine LeU.agg' rfl ?_;exact ⟨LeC.refl _, LeC.refl _, LeC.refl _, LeC.refl _, LeC.nil _, LeC.refl _, LeC.nil _, LeC.nil _, LeC.refl _, LeC.refl _, LeC.refl _, LeC.nil _, LeC.refl _, LeC.nil _, LeC.refl _, LeC.refl _, zo⟩)), (by exact ⟨zo, zo, zo, zo, zo, zo, zo, zo, zo, zo, zo, zo, zo, zo, zo, zo, zo⟩), ?_⟩;exact rfl) (by exact ⟨rfl, rfl, zo⟩) (by exact rfl) (by simp [namesL]) (by exact ⟨la8 rfl ⟨_, _, _, _, rfl, Nat.le_refl _⟩, laY hp1.cl, zo⟩)) ?_
        refine zn (zq ?_);refine zRD ?_;refine zV laa ?_;refine zV laa ?_;refine zV laa ?_;refine zV lag ?_;refine zV lak ?_;refine zV lak ?_;refine zV lai ?_;refine zV (lap _) ?_;refine zV lao ?_;refine zV laa ?_;refine zV lag ?_;refine zV lak ?_;refine zV lak ?_;refine zV lai ?_;refine zV (lap _) ?_;refine zV lao ?_;refine zV laa ?_;refine zV lag ?_;refine zV lak ?_;refine zV lai ?_;refine zV laa ?_;refine zV lag ?_;refine zV lak ?_;refine zV lai ?_;refine zV laz ?_
        refine zY (lat (cast_a x t0 f0 at' (!back) t env (vv + 1 + 1) (n + 1 + 1) F _ hp2.cl) rfl (by refine ⟨_, _, rfl, (by exact LeU.of_eq rfl zo), (by exact Exists.intro _ rfl), ?_⟩;refine zC ?_;refine zC2 ?_;refine zC2 ?_;refine zC ?_;refine zC ?_;exact rfl) (by exact ⟨rfl, rfl, zo⟩) (by exact rfl) (by simp [namesL]) (by exact ⟨la8 rfl ⟨_, _, _, _, rfl, Nat.le_refl _⟩, laY hp2.cl, zo⟩)) ?_
        rw [hc]
        refine zV las ?_;refine zV lar ?_;refine zE laf ?_;refine zV lab ?_;refine znD ?_;refine zre ?_
        refine rq ?_
        exact la4 (o := Out.zero) (b := false) (by exact .inr rfl) (by exact rfl) (by exact rfl) rfl (by exact rfl) [] (by exact zo) (by exact ⟨⟨_, rfl, laX _⟩, ⟨_, rfl, WkBlk.refl _⟩, zo⟩) (by exact rfl) (by exact ⟨la8 rfl ⟨_, _, _, _, rfl, Nat.le_refl _⟩, laY hp2.cl, zo⟩) rfl
      | inr o =>
        rw [hc] at hr
        simp only [Option.some.injEq] at hr
        subst hr
        refine ⟨t, env, vv + 1 + 1, n + 1 + 1, F, _, by omega, hp2.cl, ?_⟩
        refine lbe Tryz.func103 rfl (by kernel_rfl) (Nat.le_of_ble_eq_true rfl) (by exact ⟨⟨rfl, zo⟩, ⟨rfl, (show vv ≤ vv + 1 + 1 by omega)⟩, zo⟩) (by simp [namesL]) ?_
        refine zQ ?_;refine zM lah ?_;refine zV lab ?_;refine zn (zq (zQ ?_));refine zV laa ?_;refine zV lag ?_;refine zV lak ?_;refine zV lai ?_;refine zn (zbl (zQ ?_));refine zV lac ?_;refine zV lab ?_;refine zn ?_;refine zcF ?_;refine zQ ?_;refine zV lac ?_;refine zV lab ?_;refine zn ?_;refine zcT ?_;refine zq ?_;refine zRD ?_;refine zV laa ?_;refine zV laa ?_;refine zV lag ?_;refine zV lak ?_;refine zV lak ?_;refine zV lai ?_;refine zV (lap _) ?_;refine zV lao ?_;refine zV laa ?_;refine zV lag ?_;refine zV lak ?_;refine zV lak ?_;refine zV lai ?_;refine zV (lap _) ?_;refine zV lao ?_;refine zV laa ?_;refine zV lag ?_;refine zV lak ?_;refine zV lai ?_;refine zV laa ?_;refine zV lag ?_;refine zV lak ?_;refine zV lai ?_;refine zV laq ?_
        refine zY (lat (ldS ((.casts f1 t1 at' back)) t env .nilp rfl (vv) (n) F rows hs.le hcl (by have := hs.len; omega)) rfl (by refine ⟨_, _, rfl, (by exact LeU.of_eq rfl zo), (by exact Exists.intro _ rfl), ?_⟩;refine ⟨_, _, rfl, (by (refine LeU.agg' rfl ?_;exact ⟨LeC.refl _, LeC.refl _, LeC.refl _, LeC.refl _, LeC.nil _, LeC.refl _, LeC.nil _, LeC.nil _, LeC.refl _, LeC.refl _, LeC.refl _, LeC.refl _, LeC.refl _, LeC.refl _, LeC.refl _, LeC.refl _, zo⟩)), (by exact ⟨zo, zo, zo, zo, zo, zo, zo, zo, zo, zo, zo, zo, zo, zo, zo, zo, zo⟩), ?_⟩;exact rfl) (by exact ⟨rfl, rfl, zo⟩) (by exact rfl) (by simp [namesL]) (by exact ⟨la8 rfl ⟨_, _, _, _, rfl, Nat.le_refl _⟩, laY hcl, zo⟩)) ?_
        refine znD ?_;refine zQ ?_;refine zV laa ?_;refine zV laa ?_;refine zV lag ?_;refine zV lak ?_;refine zV lai ?_;refine zV laq ?_
        refine zY (lat (ldS ((.given u)) t env .nilp rfl (vv + 1) (n + 1) F (rows.take n ++ [(Fr.casts f1 t1 at' back).c]) hp1.le hp1.cl (by have := hs.len; omega)) rfl (by refine ⟨_, _, rfl, (by exact LeU.of_eq rfl zo), (by exact Exists.intro _ rfl), ?_⟩;refine ⟨_, _, rfl, (by (refine LeU.agg' rfl ?_;exact ⟨LeC.refl _, LeC.refl _, LeC.refl _, LeC.refl _, LeC.nil _, LeC.refl _, LeC.nil _, LeC.nil _, LeC.refl _, LeC.refl _, LeC.refl _, LeC.nil _, LeC.refl _, LeC.nil _, LeC.refl _, LeC.refl _, zo⟩)), (by exact ⟨zo, zo, zo, zo, zo, zo, zo, zo, zo, zo, zo, zo, zo, zo, zo, zo, zo⟩), ?_⟩;exact rfl) (by exact ⟨rfl, rfl, zo⟩) (by exact rfl) (by simp [namesL]) (by exact ⟨la8 rfl ⟨_, _, _, _, rfl, Nat.le_refl _⟩, laY hp1.cl, zo⟩)) ?_
        refine zn (zq ?_);refine zRD ?_;refine zV laa ?_;refine zV laa ?_;refine zV laa ?_;refine zV lag ?_;refine zV lak ?_;refine zV lak ?_;refine zV lai ?_;refine zV (lap _) ?_;refine zV lao ?_;refine zV laa ?_;refine zV lag ?_;refine zV lak ?_;refine zV lak ?_;refine zV lai ?_;refine zV (lap _) ?_;refine zV lao ?_;refine zV laa ?_;refine zV lag ?_;refine zV lak ?_;refine zV lai ?_;refine zV laa ?_;refine zV lag ?_;refine zV lak ?_;refine zV lai ?_;refine zV laz ?_
        refine zY (lat (cast_a x t0 f0 at' (!back) t env (vv + 1 + 1) (n + 1 + 1) F _ hp2.cl) rfl (by refine ⟨_, _, rfl, (by exact LeU.of_eq rfl zo), (by exact Exists.intro _ rfl), ?_⟩;refine zC ?_;refine zC2 ?_;refine zC2 ?_;refine zC ?_;refine zC ?_;exact rfl) (by exact ⟨rfl, rfl, zo⟩) (by exact rfl) (by simp [namesL]) (by exact ⟨la8 rfl ⟨_, _, _, _, rfl, Nat.le_refl _⟩, laY hp2.cl, zo⟩)) ?_
        rw [hc]
        refine zV las ?_;refine zV lar ?_;refine zE laf ?_;refine zV lab ?_;refine znD ?_;refine zre ?_
        refine rq ?_
        exact la4 (o := o) (b := true) (by exact .inr rfl) (by exact rfl) (by exact rfl) rfl (by exact rfl) [] (by exact zo) (by exact ⟨⟨_, rfl, laX _⟩, ⟨_, rfl, WkBlk.refl _⟩, zo⟩) (by exact rfl) (by exact ⟨la8 rfl ⟨_, _, _, _, rfl, Nat.le_refl _⟩, laY hp2.cl, zo⟩) rfl
    · cases hr
end Go.Proofs.YtnflnbdlgdjfmabGreatDoor
