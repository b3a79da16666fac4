/-
  Merged texts of the proof. Conditions: those typed in each theorem.
-/
import Derived.Test.YtnflnbdlgdjfmabGreatDoorX8
import Derived.Lib.SplitLaws
set_option linter.unusedVariables false
set_option linter.unusedSimpArgs false
namespace Go.Proofs.YtnflnbdlgdjfmabGreatDoor
open Go.RowKit
set_option maxRecDepth 100000
attribute [local irreducible] RunL AW LocOp ACalls Gh
set_option maxHeartbeats 8000000 in
theorem typeOf_a : ∀ (a : Tm) (env : List Ty), a.good 0 env.length = true → (∀ t ∈ env, Right t) → env.length + a.nodes ≤ 1048576 →
    ACalls Tryz.prog 39 [a.u, .one (slOf 2 (tyRows env))] [] (.tup [(tyT a env).1.u, .one (.bool (tyT a env).2)]) [] := by
  intro a
  induction a using Tm.ind' with
  | h a ih =>
  intro env hg he hsz
  have hne := lbt a
  have hE := la2 env
  have hL := la7 a.l
  have hnn := lb3 a.l
  have hg2 := hg
  rw [lbd, Bool.and_eq_true] at hg2
  have hfr := lcp hg2.1
  have hwr := lcv (fun h7 => hfr (.inl h7)) he
  have hgl := hg2.2
  rw [← ldi] at hgl
  have hwl : (within a env).length ≤ env.length + 1 := by unfold within; split <;> simp
  refine zB Tryz.func39 ?_
  refine zQ ?_;refine zM lan ?_;refine zM lah ?_;refine zV lab ?_;refine zn (zQ ?_);refine zV laq ?_;refine zV laq ?_;refine zM lah ?_;refine zM lah ?_;refine zE laf ?_;refine zE laf ?_;refine zn (zQ ?_);refine zV lab ?_;refine zn (zQ ?_);refine zV laa ?_;refine zV lab ?_;refine zn (zq (zQ ?_));refine zV lad ?_;refine zV lae ?_;refine zV lac ?_;refine zn ?_
  refine AW.midB (fun t h => t = tOfL [(1, .one (slOf 2 (tyRows env))), (2, .one (.ptr 2 0)), (4, .one (.ptr 4 0)), (5, .one (.bool false)), (6, .one (.ptr 6 0)), (7, .one (.ptr 7 0)), (8, .one (.nilsl)), (9, .one (slOf 2 (tyRows (within a env))))] ∧ h = ofL [(2, .obj a.c), (4, .obj Ty.any.c), (6, .obj Ty.num.c), (7, .obj Ty.truth.c)]) ?_ ?_
  · cases h7 : (a.k == 7) with
    | false =>
      refine zcF ?_;refine zsk ?_
      rw [show within a env = env by unfold within; rw [h7]; rfl]
      exact ⟨_, _, (laZ [(1, .one (slOf 2 (tyRows env))), (2, .one (.ptr 2 0)), (4, .one (.ptr 4 0)), (5, .one (.bool false)), (6, .one (.ptr 6 0)), (7, .one (.ptr 7 0)), (8, .one (.nilsl)), (9, .one (slOf 2 (tyRows (env))))] [(2, .obj a.c), (4, .obj Ty.any.c), (6, .obj Ty.num.c), (7, .obj Ty.truth.c)] [] [] ⟨(by exact WkU.of_eq rfl zo), (zw rfl zo), (zw rfl zo), (zw rfl zo), (zw rfl zo), (zw rfl zo), (by exact WkU.of_eq rfl zo), (by exact WkU.of_eq rfl zo), zo⟩ ⟨(by exact zb rfl), (by (refine Or.inl ⟨_, rfl, ?_⟩; show All2 _ _ _; exact ⟨WkC.le (LeC.refl _), WkC.le (LeC.nil _), zo⟩)), (by (refine Or.inl ⟨_, rfl, ?_⟩; show All2 _ _ _; exact ⟨WkC.le (LeC.refl _), WkC.le (LeC.nil _), zo⟩)), (by (refine Or.inl ⟨_, rfl, ?_⟩; show All2 _ _ _; exact ⟨WkC.le (LeC.refl _), WkC.le (LeC.nil _), zo⟩)), zo⟩ trivial zo rfl rfl ⟨zo, ⟨_, rfl⟩, ⟨_, rfl⟩, zo, ⟨_, rfl⟩, ⟨_, rfl⟩, zo, zo, zo⟩ ⟨(by exact ⟨zo, zo, zo, zo, zo, zo, zo, zo⟩), (by exact ⟨zo, zo, zo⟩), (by exact ⟨zo, zo, zo⟩), (by exact ⟨zo, zo, zo⟩), zo⟩), rfl, rfl⟩
    | true =>
      rw [show within a env = a.t :: env by unfold within; rw [h7]; rfl]
      have hx : tyRows (a.t :: env) = [a.t.c] ++ tyRows env := by simp [tyRows, Ty.cells_c]
      rw [hx]
      by_cases hee : env = []
      · have hxr : tyRows env = [] := by rw [hee]; rfl
        refine zcT ?_;refine zR ?_;refine zV lad ?_;refine zV (laj rfl rfl (by exact Cut.cons (by exact rfl) (Cut.cons (by exact rfl) Cut.nil))) ?_;refine zV laF ?_;refine zV laa ?_
        refine zV (ldt (rows := [a.t.c]) (k := 2) (c := slOf 2 (tyRows env)) (c0 := slFOf 2 [a.t.c]) (by exact rfl) (by exact rfl) (by exact .inl rfl) (by rw [hxr];exact .inr (.inl rfl)) (by intro r hr; rw [List.mem_singleton.1 hr]; rfl)) ?_
        refine zV lab ?_;refine zn ?_
        rw [show ([a.t.c] ++ tyRows env) = [a.t.c] by rw [hxr]; rfl]
        exact ⟨_, _, (laZ [(1, .one (slOf 2 (tyRows env))), (2, .one (.ptr 2 0)), (4, .one (.ptr 4 0)), (5, .one (.bool false)), (6, .one (.ptr 6 0)), (7, .one (.ptr 7 0)), (8, .one .nilsl), (9, .one (slOf 2 [a.t.c]))] [(2, .obj a.c), (4, .obj Ty.any.c), (6, .obj Ty.num.c), (7, .obj Ty.truth.c)] [] [] ⟨(by exact WkU.of_eq rfl zo), (zw rfl zo), (zw rfl zo), (zw rfl zo), (zw rfl zo), (zw rfl zo), (by exact WkU.of_eq rfl zo), (by exact WkC.le (LeC.slF (LeRows.refl _))), zo⟩ ⟨(by exact zb rfl), (by (refine Or.inl ⟨_, rfl, ?_⟩; show All2 _ _ _; exact ⟨WkC.le (LeC.refl _), WkC.le (LeC.nil _), zo⟩)), (by (refine Or.inl ⟨_, rfl, ?_⟩; show All2 _ _ _; exact ⟨WkC.le (LeC.refl _), WkC.le (LeC.nil _), zo⟩)), (by (refine Or.inl ⟨_, rfl, ?_⟩; show All2 _ _ _; exact ⟨WkC.le (LeC.refl _), WkC.le (LeC.nil _), zo⟩)), zo⟩ trivial zo rfl rfl ⟨zo, ⟨_, rfl⟩, ⟨_, rfl⟩, zo, ⟨_, rfl⟩, ⟨_, rfl⟩, zo, zo, zo⟩ ⟨(by exact ⟨zo, zo, zo, zo, zo, zo, zo, zo⟩), (by exact ⟨zo, zo, zo⟩), (by exact ⟨zo, zo, zo⟩), (by exact ⟨zo, zo, zo⟩), zo⟩), rfl, rfl⟩
      · refine zcT ?_; refine zR ?_; refine zV lad ?_; refine zV (laj rfl rfl (by exact Cut.cons (by exact rfl) (Cut.cons (by exact rfl) Cut.nil))) ?_; refine zV laF ?_; refine zV laa ?_
        refine zM (ldI (rows := [a.t.c]) (news := tyRows env) (by exact rfl) (by exact rfl) (by exact .inl rfl) (by exact .inr (.inl rfl)) (by intro h; apply hee; have := congrArg List.length h; rw [la2] at this;exact List.length_eq_zero_iff.1 this) (lbh.2 (ldJ _)) (by intro r hr; rw [List.mem_singleton.1 hr]; rfl) (by exact rfl) (by exact rfl) (by simp only [List.length_cons, List.length_nil, hE]; omega) (by decide)) ?_
        refine zV lab ?_;refine zn ?_
        exact ⟨_, _, (laZ [(1, .one (slOf 2 (tyRows env))), (2, .one (.ptr 2 0)), (4, .one (.ptr 4 0)), (5, .one (.bool false)), (6, .one (.ptr 6 0)), (7, .one (.ptr 7 0)), (8, .one .nilsl), (9, .one (slOf 2 ([a.t.c] ++ tyRows env)))] [(2, .obj a.c), (4, .obj Ty.any.c), (6, .obj Ty.num.c), (7, .obj Ty.truth.c)] [24] [] ⟨(by exact WkU.of_eq rfl zo), (zw rfl zo), (zw rfl zo), (zw rfl zo), (zw rfl zo), (zw rfl zo), (by exact WkU.of_eq rfl zo), (by exact WkC.row (List.mem_cons_self ..) rfl (by exact List.length_append ..) (by exact LeRows.refl _)), zo⟩ ⟨(by exact zb rfl), (by (refine Or.inl ⟨_, rfl, ?_⟩; show All2 _ _ _; exact ⟨WkC.le (LeC.refl _), WkC.le (LeC.nil _), zo⟩)), (by (refine Or.inl ⟨_, rfl, ?_⟩; show All2 _ _ _; exact ⟨WkC.le (LeC.refl _), WkC.le (LeC.nil _), zo⟩)), (by (refine Or.inl ⟨_, rfl, ?_⟩; show All2 _ _ _; exact ⟨WkC.le (LeC.refl _), WkC.le (LeC.nil _), zo⟩)), zo⟩ ⟨⟨_, rfl, (by show closedRows ([a.t.c] ++ tyRows env) = true; rw [← hx]; exact la9 _)⟩, zo⟩ trivial rfl rfl ⟨zo, ⟨_, rfl⟩, ⟨_, rfl⟩, zo, ⟨_, rfl⟩, ⟨_, rfl⟩, zo, zo, zo⟩ ⟨(by exact ⟨zo, zo, zo, zo, zo, zo, zo, zo⟩), (by exact ⟨zo, zo, zo⟩), (by exact ⟨zo, zo, zo⟩), (by exact ⟨zo, zo, zo⟩), zo⟩), rfl, rfl⟩
  · rintro t h ⟨rfl, rfl⟩
    have hT : tyT a env = match tyL a.l (within a env) with | none => (.any, false) | some ks => tyFin a ks env := lcs a env
    generalize within a env = env' at *
    refine zq (zQ ?_);refine zV lad ?_;refine zV lae ?_;refine zV lay ?_;refine zV laa ?_;refine zn (zbl ?_)
    refine AW.gh (laZ [(1, .one (slOf 2 (tyRows env))), (2, .one (.ptr 2 0)), (4, .one (.ptr 4 0)), (5, .one (.bool false)), (6, .one (.ptr 6 0)), (7, .one (.ptr 7 0)), (8, .one (.own 105 (0) (0))), (9, .one (slOf 2 (tyRows (env')))), (26, .one (slOf 7 (tmRows a.l))), (27, .one (.int .i64 ((tmRows a.l).length : Nat))), (28, .one (.int .i64 ((0 : Nat) : Int)))] [(2, .obj a.c), (4, .obj Ty.any.c), (6, .obj Ty.num.c), (7, .obj Ty.truth.c), (105, .row 24 2 (0) (tyRows ([])))] [] [105] ⟨(by exact WkU.of_eq rfl zo), (zw rfl zo), (zw rfl zo), (zw rfl zo), (zw rfl zo), (zw rfl zo), (by exact WkC.nil (List.mem_cons_self ..)), (by exact WkU.of_eq rfl zo), (by exact WkU.of_eq rfl zo), (zw rfl zo), (zw rfl zo), zo⟩ ⟨(by exact zb rfl), (by exact zb rfl), (by exact zb rfl), (by exact zb rfl), (by exact Or.inr ⟨rfl, List.mem_cons_self .., _, _, by decide, rfl⟩), zo⟩ trivial ⟨rfl, zo⟩ rfl rfl ⟨zo, ⟨_, rfl⟩, ⟨_, rfl⟩, zo, ⟨_, rfl⟩, ⟨_, rfl⟩, ⟨_, _, _, _, rfl, Nat.le_refl _⟩, zo, zo, zo, zo, zo⟩ ⟨(by exact ⟨zo, zo, zo, zo, zo, zo, zo, zo⟩), (by exact ⟨zo, zo, zo⟩), (by exact ⟨zo, zo, zo⟩), (by exact ⟨zo, zo, zo⟩), (laY (by exact rfl)), zo⟩) ?_
    refine AW.lenSl 26 rfl fun hmax => ?_
    refine AW.loop (fun m t h => ∃ (i : Nat) (ks : List Ty), i ≤ a.l.length ∧ m = a.l.length - i ∧ ks.length = i ∧ (∀ x ∈ ks, Right x) ∧ tyL a.l env' = (tyL (a.l.drop i) env').map (ks ++ ·) ∧ t = tOfL [(1, .one (slOf 2 (tyRows env))), (2, .one (.ptr 2 0)), (4, .one (.ptr 4 0)), (5, .one (.bool false)), (6, .one (.ptr 6 0)), (7, .one (.ptr 7 0)), (8, .one (.own 105 (i) (i))), (9, .one (slOf 2 (tyRows (env')))), (26, .one (slOf 7 (tmRows a.l))), (27, .one (.int .i64 ((tmRows a.l).length : Nat))), (28, .one (.int .i64 ((i : Nat) : Int)))] ∧ h = ofL [(2, .obj a.c), (4, .obj Ty.any.c), (6, .obj Ty.num.c), (7, .obj Ty.truth.c), (105, .row 24 2 (i) (tyRows (ks)))]) a.l.length ⟨0, [], Nat.zero_le _, rfl, rfl, by simp, by simp, rfl, rfl⟩ ?_
    rintro m t h ⟨i, ks, hi, rfl, hks, hkr, hinv, rfl, rfl⟩
    have htk : (tyRows ks).length = i := by rw [la2, hks]
    cases hlt : decide ((i : Int) < ((tmRows a.l).length : Nat)) with
    | false =>
      have hil : i = a.l.length := by simp at hlt; omega
      have hkl : ks.length = a.l.length := by omega
      rw [hil, List.drop_length] at hinv
      have hT : tyT a env = tyFin a ks env := by rw [hT, hinv]; simp [tyL]
      refine zQ ?_;refine zV lac ?_;refine zn (zq ?_);refine zaF ?_;refine zex (zq (zQ ?_));refine zV lad ?_;refine zV lae ?_;refine zn (zbl (zQ ?_));refine zV lac ?_;refine zV lab ?_;refine zn ?_
      refine AW.gh (laZ [(1, .one (slOf 2 (tyRows env))), (2, .one (.ptr 2 0)), (4, .one (.ptr 4 0)), (5, .one (.bool false)), (6, .one (.ptr 6 0)), (7, .one (.ptr 7 0)), (8, .one (slOf 2 (tyRows ks))), (47, .one (.int .i64 a.k)), (48, .one (.bool (a.k == 1)))] [(2, .obj a.c), (4, .obj Ty.any.c), (6, .obj Ty.num.c), (7, .obj Ty.truth.c)] [105] [] ⟨(by exact WkU.of_eq rfl zo), (zw rfl zo), (zw rfl zo), (zw rfl zo), (zw rfl zo), (zw rfl zo), (by exact WkC.row (List.mem_cons_self ..) rfl (by assumption) (by exact LeRows.refl _)), (zw rfl zo), (zw rfl zo), zo⟩ ⟨(by exact zb rfl), (by exact zb rfl), (by exact zb rfl), (by exact zb rfl), zo⟩ ⟨⟨_, rfl, la9 _⟩, zo⟩ trivial rfl rfl ⟨zo, ⟨_, rfl⟩, ⟨_, rfl⟩, zo, ⟨_, rfl⟩, ⟨_, rfl⟩, zo, zo, zo, zo⟩ ⟨(by exact ⟨zo, zo, zo, zo, zo, zo, zo, zo⟩), (by exact ⟨zo, zo, zo⟩), (by exact ⟨zo, zo, zo⟩), (by exact ⟨zo, zo, zo⟩), zo⟩) ?_
      clear hinv htk hlt
      rcases lbu hg with ⟨e, el, n0, n1, _⟩ | ⟨e, el, _⟩ | ⟨e, el, _⟩ | ⟨e, _, _, x, y, el, h1, h2⟩ | ⟨e, _, _, x, y, z, el, h1, h2, h3⟩ | ⟨e, _, _, x, el, h1⟩ | ⟨e, _, _, x, el, h1⟩
      · have k1 : (a.k == 1) = true := by rw [e]; rfl
        have hi : a.n.toNat < env.length := by omega
        have hr1 := lbb hi
        refine zaT ?_;refine zQ ?_;refine zV laa ?_;refine zV lad ?_;refine zV lae ?_
        refine zV (lap (a.n.toNat) rfl rfl (by omega) hr1) ?_
        refine zV lao ?_;refine zE laf ?_;refine zV lab ?_;refine zn (zre ?_)
        rw [show tyT a env = (env[a.n.toNat], true) by rw [hT]; simp [tyFin, k1, getT, hi]]
        refine rq ?_
        refine lbn (by exact .inr rfl) (by exact rfl) (by exact rfl) (by exact rfl) (by exact rfl) [] trivial (l' := (env[a.n.toNat]).c) (by exact laX _) (by exact .le (.refl _)) (by exact zo) (by exact rfl) (by exact ⟨⟨zo, zo, zo⟩, zo, zo⟩) (by exact zo) (by exact rfl)
      · have k1 : (a.k == 1) = false := by rw [e]; rfl
        have k2 : (a.k == 2) = true := by rw [e]; rfl
        refine zaF ?_;refine zQ ?_;refine zV lac ?_;refine zV lab ?_;refine zn ?_;refine zaT ?_;refine zQ ?_;refine zV laj ?_;refine zE laf ?_;refine zV lab ?_;refine zn (zre ?_)
        rw [show tyT a env = (.num, true) by rw [hT]; simp [tyFin, k1, k2]]
        refine rq ?_
        refine lbn (by exact .inr rfl) (by exact rfl) (by exact rfl) (by exact rfl) (by exact rfl) [] trivial (l' := (Ty.num).c) (by exact laX _) (by exact .le (.refl _)) (by exact zo) (by exact rfl) (by exact ⟨⟨zo, zo, zo⟩, zo, zo⟩) (by exact zo) (by exact rfl)
      · have k1 : (a.k == 1) = false := by rw [e]; rfl
        have k2 : (a.k == 2) = false := by rw [e]; rfl
        have k3 : (a.k == 3) = true := by rw [e]; rfl
        refine zaF ?_;refine zQ ?_;refine zV lac ?_;refine zV lab ?_;refine zn ?_;refine zaF ?_;refine zQ ?_;refine zV lac ?_;refine zV lab ?_;refine zn ?_;refine zaT ?_;refine zQ ?_;refine zV laj ?_;refine zE laf ?_;refine zV lab ?_;refine zn (zre ?_)
        rw [show tyT a env = (.truth, true) by rw [hT]; simp [tyFin, k1, k2, k3]]
        refine rq ?_
        refine lbn (by exact .inr rfl) (by exact rfl) (by exact rfl) (by exact rfl) (by exact rfl) [] trivial (l' := (Ty.truth).c) (by exact laX _) (by exact .le (.refl _)) (by exact zo) (by exact rfl) (by exact ⟨⟨zo, zo, zo⟩, zo, zo⟩) (by exact zo) (by exact rfl)
      · obtain ⟨p, q, rfl⟩ := len2 (hkl.trans (by rw [el]; rfl))
        have rp := (lbv _).2 (hkr p (by simp))
        have rq' := (lbv _).2 (hkr q (by simp))
        have hr0 : (tyRows [p, q])[0]? = some p.c := by simp [tyRows, Ty.cells_c]
        have hr1 : (tyRows [p, q])[1]? = some q.c := by simp [tyRows, Ty.cells_c]
        have k1 : (a.k == 1) = false := by rw [beq_eq_false_iff_ne]; omega
        have k2 : (a.k == 2) = false := by rw [beq_eq_false_iff_ne]; omega
        have k3 : (a.k == 3) = false := by rw [beq_eq_false_iff_ne]; omega
        have k6 : (a.k == 6) = false := by rw [beq_eq_false_iff_ne]; omega
        have k7 : (a.k == 7) = false := by rw [beq_eq_false_iff_ne]; omega
        have s1 := ldo p .num rp rfl
        have s2 := ldo q .num rq' rfl
        rcases e with e | e | e
        · have k4 : (a.k == 4) = true := by rw [e]; rfl
          cases hp : p.fits .num with
          | false =>
            rw [hp] at s1
            refine zaF ?_;refine zQ ?_;refine zV lac ?_;refine zV lab ?_;refine zn ?_;refine zaF ?_;refine zQ ?_;refine zV lac ?_;refine zV lab ?_;refine zn ?_;refine zaF ?_;refine zQ ?_;refine zV lac ?_;refine zV lab ?_;refine zn ?_;refine zaT ?_;refine zq ?_;refine zRD ?_;refine zV laj ?_;refine zV laa ?_;refine zV (lap _) ?_;refine zV lao ?_;refine zV laj ?_
            refine zV (lal s1 rfl (by refine zC2 ?_;refine zC2 ?_;exact rfl)) ?_
            refine zV laa ?_;refine zs ?_;refine zs ?_;refine zs ?_;refine zs ?_;refine zs ?_;refine zV law ?_;refine zE laf ?_;refine zV lab ?_;refine znD ?_;refine zre ?_
            rw [show tyT a env = (.num, false) by rw [hT]; simp [tyFin, k1, k2, k3, k4, getT, hp]]
            refine rq ?_
            refine lbn (by exact .inr rfl) (by exact rfl) (by exact rfl) (by exact rfl) (by exact rfl) [] trivial (l' := (Ty.num).c) (by exact laX _) (by exact .le (.refl _)) (by exact zo) (by exact rfl) (by exact ⟨⟨zo, zo, zo⟩, zo, zo⟩) (by exact zo) (by exact rfl)
          | true =>
            rw [hp] at s1
            refine zaF ?_;refine zQ ?_;refine zV lac ?_;refine zV lab ?_;refine zn ?_;refine zaF ?_;refine zQ ?_;refine zV lac ?_;refine zV lab ?_;refine zn ?_;refine zaF ?_;refine zQ ?_;refine zV lac ?_;refine zV lab ?_;refine zn ?_;refine zaT ?_;refine zq ?_;refine zRD ?_;refine zV laj ?_;refine zV laa ?_;refine zV (lap _) ?_;refine zV lao ?_;refine zV laj ?_
            refine zV (lal s1 rfl (by refine zC2 ?_;refine zC2 ?_;exact rfl)) ?_
            refine zV laa ?_;refine zI laa ?_;refine zI (lap _) ?_;refine zI lao ?_;refine zI laj ?_
            refine zI (lal s2 rfl (by refine zC2 ?_;refine zC2 ?_;exact rfl)) ?_
            refine zV laA ?_;refine zE laf ?_;refine zV lab ?_;refine znD ?_;refine zre ?_
            rw [show tyT a env = (.num, q.fits .num) by rw [hT]; simp [tyFin, k1, k2, k3, k4, getT, hp]]
            refine rq ?_
            refine lbn (by exact .inr rfl) (by exact rfl) (by exact rfl) (by exact rfl) (by exact rfl) [] trivial (l' := (Ty.num).c) (by exact laX _) (by exact .le (.refl _)) (by exact zo) (by exact rfl) (by exact ⟨⟨zo, zo, zo⟩, zo, zo⟩) (by exact zo) (by exact rfl)
        · have k4 : (a.k == 4) = false := by rw [e]; rfl
          have k5 : (a.k == 5) = true := by rw [e]; rfl
          cases hp : p.fits .num with
          | false =>
            rw [hp] at s1
            refine zaF ?_;refine zQ ?_;refine zV lac ?_;refine zV lab ?_;refine zn ?_;refine zaF ?_;refine zQ ?_;refine zV lac ?_;refine zV lab ?_;refine zn ?_;refine zaF ?_;refine zQ ?_;refine zV lac ?_;refine zV lab ?_;refine zn ?_;refine zaF ?_;refine zQ ?_;refine zV lac ?_;refine zV lab ?_;refine zn ?_;refine zaT ?_;refine zq ?_;refine zRD ?_;refine zV laj ?_;refine zV laa ?_;refine zV (lap _) ?_;refine zV lao ?_;refine zV laj ?_
            refine zV (lal s1 rfl (by refine zC2 ?_;refine zC2 ?_;exact rfl)) ?_
            refine zV laa ?_;refine zs ?_;refine zs ?_;refine zs ?_;refine zs ?_;refine zs ?_;refine zV law ?_;refine zE laf ?_;refine zV lab ?_;refine znD ?_;refine zre ?_
            rw [show tyT a env = (.truth, false) by rw [hT]; simp [tyFin, k1, k2, k3, k4, k5, getT, hp]]
            refine rq ?_
            refine lbn (by exact .inr rfl) (by exact rfl) (by exact rfl) (by exact rfl) (by exact rfl) [] trivial (l' := (Ty.truth).c) (by exact laX _) (by exact .le (.refl _)) (by exact zo) (by exact rfl) (by exact ⟨⟨zo, zo, zo⟩, zo, zo⟩) (by exact zo) (by exact rfl)
          | true =>
            rw [hp] at s1
            refine zaF ?_;refine zQ ?_;refine zV lac ?_;refine zV lab ?_;refine zn ?_;refine zaF ?_;refine zQ ?_;refine zV lac ?_;refine zV lab ?_;refine zn ?_;refine zaF ?_;refine zQ ?_;refine zV lac ?_;refine zV lab ?_;refine zn ?_;refine zaF ?_;refine zQ ?_;refine zV lac ?_;refine zV lab ?_;refine zn ?_;refine zaT ?_;refine zq ?_;refine zRD ?_;refine zV laj ?_;refine zV laa ?_;refine zV (lap _) ?_;refine zV lao ?_;refine zV laj ?_
            refine zV (lal s1 rfl (by refine zC2 ?_;refine zC2 ?_;exact rfl)) ?_
            refine zV laa ?_;refine zI laa ?_;refine zI (lap _) ?_;refine zI lao ?_;refine zI laj ?_
            refine zI (lal s2 rfl (by refine zC2 ?_;refine zC2 ?_;exact rfl)) ?_
            refine zV laA ?_;refine zE laf ?_;refine zV lab ?_;refine znD ?_;refine zre ?_
            rw [show tyT a env = (.truth, q.fits .num) by rw [hT]; simp [tyFin, k1, k2, k3, k4, k5, getT, hp]]
            refine rq ?_
            refine lbn (by exact .inr rfl) (by exact rfl) (by exact rfl) (by exact rfl) (by exact rfl) [] trivial (l' := (Ty.truth).c) (by exact laX _) (by exact .le (.refl _)) (by exact zo) (by exact rfl) (by exact ⟨⟨zo, zo, zo⟩, zo, zo⟩) (by exact zo) (by exact rfl)
        · have k4 : (a.k == 4) = false := by rw [e]; rfl
          have k5 : (a.k == 5) = false := by rw [e]; rfl
          have k8 : (a.k == 8) = true := by rw [e]; rfl
          cases p0 : (p.k == 0) with
          | true =>
            refine zaF ?_;refine zQ ?_;refine zV lac ?_;refine zV lab ?_;refine zn ?_;refine zaF ?_;refine zQ ?_;refine zV lac ?_;refine zV lab ?_;refine zn ?_;refine zaF ?_;refine zQ ?_;refine zV lac ?_;refine zV lab ?_;refine zn ?_;refine zaF ?_;refine zQ ?_;refine zV lac ?_;refine zV lab ?_;refine zn ?_;refine zaF ?_;refine zQ ?_;refine zV lac ?_;refine zV lab ?_;refine zn ?_;refine zaF ?_;refine zQ ?_;refine zV lac ?_;refine zV lab ?_;refine zn ?_;refine zaF ?_;refine zQ ?_;refine zV lac ?_;refine zV lab ?_;refine zn ?_;refine zaT ?_;refine zq (zQ ?_);refine zV laa ?_;refine zV (lap _) ?_;refine zV lak ?_;refine zV lai ?_;refine zV lac ?_;refine zn ?_;refine zaT ?_;refine zQ ?_
            refine zV (lal lb1) ?_
            refine zE laf ?_;refine zV lab ?_;refine zn (zre ?_)
            rw [show tyT a env = (.any, true) by rw [hT]; simp [tyFin, k1, k2, k3, k4, k5, k6, k7, k8, getT, p0]]
            refine rq ?_
            refine lbn (by exact .inr rfl) (by exact rfl) (by exact rfl) (by exact rfl) (by exact rfl) [] trivial (l' := (Ty.any).c) (by exact laX _) (by exact .le (.refl _)) (by exact zo) (by exact rfl) (by exact ⟨⟨zo, zo, zo⟩, zo, zo⟩) (by exact zo) (by exact rfl)
          | false =>
          cases p3 : (p.k != 3) with
          | true =>
            refine zaF ?_;refine zQ ?_;refine zV lac ?_;refine zV lab ?_;refine zn ?_;refine zaF ?_;refine zQ ?_;refine zV lac ?_;refine zV lab ?_;refine zn ?_;refine zaF ?_;refine zQ ?_;refine zV lac ?_;refine zV lab ?_;refine zn ?_;refine zaF ?_;refine zQ ?_;refine zV lac ?_;refine zV lab ?_;refine zn ?_;refine zaF ?_;refine zQ ?_;refine zV lac ?_;refine zV lab ?_;refine zn ?_;refine zaF ?_;refine zQ ?_;refine zV lac ?_;refine zV lab ?_;refine zn ?_;refine zaF ?_;refine zQ ?_;refine zV lac ?_;refine zV lab ?_;refine zn ?_;refine zaT ?_;refine zq (zQ ?_);refine zV laa ?_;refine zV (lap _) ?_;refine zV lak ?_;refine zV lai ?_;refine zV lac ?_;refine zn ?_;refine zaF ?_;refine zsk (zq (zQ ?_));refine zV laa ?_;refine zV (lap _) ?_;refine zV lak ?_;refine zV lai ?_;refine zV lac ?_;refine zn ?_;refine zaT ?_;refine zQ ?_
            refine zV (lal lb1) ?_
            refine zE laf ?_;refine zV lab ?_;refine zn (zre ?_)
            rw [show tyT a env = (.any, false) by rw [hT]; simp only [tyFin, k1, k2, k3, k4, k5, k6, k7, k8, getT, p0, p3, List.getD_cons_zero, if_true, if_false, Bool.false_eq_true]]
            refine rq ?_
            refine lbn (by exact .inr rfl) (by exact rfl) (by exact rfl) (by exact rfl) (by exact rfl) [] trivial (l' := (Ty.any).c) (by exact laX _) (by exact .le (.refl _)) (by exact zo) (by exact rfl) (by exact ⟨⟨zo, zo, zo⟩, zo, zo⟩) (by exact zo) (by exact rfl)
          | false =>
            have p3' : p.k = 3 := by simpa using p3
            obtain ⟨c, d, hcd⟩ := len2 ((hkr p (by simp)).two p3')
            have rc := (lbv _).2 ((hkr p (by simp)).part c (by rw [hcd]; simp))
            have rd := (lbv _).2 ((hkr p (by simp)).part d (by rw [hcd]; simp))
            have hq0 : (tyRows p.l)[0]? = some c.c := by rw [hcd]; simp [tyRows, Ty.cells_c]
            have hq1 : (tyRows p.l)[1]? = some d.c := by rw [hcd]; simp [tyRows, Ty.cells_c]
            refine zaF ?_;refine zQ ?_;refine zV lac ?_;refine zV lab ?_;refine zn ?_;refine zaF ?_;refine zQ ?_;refine zV lac ?_;refine zV lab ?_;refine zn ?_;refine zaF ?_;refine zQ ?_;refine zV lac ?_;refine zV lab ?_;refine zn ?_;refine zaF ?_;refine zQ ?_;refine zV lac ?_;refine zV lab ?_;refine zn ?_;refine zaF ?_;refine zQ ?_;refine zV lac ?_;refine zV lab ?_;refine zn ?_;refine zaF ?_;refine zQ ?_;refine zV lac ?_;refine zV lab ?_;refine zn ?_;refine zaF ?_;refine zQ ?_;refine zV lac ?_;refine zV lab ?_;refine zn ?_;refine zaT ?_;refine zq (zQ ?_);refine zV laa ?_;refine zV (lap _) ?_;refine zV lak ?_;refine zV lai ?_;refine zV lac ?_;refine zn ?_;refine zaF ?_;refine zsk (zq (zQ ?_));refine zV laa ?_;refine zV (lap _) ?_;refine zV lak ?_;refine zV lai ?_;refine zV lac ?_;refine zn ?_;refine zaF ?_;refine zsk (zq ?_);refine zRD ?_;refine zV laa ?_;refine zV (lap _) ?_;refine zV lak ?_;refine zV lai ?_;refine zV (lap _) ?_;refine zV lao ?_;refine zV laa ?_;refine zV (lap _) ?_;refine zV lao ?_;refine zV laa ?_;refine zV (lap _) ?_;refine zV lak ?_;refine zV lai ?_;refine zV (lap _) ?_;refine zV lao ?_
            refine zV (lal (ldo q c rq' rc) rfl (by refine zC2 ?_;refine zC2 ?_;exact rfl)) ?_
            refine zE laf ?_;refine zV lab ?_;refine znD ?_;refine zre ?_
            rw [show tyT a env = (d, q.fits c) by rw [hT]; simp only [tyFin, k1, k2, k3, k4, k5, k6, k7, k8, getT, p0, p3, hcd, List.getD_cons_zero, List.getD_cons_succ, if_true, if_false, Bool.false_eq_true]]
            refine rq ?_
            refine lbn (by exact .inr rfl) (by exact rfl) (by exact rfl) (by exact rfl) (by exact rfl) [] trivial (l' := (d).c) (by exact laX _) (by exact .le (.refl _)) (by exact zo) (by exact rfl) (by exact ⟨⟨zo, zo, zo⟩, zo, zo⟩) (by exact zo) (by exact rfl)
      · obtain ⟨p, q, r, rfl⟩ := len3 (hkl.trans (by rw [el]; rfl))
        have rp := (lbv _).2 (hkr p (by simp))
        have rq' := (lbv _).2 (hkr q (by simp))
        have rr := (lbv _).2 (hkr r (by simp))
        have hr0 : (tyRows [p, q, r])[0]? = some p.c := by simp [tyRows, Ty.cells_c]
        have hr1 : (tyRows [p, q, r])[1]? = some q.c := by simp [tyRows, Ty.cells_c]
        have hr2 : (tyRows [p, q, r])[2]? = some r.c := by simp [tyRows, Ty.cells_c]
        have k1 : (a.k == 1) = false := by rw [e]; rfl
        have k2 : (a.k == 2) = false := by rw [e]; rfl
        have k3 : (a.k == 3) = false := by rw [e]; rfl
        have k4 : (a.k == 4) = false := by rw [e]; rfl
        have k5 : (a.k == 5) = false := by rw [e]; rfl
        have k6 : (a.k == 6) = true := by rw [e]; rfl
        have s1 := ldo p .truth rp rfl
        have s2 := ldo q r rq' rr
        have s3 := joinOf_a q r rq' rr
        cases hp : p.fits .truth with
        | false =>
          rw [hp] at s1
          refine zaF ?_;refine zQ ?_;refine zV lac ?_;refine zV lab ?_;refine zn ?_;refine zaF ?_;refine zQ ?_;refine zV lac ?_;refine zV lab ?_;refine zn ?_;refine zaF ?_;refine zQ ?_;refine zV lac ?_;refine zV lab ?_;refine zn ?_;refine zaF ?_;refine zQ ?_;refine zV lac ?_;refine zV lab ?_;refine zn ?_;refine zaF ?_;refine zQ ?_;refine zV lac ?_;refine zV lab ?_;refine zn ?_;refine zaT ?_;refine zq ?_;refine zRD ?_;refine zV laa ?_;refine zV (lap _) ?_;refine zV lao ?_;refine zV laa ?_;refine zV (lap _) ?_;refine zV lao ?_
          refine zV (lal s3 rfl (by refine zC2 ?_;refine zC2 ?_;exact rfl)) ?_
          refine zV laa ?_;refine zV (lap _) ?_;refine zV lao ?_;refine zV laj ?_
          refine zV (lal s1 rfl (by refine zC2 ?_;refine zC2 ?_;exact rfl)) ?_
          refine zV laa ?_;refine zs ?_;refine zs ?_;refine zs ?_;refine zs ?_;refine zs ?_;refine zs ?_;refine zs ?_;refine zV law ?_;refine zE laf ?_;refine zV lab ?_;refine znD ?_;refine zre ?_
          rw [show tyT a env = (q.join r, false) by rw [hT]; simp [tyFin, k1, k2, k3, k4, k5, k6, getT, hp]]
          refine rq ?_
          refine lbn (by exact .inr rfl) (by exact rfl) (by exact rfl) (by exact rfl) (by exact rfl) [] trivial (l' := (q.join r).c) (by exact laX _) (by exact .le (.refl _)) (by exact zo) (by exact rfl) (by exact ⟨⟨zo, zo, zo⟩, zo, zo⟩) (by exact zo) (by exact rfl)
        | true =>
          rw [hp] at s1
          refine zaF ?_;refine zQ ?_;refine zV lac ?_;refine zV lab ?_;refine zn ?_;refine zaF ?_;refine zQ ?_;refine zV lac ?_;refine zV lab ?_;refine zn ?_;refine zaF ?_;refine zQ ?_;refine zV lac ?_;refine zV lab ?_;refine zn ?_;refine zaF ?_;refine zQ ?_;refine zV lac ?_;refine zV lab ?_;refine zn ?_;refine zaF ?_;refine zQ ?_;refine zV lac ?_;refine zV lab ?_;refine zn ?_;refine zaT ?_;refine zq ?_;refine zRD ?_;refine zV laa ?_;refine zV (lap _) ?_;refine zV lao ?_;refine zV laa ?_;refine zV (lap _) ?_;refine zV lao ?_
          refine zV (lal s3 rfl (by refine zC2 ?_;refine zC2 ?_;exact rfl)) ?_
          refine zV laa ?_;refine zV (lap _) ?_;refine zV lao ?_;refine zV laj ?_
          refine zV (lal s1 rfl (by refine zC2 ?_;refine zC2 ?_;exact rfl)) ?_
          refine zV laa ?_;refine zI laa ?_;refine zI (lap _) ?_;refine zI lao ?_;refine zI laa ?_;refine zI (lap _) ?_;refine zI lao ?_
          refine zI (lal s2 rfl (by refine zC2 ?_;refine zC2 ?_;exact rfl)) ?_
          refine zV laA ?_;refine zE laf ?_;refine zV lab ?_;refine znD ?_;refine zre ?_
          rw [show tyT a env = (q.join r, q.fits r) by rw [hT]; simp [tyFin, k1, k2, k3, k4, k5, k6, getT, hp]]
          refine rq ?_
          refine lbn (by exact .inr rfl) (by exact rfl) (by exact rfl) (by exact rfl) (by exact rfl) [] trivial (l' := (q.join r).c) (by exact laX _) (by exact .le (.refl _)) (by exact zo) (by exact rfl) (by exact ⟨⟨zo, zo, zo⟩, zo, zo⟩) (by exact zo) (by exact rfl)
      · obtain ⟨p, rfl⟩ := len1 (hkl.trans (by rw [el]; rfl))
        have hr0 : (tyRows [p])[0]? = some p.c := by simp [tyRows, Ty.cells_c]
        have k1 : (a.k == 1) = false := by rw [e]; rfl
        have k2 : (a.k == 2) = false := by rw [e]; rfl
        have k3 : (a.k == 3) = false := by rw [e]; rfl
        have k4 : (a.k == 4) = false := by rw [e]; rfl
        have k5 : (a.k == 5) = false := by rw [e]; rfl
        have k6 : (a.k == 6) = false := by rw [e]; rfl
        have k7 : (a.k == 7) = true := by rw [e]; rfl
        refine zaF ?_;refine zQ ?_;refine zV lac ?_;refine zV lab ?_;refine zn ?_;refine zaF ?_;refine zQ ?_;refine zV lac ?_;refine zV lab ?_;refine zn ?_;refine zaF ?_;refine zQ ?_;refine zV lac ?_;refine zV lab ?_;refine zn ?_;refine zaF ?_;refine zQ ?_;refine zV lac ?_;refine zV lab ?_;refine zn ?_;refine zaF ?_;refine zQ ?_;refine zV lac ?_;refine zV lab ?_;refine zn ?_;refine zaF ?_;refine zQ ?_;refine zV lac ?_;refine zV lab ?_;refine zn ?_;refine zaT ?_;refine zq ?_;refine zRD ?_;refine zV lad ?_;refine zV (laj rfl rfl (by exact Cut.cons (by exact rfl) (Cut.cons (by exact rfl) Cut.nil))) ?_;refine zV laa ?_;refine zV (lap _) ?_;refine zV lao ?_
        refine zV (lal (fun_a a.t p) rfl (by refine zC2 ?_;refine zC2 ?_;exact rfl)) ?_
        refine zE laf ?_;refine zV lab ?_;refine znD ?_;refine zre ?_
        rw [show tyT a env = (.to a.t p, true) by rw [hT]; simp [tyFin, k1, k2, k3, k4, k5, k6, k7, getT]]
        refine rq ?_
        refine lbn (by exact .inr rfl) (by exact rfl) (by exact rfl) (by exact rfl) (by exact rfl) [] trivial (l' := (Ty.to a.t p).c) (by exact laX _) (by exact .le (.refl _)) (by exact zo) (by exact rfl) (by exact ⟨⟨zo, zo, zo⟩, zo, zo⟩) (by exact zo) (by exact rfl)
      · obtain ⟨p, rfl⟩ := len1 (hkl.trans (by rw [el]; rfl))
        have rp := (lbv _).2 (hkr p (by simp))
        have rt := (lbv _).2 (hfr (.inr e))
        have hr0 : (tyRows [p])[0]? = some p.c := by simp [tyRows, Ty.cells_c]
        have k1 : (a.k == 1) = false := by rw [e]; rfl
        have k2 : (a.k == 2) = false := by rw [e]; rfl
        have k3 : (a.k == 3) = false := by rw [e]; rfl
        have k4 : (a.k == 4) = false := by rw [e]; rfl
        have k5 : (a.k == 5) = false := by rw [e]; rfl
        have k6 : (a.k == 6) = false := by rw [e]; rfl
        have k7 : (a.k == 7) = false := by rw [e]; rfl
        have k8 : (a.k == 8) = false := by rw [e]; rfl
        refine zaF ?_;refine zQ ?_;refine zV lac ?_;refine zV lab ?_;refine zn ?_;refine zaF ?_;refine zQ ?_;refine zV lac ?_;refine zV lab ?_;refine zn ?_;refine zaF ?_;refine zQ ?_;refine zV lac ?_;refine zV lab ?_;refine zn ?_;refine zaF ?_;refine zQ ?_;refine zV lac ?_;refine zV lab ?_;refine zn ?_;refine zaF ?_;refine zQ ?_;refine zV lac ?_;refine zV lab ?_;refine zn ?_;refine zaF ?_;refine zQ ?_;refine zV lac ?_;refine zV lab ?_;refine zn ?_;refine zaF ?_;refine zQ ?_;refine zV lac ?_;refine zV lab ?_;refine zn ?_;refine zaF ?_;refine zsk (zq ?_);refine zRD ?_;refine zV lad ?_;refine zV (laj rfl rfl (by exact Cut.cons (by exact rfl) (Cut.cons (by exact rfl) Cut.nil))) ?_;refine zV laa ?_;refine zV (lap _) ?_;refine zV lao ?_;refine zV lad ?_;refine zV (laj rfl rfl (by exact Cut.cons (by exact rfl) (Cut.cons (by exact rfl) Cut.nil))) ?_
        refine zV (lal (ldo p a.t rp rt) rfl (by refine zC2 ?_;refine zC2 ?_;exact rfl)) ?_
        refine zE laf ?_;refine zV lab ?_;refine znD ?_;refine zre ?_
        rw [show tyT a env = (a.t, p.fits a.t) by rw [hT]; simp [tyFin, k1, k2, k3, k4, k5, k6, k7, k8, getT]]
        refine rq ?_
        refine lbn (by exact .inr rfl) (by exact rfl) (by exact rfl) (by exact rfl) (by exact rfl) [] trivial (l' := (a.t).c) (by exact laX _) (by exact .le (.refl _)) (by exact zo) (by exact rfl) (by exact ⟨⟨zo, zo, zo⟩, zo, zo⟩) (by exact zo) (by exact rfl)
    | true =>
      have hil : i < a.l.length := by simp at hlt; omega
      have hr1 := lbJ hil
      have hmem : a.l[i] ∈ a.l := List.getElem_mem hil
      have hn3 := lb9 hmem
      have hgi := lbB hgl _ hmem
      have hc := ih a.l[i] hmem env' hgi hwr (by omega)
      rw [tyL_drop hil] at hinv
      cases hok : (tyT a.l[i] env').2 with
      | false =>
        rw [hok] at hc hinv
        refine zQ ?_;refine zV lac ?_;refine zn (zq ?_);refine zaT ?_;refine zsk (zq (zbl (zQ ?_)));refine zV (lap _) ?_;refine zV lao ?_;refine zM lah ?_;refine zE laf ?_;refine zn (zQ ?_);refine zV laj ?_;refine zV laa ?_
        refine zV (lal hc rfl (by refine zC7 ?_;refine zC ?_;exact rfl)) ?_
        refine zV laB ?_;refine zV las ?_;refine zV lar ?_;refine zM lah ?_;refine zE laf ?_;refine zV lab ?_;refine zn (zq (zQ ?_));refine zV laa ?_;refine zV laz ?_;refine zn ?_;refine zcT ?_;refine zQ ?_
        refine zV (lal lb1) ?_
        refine zE laf ?_;refine zV lab ?_;refine zn (zre ?_)
        rw [show tyT a env = (.any, false) by rw [hT, hinv]; rfl]
        refine rq ?_
        refine lbn (by exact .inr rfl) (by exact rfl) (by exact rfl) (by exact rfl) (by exact rfl) [] trivial (l' := (Ty.any).c) (by exact laX _) (by exact .le (.refl _)) (by exact zo) (by exact rfl) (by exact ⟨⟨zo, zo, zo⟩, zo, zo⟩) (by exact zo) (by exact rfl)
      | true =>
        have hrt := ty_right hgi hwr hok
        rw [hok] at hc hinv
        generalize (tyT a.l[i] env').1 = ty at *
        refine zQ ?_;refine zV lac ?_;refine zn (zq ?_);refine zaT ?_;refine zsk (zq (zbl (zQ ?_)));refine zV (lap _) ?_;refine zV lao ?_;refine zM lah ?_;refine zE laf ?_;refine zn (zQ ?_);refine zV laj ?_;refine zV laa ?_
        refine zV (lal hc rfl (by refine zC7 ?_;refine zC ?_;exact rfl)) ?_
        refine zV laB ?_;refine zV las ?_;refine zV lar ?_;refine zM lah ?_;refine zE laf ?_;refine zV lab ?_;refine zn (zq (zQ ?_));refine zV laa ?_;refine zV laz ?_;refine zn ?_;refine zcF ?_;refine zsk (zR ?_);refine zV laa ?_;refine zV laj ?_;refine zV laF ?_
        refine zM (laK (by exact rfl) (by exact rfl) (by exact rfl) (by exact .inl rfl) (by exact htk) (by exact ⟨rfl, zo⟩) (by simp only [List.length_cons, List.length_nil]; omega)) ?_
        have hrows : tyRows ks ++ [ty.c] = tyRows (ks ++ [ty]) := by
          rw [lcb]; simp [tyRows, Ty.cells_c]
        rw [hrows]
        refine zV lab ?_;refine zn (zR ?_);refine zV laD ?_;refine zV laa ?_;refine zn ?_
        exact ⟨a.l.length - (i + 1), _, _, by omega, (laZ [(1, .one (slOf 2 (tyRows env))), (2, .one (.ptr 2 0)), (4, .one (.ptr 4 0)), (5, .one (.bool false)), (6, .one (.ptr 6 0)), (7, .one (.ptr 7 0)), (8, .one (.own 105 ((i + 1)) ((i + 1)))), (9, .one (slOf 2 (tyRows (env')))), (26, .one (slOf 7 (tmRows a.l))), (27, .one (.int .i64 ((tmRows a.l).length : Nat))), (28, .one (.int .i64 (((i + 1) : Nat) : Int)))] [(2, .obj a.c), (4, .obj Ty.any.c), (6, .obj Ty.num.c), (7, .obj Ty.truth.c), (105, .row 24 2 ((i + 1)) (tyRows ((ks ++ [ty]))))] [] [] ⟨(by exact WkU.of_eq rfl zo), (zw rfl zo), (zw rfl zo), (zw rfl zo), (zw rfl zo), (zw rfl zo), (by exact WkU.of_eq rfl zo), (by exact WkU.of_eq rfl zo), (by exact WkU.of_eq rfl zo), (zw rfl zo), (zw rfl zo), zo⟩ ⟨(by exact zb rfl), (by exact zb rfl), (by exact zb rfl), (by exact zb rfl), (by exact zb rfl), zo⟩ trivial zo rfl rfl ⟨zo, ⟨_, rfl⟩, ⟨_, rfl⟩, zo, ⟨_, rfl⟩, ⟨_, rfl⟩, ⟨_, _, _, _, rfl, Nat.le_refl _⟩, zo, zo, zo, zo, zo⟩ ⟨(by exact ⟨zo, zo, zo, zo, zo, zo, zo, zo⟩), (by exact ⟨zo, zo, zo⟩), (by exact ⟨zo, zo, zo⟩), (by exact ⟨zo, zo, zo⟩), (laY (by exact la9 _)), zo⟩), i + 1, ks ++ [ty], by omega, rfl, by simp [hks], by
          intro x hx
          rcases List.mem_append.1 hx with hx | hx
          · exact hkr x hx
          · rw [List.mem_singleton.1 hx]; exact hrt, by
          rw [hinv, if_pos rfl]; cases tyL (a.l.drop (i + 1)) env' <;> simp, rfl, rfl⟩
theorem tyL_kinds : ∀ {l : List Tm} {env ks : List Ty}, tyL l env = some ks → ks = kindsR l env ∧ ∀ x ∈ l, (tyT x env).2 = true
  | [], env, ks, h => by simp only [tyL] at h; cases h; exact ⟨rfl, fun x hx => by cases hx⟩
  | a :: l, env, ks, h => by
    simp only [tyL] at h
    split at h
    · rename_i ha
      cases hl : tyL l env with
      | none => rw [hl] at h; cases h
      | some q =>
        rw [hl] at h; cases h
        obtain ⟨h1, h2⟩ := tyL_kinds hl
        refine ⟨by rw [h1]; rfl, fun x hx => ?_⟩
        rcases List.mem_cons.1 hx with rfl | hx
        · exact ha
        · exact h2 x hx
    · cases h
theorem tyT_parts {a : Tm} {env : List Ty} (h : (tyT a env).2 = true) : tyL a.l (within a env) = some (kindsR a.l (within a env)) ∧ ∀ x ∈ a.l, (tyT x (within a env)).2 = true := by
  rw [lcs] at h
  cases hl : tyL a.l (within a env) with
  | none => rw [hl] at h; cases h
  | some ks =>
    obtain ⟨h1, h2⟩ := tyL_kinds hl
    exact ⟨by rw [h1], h2⟩
theorem ldV (l : List Tm) (env : List Ty) : (kindsR l env).length = l.length := by simp [kindsR]
theorem kindsR_take {l : List Tm} {i : Nat} (h : i < l.length) (env : List Ty) : kindsR (l.take (i + 1)) env = kindsR (l.take i) env ++ [(tyT l[i] env).1] := by
  unfold kindsR; rw [List.take_add_one, List.getElem?_eq_getElem h, Option.toList_some, List.map_append]; rfl
theorem getT_get {l : List Ty} {i : Nat} (h : i < l.length) : getT l i = l[i] := by simp [getT, List.getD_eq_getElem?_getD, h]
theorem wcL_step {l : List Tm} {i : Nat} (h : i < l.length) {hs ws : List Ty} (h1 : i < hs.length) (h2 : i < ws.length) (env : List Ty) (m : Int) : wcL (l.drop i) (hs.drop i) (ws.drop i) env m = asT (wcT l[i] env m) hs[i] ws[i] m :: wcL (l.drop (i + 1)) (hs.drop (i + 1)) (ws.drop (i + 1)) env (m + l[i].nodes) := by
  rw [wcL_drop h, getT_get h1, getT_get h2]
set_option maxHeartbeats 8000000 in
theorem withCasts_a : ∀ (a : Tm) (env : List Ty) (m : Int), a.good 0 env.length = true → (∀ t ∈ env, Right t) → (tyT a env).2 = true → 0 ≤ m → m + a.nodes ≤ 1048576 → env.length + a.nodes ≤ 1048576 →
    ACalls Tryz.prog 40 [a.u, .one (slOf 2 (tyRows env)), .one (.int .i64 m)] [] (wcT a env m).u [] := by
  intro a
  induction a using Tm.ind' with
  | h a ih =>
  intro env m hg he hty h0 hsz hsz2
  have hne := lbt a
  have hE := la2 env
  have hL := la7 a.l
  have hnn := lb3 a.l
  have hg2 := hg
  rw [lbd, Bool.and_eq_true] at hg2
  have hfr := lcp hg2.1
  have hwr := lcv (fun h7 => hfr (.inl h7)) he
  have hgl := hg2.2
  rw [← ldi] at hgl
  have hwl : (within a env).length ≤ env.length + 1 := by unfold within; split <;> simp
  refine zB Tryz.func40 ?_
  refine zQ ?_;refine zM lan ?_;refine zM lah ?_;refine zn (zQ ?_);refine zV laq ?_;refine zM lah ?_;refine zE laf ?_;refine zn (zQ ?_);refine zV laa ?_;refine zV lab ?_;refine zn (zq (zQ ?_));refine zV lad ?_;refine zV lae ?_;refine zV lac ?_;refine zn ?_
  refine AW.midB (fun t h => t = tOfL [(2, .one (.int .i64 m)), (3, .one (.ptr 3 0)), (6, .one (.ptr 6 0)), (7, .one (.ptr 7 0)), (8, .one (slOf 2 (tyRows (within a env))))] ∧ h = ofL [(3, .obj a.c), (6, .obj Tm.zero.c), (7, .obj Ty.num.c)]) ?_ ?_
  · cases h7 : (a.k == 7) with
    | false =>
      refine zcF ?_;refine zsk ?_
      rw [show within a env = env by unfold within; rw [h7]; rfl]
      exact ⟨_, _, (laZ [(2, .one (.int .i64 m)), (3, .one (.ptr 3 0)), (6, .one (.ptr 6 0)), (7, .one (.ptr 7 0)), (8, .one (slOf 2 (tyRows (env))))] [(3, .obj a.c), (6, .obj Tm.zero.c), (7, .obj Ty.num.c)] [] [] ⟨(zw rfl zo), (zw rfl zo), (zw rfl zo), (zw rfl zo), (by exact WkU.of_eq rfl zo), zo⟩ ⟨(by exact zb rfl), (by (refine Or.inl ⟨_, rfl, ?_⟩; show All2 _ _ _; exact ⟨WkC.le (LeC.refl _), WkC.le (LeC.refl _), WkC.le (LeC.refl _), WkC.le (LeC.nil _), WkC.le (LeC.refl _), WkC.le (LeC.nil _), WkC.le (LeC.nil _), zo⟩)), (by (refine Or.inl ⟨_, rfl, ?_⟩; show All2 _ _ _; exact ⟨WkC.le (LeC.refl _), WkC.le (LeC.nil _), zo⟩)), zo⟩ trivial zo rfl rfl ⟨zo, ⟨_, rfl⟩, ⟨_, rfl⟩, ⟨_, rfl⟩, zo, zo⟩ ⟨(by exact ⟨zo, zo, zo, zo, zo, zo, zo, zo⟩), (by exact ⟨zo, zo, zo, zo, zo, zo, zo, zo⟩), (by exact ⟨zo, zo, zo⟩), zo⟩), rfl, rfl⟩
    | true =>
      rw [show within a env = a.t :: env by unfold within; rw [h7]; rfl]
      have hx : tyRows (a.t :: env) = [a.t.c] ++ tyRows env := by simp [tyRows, Ty.cells_c]
      rw [hx]
      by_cases hee : env = []
      · have hxr : tyRows env = [] := by rw [hee]; rfl
        refine zcT ?_;refine zR ?_;refine zV lad ?_;refine zV (laj rfl rfl (by exact Cut.cons (by exact rfl) (Cut.cons (by exact rfl) Cut.nil))) ?_;refine zV laF ?_;refine zV laa ?_
        refine zV (ldt (rows := [a.t.c]) (k := 2) (c := slOf 2 (tyRows env)) (c0 := slFOf 2 [a.t.c]) (by exact rfl) (by exact rfl) (by exact .inl rfl) (by rw [hxr];exact .inr (.inl rfl)) (by intro r hr; rw [List.mem_singleton.1 hr]; rfl)) ?_
        refine zV lab ?_;refine zn ?_
        rw [show ([a.t.c] ++ tyRows env) = [a.t.c] by rw [hxr]; rfl]
        exact ⟨_, _, (laZ [(2, .one (.int .i64 m)), (3, .one (.ptr 3 0)), (6, .one (.ptr 6 0)), (7, .one (.ptr 7 0)), (8, .one (slOf 2 [a.t.c]))] [(3, .obj a.c), (6, .obj Tm.zero.c), (7, .obj Ty.num.c)] [] [] ⟨(zw rfl zo), (zw rfl zo), (zw rfl zo), (zw rfl zo), (by exact WkC.le (LeC.slF (LeRows.refl _))), zo⟩ ⟨(by exact zb rfl), (by (refine Or.inl ⟨_, rfl, ?_⟩; show All2 _ _ _; exact ⟨WkC.le (LeC.refl _), WkC.le (LeC.refl _), WkC.le (LeC.refl _), WkC.le (LeC.nil _), WkC.le (LeC.refl _), WkC.le (LeC.nil _), WkC.le (LeC.nil _), zo⟩)), (by (refine Or.inl ⟨_, rfl, ?_⟩; show All2 _ _ _; exact ⟨WkC.le (LeC.refl _), WkC.le (LeC.nil _), zo⟩)), zo⟩ trivial zo rfl rfl ⟨zo, ⟨_, rfl⟩, ⟨_, rfl⟩, ⟨_, rfl⟩, zo, zo⟩ ⟨(by exact ⟨zo, zo, zo, zo, zo, zo, zo, zo⟩), (by exact ⟨zo, zo, zo, zo, zo, zo, zo, zo⟩), (by exact ⟨zo, zo, zo⟩), zo⟩), rfl, rfl⟩
      · refine zcT ?_; refine zR ?_; refine zV lad ?_; refine zV (laj rfl rfl (by exact Cut.cons (by exact rfl) (Cut.cons (by exact rfl) Cut.nil))) ?_; refine zV laF ?_; refine zV laa ?_
        refine zM (ldI (rows := [a.t.c]) (news := tyRows env) (by exact rfl) (by exact rfl) (by exact .inl rfl) (by exact .inr (.inl rfl)) (by intro h; apply hee; have := congrArg List.length h; rw [la2] at this;exact List.length_eq_zero_iff.1 this) (lbh.2 (ldJ _)) (by intro r hr; rw [List.mem_singleton.1 hr]; rfl) (by exact rfl) (by exact rfl) (by simp only [List.length_cons, List.length_nil, hE]; omega) (by decide)) ?_
        refine zV lab ?_;refine zn ?_
        exact ⟨_, _, (laZ [(2, .one (.int .i64 m)), (3, .one (.ptr 3 0)), (6, .one (.ptr 6 0)), (7, .one (.ptr 7 0)), (8, .one (slOf 2 ([a.t.c] ++ tyRows env)))] [(3, .obj a.c), (6, .obj Tm.zero.c), (7, .obj Ty.num.c)] [30] [] ⟨(zw rfl zo), (zw rfl zo), (zw rfl zo), (zw rfl zo), (by exact WkC.row (List.mem_cons_self ..) rfl (by exact List.length_append ..) (by exact LeRows.refl _)), zo⟩ ⟨(by exact zb rfl), (by (refine Or.inl ⟨_, rfl, ?_⟩; show All2 _ _ _; exact ⟨WkC.le (LeC.refl _), WkC.le (LeC.refl _), WkC.le (LeC.refl _), WkC.le (LeC.nil _), WkC.le (LeC.refl _), WkC.le (LeC.nil _), WkC.le (LeC.nil _), zo⟩)), (by (refine Or.inl ⟨_, rfl, ?_⟩; show All2 _ _ _; exact ⟨WkC.le (LeC.refl _), WkC.le (LeC.nil _), zo⟩)), zo⟩ ⟨⟨_, rfl, (by show closedRows ([a.t.c] ++ tyRows env) = true; rw [← hx]; exact la9 _)⟩, zo⟩ trivial rfl rfl ⟨zo, ⟨_, rfl⟩, ⟨_, rfl⟩, ⟨_, rfl⟩, zo, zo⟩ ⟨(by exact ⟨zo, zo, zo, zo, zo, zo, zo, zo⟩), (by exact ⟨zo, zo, zo, zo, zo, zo, zo, zo⟩), (by exact ⟨zo, zo, zo⟩), zo⟩), rfl, rfl⟩
  · rintro t h ⟨rfl, rfl⟩
    have hT := tyT_parts hty
    have hW := lfI a env m
    generalize henv : within a env = env' at *
    obtain ⟨hT, hTk⟩ := hT
    have hkr : ∀ x ∈ kindsR a.l env', Right x := by
      intro x hx
      obtain ⟨b, hb, rfl⟩ := List.mem_map.1 hx
      exact ty_right (lbB hgl b hb) hwr (hTk b hb)
    refine zQ ?_;refine zV lab ?_;refine zV lab ?_;refine zn (zq (zQ ?_));refine zV lad ?_;refine zV lae ?_;refine zV lay ?_;refine zV laa ?_;refine zn (zbl ?_)
    refine AW.gh (laZ [(2, .one (.int .i64 m)), (3, .one (.ptr 3 0)), (6, .one (.ptr 6 0)), (7, .one (.ptr 7 0)), (8, .one (slOf 2 (tyRows (env')))), (9, .one (.own 105 0 0)), (10, .one .nilsl), (32, .one (slOf 7 (tmRows a.l))), (33, .one (.int .i64 ((tmRows a.l).length : Nat))), (34, .one (.int .i64 ((0 : Nat) : Int)))] [(3, .obj a.c), (6, .obj Tm.zero.c), (7, .obj Ty.num.c), (105, .row 24 2 0 (tyRows []))] [] [105] ⟨(zw rfl zo), (zw rfl zo), (zw rfl zo), (zw rfl zo), (by exact WkU.of_eq rfl zo), (by exact WkC.nil (List.mem_cons_self ..)), (by exact WkU.of_eq rfl zo), (by exact WkU.of_eq rfl zo), (zw rfl zo), (zw rfl zo), zo⟩ ⟨(by exact zb rfl), (by exact zb rfl), (by exact zb rfl), (by exact Or.inr ⟨rfl, List.mem_cons_self .., _, _, by decide, rfl⟩), zo⟩ trivial ⟨rfl, zo⟩ rfl rfl ⟨zo, ⟨_, rfl⟩, ⟨_, rfl⟩, ⟨_, rfl⟩, zo, ⟨_, _, _, _, rfl, Nat.le_refl _⟩, zo, zo, zo, zo, zo⟩ ⟨(by exact ⟨zo, zo, zo, zo, zo, zo, zo, zo⟩), (by exact ⟨zo, zo, zo, zo, zo, zo, zo, zo⟩), (by exact ⟨zo, zo, zo⟩), (laY (by exact rfl)), zo⟩) ?_
    refine AW.gh (laZ [(2, .one (.int .i64 m)), (3, .one (.ptr 3 0)), (6, .one (.ptr 6 0)), (7, .one (.ptr 7 0)), (8, .one (slOf 2 (tyRows (env')))), (9, .one (.own 105 (0) (0))), (10, .one (.own 106 (0) (0))), (32, .one (slOf 7 (tmRows a.l))), (33, .one (.int .i64 ((tmRows a.l).length : Nat))), (34, .one (.int .i64 ((0 : Nat) : Int)))] [(3, .obj a.c), (6, .obj Tm.zero.c), (7, .obj Ty.num.c), (105, .row 24 2 (0) (tyRows ([]))), (106, .row 24 2 (0) (tyRows ([])))] [] [106] ⟨(zw rfl zo), (zw rfl zo), (zw rfl zo), (zw rfl zo), (by exact WkU.of_eq rfl zo), (by exact WkU.of_eq rfl zo), (by exact WkC.nil (List.mem_cons_self ..)), (by exact WkU.of_eq rfl zo), (zw rfl zo), (zw rfl zo), zo⟩ ⟨(by exact zb rfl), (by exact zb rfl), (by exact zb rfl), (by exact zb rfl), (by exact Or.inr ⟨rfl, List.mem_cons_self .., _, _, by decide, rfl⟩), zo⟩ trivial ⟨rfl, zo⟩ rfl rfl ⟨zo, ⟨_, rfl⟩, ⟨_, rfl⟩, ⟨_, rfl⟩, zo, ⟨_, _, _, _, rfl, Nat.le_refl _⟩, ⟨_, _, _, _, rfl, Nat.le_refl _⟩, zo, zo, zo, zo⟩ ⟨(by exact ⟨zo, zo, zo, zo, zo, zo, zo, zo⟩), (by exact ⟨zo, zo, zo, zo, zo, zo, zo, zo⟩), (by exact ⟨zo, zo, zo⟩), (laY (by exact rfl)), (laY (by exact rfl)), zo⟩) ?_
    refine AW.lenSl 32 rfl fun hmax => ?_
    refine AW.loop (fun m' t h => ∃ i : Nat, i ≤ a.l.length ∧ m' = a.l.length - i ∧ t = tOfL [(2, .one (.int .i64 m)), (3, .one (.ptr 3 0)), (6, .one (.ptr 6 0)), (7, .one (.ptr 7 0)), (8, .one (slOf 2 (tyRows (env')))), (9, .one (.own 105 (i) (i))), (10, .one (.own 106 (i) (i))), (32, .one (slOf 7 (tmRows a.l))), (33, .one (.int .i64 ((tmRows a.l).length : Nat))), (34, .one (.int .i64 ((i : Nat) : Int)))] ∧ h = ofL [(3, .obj a.c), (6, .obj Tm.zero.c), (7, .obj Ty.num.c), (105, .row 24 2 (i) (tyRows (kindsR (a.l.take (i)) env'))), (106, .row 24 2 (i) (tyRows (kindsR (a.l.take (i)) env')))]) a.l.length ⟨0, Nat.zero_le _, rfl, rfl, rfl⟩ ?_
    rintro m' t h ⟨i, hi, rfl, rfl, rfl⟩
    have htk : (tyRows (kindsR (a.l.take i) env')).length = i := by rw [la2, ldV, List.length_take]; omega
    cases hlt : decide ((i : Int) < ((tmRows a.l).length : Nat)) with
    | false =>
      have hil : i = a.l.length := by simp at hlt; omega
      rw [show kindsR (a.l.take i) env' = kindsR a.l env' by rw [hil, List.take_length]] at htk ⊢
      have hkl : (kindsR a.l env').length = a.l.length := ldV ..
      have hfin : (tyFin a (kindsR a.l env') env).2 = true := by
        have := hty
        rw [lcs, henv, hT] at this
        exact this
      generalize kindsR a.l env' = ks at *
      refine zQ ?_;refine zV lac ?_;refine zn (zq ?_);refine zaF ?_;refine zex (zq (zQ ?_));refine zV lad ?_;refine zV lae ?_;refine zn ?_
      refine AW.gh (laZ [(2, .one (.int .i64 m)), (3, .one (.ptr 3 0)), (6, .one (.ptr 6 0)), (7, .one (.ptr 7 0)), (8, .one (slOf 2 (tyRows (env')))), (9, .one (slOf 2 (tyRows ks))), (10, .one (.own 106 i i)), (54, .one (.int .i64 a.k))] [(3, .obj a.c), (6, .obj Tm.zero.c), (7, .obj Ty.num.c), (106, .row 24 2 i (tyRows ks))] [105] [] ⟨(zw rfl zo), (zw rfl zo), (zw rfl zo), (zw rfl zo), (by exact WkU.of_eq rfl zo), (by exact WkC.row (List.mem_cons_self ..) rfl (by assumption) (by exact LeRows.refl _)), (by exact WkU.of_eq rfl zo), (zw rfl zo), zo⟩ ⟨(by exact zb rfl), (by exact zb rfl), (by exact zb rfl), (by exact zb rfl), zo⟩ ⟨⟨_, rfl, la9 _⟩, zo⟩ trivial rfl rfl ⟨zo, ⟨_, rfl⟩, ⟨_, rfl⟩, ⟨_, rfl⟩, zo, zo, ⟨_, _, _, _, rfl, Nat.le_refl _⟩, zo, zo⟩ ⟨(by exact ⟨zo, zo, zo, zo, zo, zo, zo, zo⟩), (by exact ⟨zo, zo, zo, zo, zo, zo, zo, zo⟩), (by exact ⟨zo, zo, zo⟩), (laY (by exact la9 _)), zo⟩) ?_
      refine AW.midC (fun t h => ∃ ws : List Ty, ws = wantsR a ks ∧ ws.length = ks.length ∧ t = tOfL [(2, .one (.int .i64 m)), (3, .one (.ptr 3 0)), (6, .one (.ptr 6 0)), (8, .one (slOf 2 (tyRows env'))), (9, .one (slOf 2 (tyRows ks))), (10, .one (slOf 2 (tyRows ws)))] ∧ h = ofL [(3, .obj a.c), (6, .obj Tm.zero.c)]) ?_ ?_
      · refine zbl ?_
        rcases lbu hg with ⟨e, el, _⟩ | ⟨e, el, _⟩ | ⟨e, el, _⟩ | ⟨e, _, _, x, y, el, h1, h2⟩ | ⟨e, _, _, x, y, z, el, h1, h2, h3⟩ | ⟨e, _, _, x, el, h1⟩ | ⟨e, _, _, x, el, h1⟩
        · have k4 : (a.k == 4) = false := by rw [e]; rfl
          have k5 : (a.k == 5) = false := by rw [e]; rfl
          have k6 : (a.k == 6) = false := by rw [e]; rfl
          have k8 : (a.k == 8) = false := by rw [e]; rfl
          have k9 : (a.k == 9) = false := by rw [e]; rfl
          refine zq (zQ ?_);refine zV lac ?_;refine zV lab ?_;refine zn ?_;refine zaF ?_;refine zR ?_;refine zV lac ?_;refine zV lab ?_;refine zn ?_;refine zaF ?_;refine zQ ?_;refine zV lac ?_;refine zV lab ?_;refine zn ?_;refine zaF ?_;refine zQ ?_;refine zV lac ?_;refine zV lab ?_;refine zn ?_;refine zaF ?_;refine zQ ?_;refine zV lac ?_;refine zV lab ?_;refine zn ?_;refine zaF ?_;refine zsk ?_
          exact ⟨_, _, (laZ [(2, .one (.int .i64 m)), (3, .one (.ptr 3 0)), (6, .one (.ptr 6 0)), (8, .one (slOf 2 (tyRows env'))), (9, .one (slOf 2 (tyRows ks))), (10, .one (slOf 2 (tyRows ks)))] [(3, .obj a.c), (6, .obj Tm.zero.c)] [106] [] ⟨(zw rfl zo), (zw rfl zo), (zw rfl zo), (by exact WkU.of_eq rfl zo), (by exact WkU.of_eq rfl zo), (by exact WkC.row (List.mem_cons_self ..) rfl (by assumption) (by exact LeRows.refl _)), zo⟩ ⟨(by exact zb rfl), (by exact zb rfl), zo⟩ ⟨⟨_, rfl, la9 _⟩, zo⟩ trivial rfl rfl ⟨zo, ⟨_, rfl⟩, ⟨_, rfl⟩, zo, zo, zo, zo⟩ ⟨(by exact ⟨zo, zo, zo, zo, zo, zo, zo, zo⟩), (by exact ⟨zo, zo, zo, zo, zo, zo, zo, zo⟩), zo⟩), ks, by simp [wantsR, k4, k5, k6, k8, k9], rfl, rfl, rfl⟩
        · have k4 : (a.k == 4) = false := by rw [e]; rfl
          have k5 : (a.k == 5) = false := by rw [e]; rfl
          have k6 : (a.k == 6) = false := by rw [e]; rfl
          have k8 : (a.k == 8) = false := by rw [e]; rfl
          have k9 : (a.k == 9) = false := by rw [e]; rfl
          refine zq (zQ ?_);refine zV lac ?_;refine zV lab ?_;refine zn ?_;refine zaF ?_;refine zR ?_;refine zV lac ?_;refine zV lab ?_;refine zn ?_;refine zaF ?_;refine zQ ?_;refine zV lac ?_;refine zV lab ?_;refine zn ?_;refine zaF ?_;refine zQ ?_;refine zV lac ?_;refine zV lab ?_;refine zn ?_;refine zaF ?_;refine zQ ?_;refine zV lac ?_;refine zV lab ?_;refine zn ?_;refine zaF ?_;refine zsk ?_
          exact ⟨_, _, (laZ [(2, .one (.int .i64 m)), (3, .one (.ptr 3 0)), (6, .one (.ptr 6 0)), (8, .one (slOf 2 (tyRows env'))), (9, .one (slOf 2 (tyRows ks))), (10, .one (slOf 2 (tyRows ks)))] [(3, .obj a.c), (6, .obj Tm.zero.c)] [106] [] ⟨(zw rfl zo), (zw rfl zo), (zw rfl zo), (by exact WkU.of_eq rfl zo), (by exact WkU.of_eq rfl zo), (by exact WkC.row (List.mem_cons_self ..) rfl (by assumption) (by exact LeRows.refl _)), zo⟩ ⟨(by exact zb rfl), (by exact zb rfl), zo⟩ ⟨⟨_, rfl, la9 _⟩, zo⟩ trivial rfl rfl ⟨zo, ⟨_, rfl⟩, ⟨_, rfl⟩, zo, zo, zo, zo⟩ ⟨(by exact ⟨zo, zo, zo, zo, zo, zo, zo, zo⟩), (by exact ⟨zo, zo, zo, zo, zo, zo, zo, zo⟩), zo⟩), ks, by simp [wantsR, k4, k5, k6, k8, k9], rfl, rfl, rfl⟩
        · have k4 : (a.k == 4) = false := by rw [e]; rfl
          have k5 : (a.k == 5) = false := by rw [e]; rfl
          have k6 : (a.k == 6) = false := by rw [e]; rfl
          have k8 : (a.k == 8) = false := by rw [e]; rfl
          have k9 : (a.k == 9) = false := by rw [e]; rfl
          refine zq (zQ ?_);refine zV lac ?_;refine zV lab ?_;refine zn ?_;refine zaF ?_;refine zR ?_;refine zV lac ?_;refine zV lab ?_;refine zn ?_;refine zaF ?_;refine zQ ?_;refine zV lac ?_;refine zV lab ?_;refine zn ?_;refine zaF ?_;refine zQ ?_;refine zV lac ?_;refine zV lab ?_;refine zn ?_;refine zaF ?_;refine zQ ?_;refine zV lac ?_;refine zV lab ?_;refine zn ?_;refine zaF ?_;refine zsk ?_
          exact ⟨_, _, (laZ [(2, .one (.int .i64 m)), (3, .one (.ptr 3 0)), (6, .one (.ptr 6 0)), (8, .one (slOf 2 (tyRows env'))), (9, .one (slOf 2 (tyRows ks))), (10, .one (slOf 2 (tyRows ks)))] [(3, .obj a.c), (6, .obj Tm.zero.c)] [106] [] ⟨(zw rfl zo), (zw rfl zo), (zw rfl zo), (by exact WkU.of_eq rfl zo), (by exact WkU.of_eq rfl zo), (by exact WkC.row (List.mem_cons_self ..) rfl (by assumption) (by exact LeRows.refl _)), zo⟩ ⟨(by exact zb rfl), (by exact zb rfl), zo⟩ ⟨⟨_, rfl, la9 _⟩, zo⟩ trivial rfl rfl ⟨zo, ⟨_, rfl⟩, ⟨_, rfl⟩, zo, zo, zo, zo⟩ ⟨(by exact ⟨zo, zo, zo, zo, zo, zo, zo, zo⟩), (by exact ⟨zo, zo, zo, zo, zo, zo, zo, zo⟩), zo⟩), ks, by simp [wantsR, k4, k5, k6, k8, k9], rfl, rfl, rfl⟩
        · obtain ⟨p, q, hks⟩ := len2 (hkl.trans (by rw [el]; rfl))
          have hi2 : i = 2 := by rw [hil, el]; rfl
          have k6 : (a.k == 6) = false := by rw [beq_eq_false_iff_ne]; omega
          have k9 : (a.k == 9) = false := by rw [beq_eq_false_iff_ne]; omega
          have hrw : tyRows ks = [p.c, q.c] := by rw [hks]; simp [tyRows, Ty.cells_c]
          rw [hrw, hi2]
          rcases e with e | e | e
          · have k4 : (a.k == 4) = true := by rw [e]; rfl
            refine zq (zQ ?_);refine zV lac ?_;refine zV lab ?_;refine zn ?_;refine zaT ?_;refine zsk ?_;refine zaT ?_;refine zRD ?_;refine zV laa ?_;refine zV laa ?_;refine zV laj ?_;refine zV laj ?_;refine zV (laG 0) ?_;refine zE laH ?_;refine zV (laG 1) ?_;refine zE laH ?_;refine znD ?_
            exact ⟨_, _, (laZ [(2, .one (.int .i64 m)), (3, .one (.ptr 3 0)), (6, .one (.ptr 6 0)), (8, .one (slOf 2 (tyRows env'))), (9, .one (slOf 2 _)), (10, .one (slOf 2 ([Ty.num.c, Ty.num.c])))] [(3, .obj a.c), (6, .obj Tm.zero.c)] [106] [] ⟨(zw rfl zo), (zw rfl zo), (zw rfl zo), (by exact WkU.of_eq rfl zo), (by exact WkU.of_eq rfl zo), (by exact WkC.row (List.mem_cons_self ..) rfl (by exact rfl) (by exact LeRows.refl _)), zo⟩ ⟨(by exact zb rfl), (by exact zb rfl), zo⟩ ⟨⟨_, rfl, rfl⟩, zo⟩ trivial rfl rfl ⟨zo, ⟨_, rfl⟩, ⟨_, rfl⟩, zo, zo, zo, zo⟩ ⟨(by exact ⟨zo, zo, zo, zo, zo, zo, zo, zo⟩), (by exact ⟨zo, zo, zo, zo, zo, zo, zo, zo⟩), zo⟩), [.num, .num], by simp [wantsR, k4], by rw [hks]; rfl, by simp only [lba]; rfl, rfl⟩
          · have k4 : (a.k == 4) = false := by rw [e]; rfl
            have k5 : (a.k == 5) = true := by rw [e]; rfl
            refine zq (zQ ?_);refine zV lac ?_;refine zV lab ?_;refine zn ?_;refine zaF ?_;refine zR ?_;refine zV lac ?_;refine zV lab ?_;refine zn ?_;refine zaT ?_;refine zRD ?_;refine zV laa ?_;refine zV laa ?_;refine zV laj ?_;refine zV laj ?_;refine zV (laG 0) ?_;refine zE laH ?_;refine zV (laG 1) ?_;refine zE laH ?_;refine znD ?_
            exact ⟨_, _, (laZ [(2, .one (.int .i64 m)), (3, .one (.ptr 3 0)), (6, .one (.ptr 6 0)), (8, .one (slOf 2 (tyRows env'))), (9, .one (slOf 2 _)), (10, .one (slOf 2 ([Ty.num.c, Ty.num.c])))] [(3, .obj a.c), (6, .obj Tm.zero.c)] [106] [] ⟨(zw rfl zo), (zw rfl zo), (zw rfl zo), (by exact WkU.of_eq rfl zo), (by exact WkU.of_eq rfl zo), (by exact WkC.row (List.mem_cons_self ..) rfl (by exact rfl) (by exact LeRows.refl _)), zo⟩ ⟨(by exact zb rfl), (by exact zb rfl), zo⟩ ⟨⟨_, rfl, rfl⟩, zo⟩ trivial rfl rfl ⟨zo, ⟨_, rfl⟩, ⟨_, rfl⟩, zo, zo, zo, zo⟩ ⟨(by exact ⟨zo, zo, zo, zo, zo, zo, zo, zo⟩), (by exact ⟨zo, zo, zo, zo, zo, zo, zo, zo⟩), zo⟩), [.num, .num], by simp [wantsR, k5], by rw [hks]; rfl, by simp only [lba]; rfl, rfl⟩
          · have k4 : (a.k == 4) = false := by rw [e]; rfl
            have k5 : (a.k == 5) = false := by rw [e]; rfl
            have k8 : (a.k == 8) = true := by rw [e]; rfl
            have hx0 : ([p.c, q.c] : List (List C))[0]? = some p.c := rfl
            cases p0 : (p.k == 0) with
            | true =>
              have hq0 : (tyRows (Ty.to .any .any).l)[0]? = some Ty.any.c := rfl
              refine zq (zQ ?_);refine zV lac ?_;refine zV lab ?_;refine zn ?_;refine zaF ?_;refine zR ?_;refine zV lac ?_;refine zV lab ?_;refine zn ?_;refine zaF ?_;refine zQ ?_;refine zV lac ?_;refine zV lab ?_;refine zn ?_;refine zaF ?_;refine zQ ?_;refine zV lac ?_;refine zV lab ?_;refine zn ?_;refine zaT ?_;refine zq (zQ ?_);refine zV laa ?_;refine zV (lap _) ?_;refine zV lak ?_;refine zV lai ?_;refine zV lac ?_;refine zn ?_;refine zaT ?_;refine zR ?_;refine zV laa ?_
              refine zV (lal lb1) ?_
              refine zV (lal lb1) ?_
              refine zV (lal (fun_a .any .any) rfl (by refine zC2 ?_;refine zC2 ?_;exact rfl)) ?_
              refine zV (laG 0) ?_;refine zE laH ?_;refine zn (zR ?_);refine zV laa ?_;refine zV laa ?_;refine zV (laG 0) ?_;refine zV (lds rfl rfl (by simp [*]; done)) ?_;refine zV (loc_loadE rfl rfl (by exact rfl) rfl) ?_;refine zV (lap _) ?_;refine zV lao ?_;refine zV (laG 1) ?_;refine zE laH ?_;refine zn ?_
              exact ⟨_, _, (laZ [(2, .one (.int .i64 m)), (3, .one (.ptr 3 0)), (6, .one (.ptr 6 0)), (8, .one (slOf 2 (tyRows env'))), (9, .one (slOf 2 _)), (10, .one (slOf 2 ([(Ty.to .any .any).c, Ty.any.c])))] [(3, .obj a.c), (6, .obj Tm.zero.c)] [106] [] ⟨(zw rfl zo), (zw rfl zo), (zw rfl zo), (by exact WkU.of_eq rfl zo), (by exact WkU.of_eq rfl zo), (by exact WkC.row (List.mem_cons_self ..) rfl (by exact rfl) (by exact LeRows.refl _)), zo⟩ ⟨(by exact zb rfl), (by exact zb rfl), zo⟩ ⟨⟨_, rfl, rfl⟩, zo⟩ trivial rfl rfl ⟨zo, ⟨_, rfl⟩, ⟨_, rfl⟩, zo, zo, zo, zo⟩ ⟨(by exact ⟨zo, zo, zo, zo, zo, zo, zo, zo⟩), (by exact ⟨zo, zo, zo, zo, zo, zo, zo, zo⟩), zo⟩), [.to .any .any, .any], by simp [wantsR, k4, k5, k6, k8, hks, getT, p0], by rw [hks]; rfl, by simp only [lba]; rfl, rfl⟩
            | false =>
              have hT2 := hty
              rw [lcs] at hT2
              have p3 : p.k = 3 := by
                have h8 := hfin
                simp only [tyFin, hks, getT, List.getD_cons_zero, p0, show (a.k == 1) = false by rw [e]; rfl, show (a.k == 2) = false by rw [e]; rfl, show (a.k == 3) = false by rw [e]; rfl, show (a.k == 7) = false by rw [e]; rfl, k4, k5, k6, k8, Bool.false_eq_true, if_false, if_true] at h8
                split at h8
                · cases h8
                · rename_i h9; simpa using h9
              obtain ⟨c, d, hcd⟩ := len2 ((hkr p (by rw [hks]; simp)).two p3)
              have hq0 : (tyRows p.l)[0]? = some c.c := by rw [hcd]; simp [tyRows, Ty.cells_c]
              refine zq (zQ ?_);refine zV lac ?_;refine zV lab ?_;refine zn ?_;refine zaF ?_;refine zR ?_;refine zV lac ?_;refine zV lab ?_;refine zn ?_;refine zaF ?_;refine zQ ?_;refine zV lac ?_;refine zV lab ?_;refine zn ?_;refine zaF ?_;refine zQ ?_;refine zV lac ?_;refine zV lab ?_;refine zn ?_;refine zaT ?_;refine zq (zQ ?_);refine zV laa ?_;refine zV (lap _) ?_;refine zV lak ?_;refine zV lai ?_;refine zV lac ?_;refine zn ?_;refine zaF ?_;refine zsk (zR ?_);refine zV laa ?_;refine zV laa ?_;refine zV (laG 0) ?_;refine zV (lds rfl rfl (by simp [*]; done)) ?_;refine zV (loc_loadE rfl rfl (by exact rfl) rfl) ?_;refine zV (lap _) ?_;refine zV lao ?_;refine zV (laG 1) ?_;refine zE laH ?_;refine zn ?_
              exact ⟨_, _, (laZ [(2, .one (.int .i64 m)), (3, .one (.ptr 3 0)), (6, .one (.ptr 6 0)), (8, .one (slOf 2 (tyRows env'))), (9, .one (slOf 2 _)), (10, .one (slOf 2 ([p.c, c.c])))] [(3, .obj a.c), (6, .obj Tm.zero.c)] [106] [] ⟨(zw rfl zo), (zw rfl zo), (zw rfl zo), (by exact WkU.of_eq rfl zo), (by exact WkU.of_eq rfl zo), (by exact WkC.row (List.mem_cons_self ..) rfl (by exact rfl) (by exact LeRows.refl _)), zo⟩ ⟨(by exact zb rfl), (by exact zb rfl), zo⟩ ⟨⟨_, rfl, rfl⟩, zo⟩ trivial rfl rfl ⟨zo, ⟨_, rfl⟩, ⟨_, rfl⟩, zo, zo, zo, zo⟩ ⟨(by exact ⟨zo, zo, zo, zo, zo, zo, zo, zo⟩), (by exact ⟨zo, zo, zo, zo, zo, zo, zo, zo⟩), zo⟩), [p, c], by simp [wantsR, k4, k5, k6, k8, hks, getT, p0, hcd], by rw [hks]; rfl, by simp only [lba]; rfl, rfl⟩
        · obtain ⟨p, q, r, hks⟩ := len3 (hkl.trans (by rw [el]; rfl))
          have hi2 : i = 3 := by rw [hil, el]; rfl
          have k4 : (a.k == 4) = false := by rw [e]; rfl
          have k5 : (a.k == 5) = false := by rw [e]; rfl
          have k6 : (a.k == 6) = true := by rw [e]; rfl
          have hrw : tyRows ks = [p.c, q.c, r.c] := by rw [hks]; simp [tyRows, Ty.cells_c]
          have hx1 : ([p.c, q.c, r.c] : List (List C))[1]? = some q.c := rfl
          have hx2 : ([p.c, q.c, r.c] : List (List C))[2]? = some r.c := rfl
          have s3 := joinOf_a q r ((lbv _).2 (hkr q (by rw [hks]; simp))) ((lbv _).2 (hkr r (by rw [hks]; simp)))
          rw [hrw, hi2]
          refine zq (zQ ?_);refine zV lac ?_;refine zV lab ?_;refine zn ?_;refine zaF ?_;refine zR ?_;refine zV lac ?_;refine zV lab ?_;refine zn ?_;refine zaF ?_;refine zQ ?_;refine zV lac ?_;refine zV lab ?_;refine zn ?_;refine zaT ?_;refine zq ?_;refine zRD ?_;refine zV laa ?_;refine zV (lap _) ?_;refine zV lao ?_;refine zV laa ?_;refine zV (lap _) ?_;refine zV lao ?_
          refine zV (lal s3 rfl (by refine zC2 ?_;refine zC2 ?_;exact rfl)) ?_
          refine zM lah ?_;refine zE laf ?_;refine znD ?_;refine zR ?_;refine zV laq ?_;refine zV laj ?_;refine zV laj ?_;refine zV (laF (by exact rfl) (by exact rfl) (by decide) (by decide) (by exact RowsOf.cons (by exact rfl) (RowsOf.cons (by exact rfl) (RowsOf.cons (by exact rfl) RowsOf.nil))) (by exact AllP.cons (by exact rfl) (AllP.cons (by exact rfl) (AllP.cons (by exact rfl) AllP.nil)))) ?_;refine zV lab ?_;refine zn ?_
          exact ⟨_, _, (laZ [(2, .one (.int .i64 m)), (3, .one (.ptr 3 0)), (6, .one (.ptr 6 0)), (8, .one (slOf 2 (tyRows env'))), (9, .one (slOf 2 [p.c, q.c, r.c])), (10, .one (slOf 2 [Ty.truth.c, (q.join r).c, (q.join r).c]))] [(3, .obj a.c), (6, .obj Tm.zero.c)] [] [] ⟨(zw rfl zo), (zw rfl zo), (zw rfl zo), (by exact WkU.of_eq rfl zo), (by exact WkU.of_eq rfl zo), (by exact WkC.le (LeC.slF ⟨⟨LeC.refl _, LeC.nil _, zo⟩, la0 _, la0 _, zo⟩)), zo⟩ ⟨(by exact zb rfl), (by exact zb rfl), zo⟩ trivial zo rfl rfl ⟨zo, ⟨_, rfl⟩, ⟨_, rfl⟩, zo, zo, zo, zo⟩ ⟨(by exact ⟨zo, zo, zo, zo, zo, zo, zo, zo⟩), (by exact ⟨zo, zo, zo, zo, zo, zo, zo, zo⟩), zo⟩), [.truth, q.join r, q.join r], by simp [wantsR, k4, k5, k6, hks, getT], by rw [hks]; rfl, by simp only [lba]; rfl, rfl⟩
        · have k4 : (a.k == 4) = false := by rw [e]; rfl
          have k5 : (a.k == 5) = false := by rw [e]; rfl
          have k6 : (a.k == 6) = false := by rw [e]; rfl
          have k8 : (a.k == 8) = false := by rw [e]; rfl
          have k9 : (a.k == 9) = false := by rw [e]; rfl
          refine zq (zQ ?_);refine zV lac ?_;refine zV lab ?_;refine zn ?_;refine zaF ?_;refine zR ?_;refine zV lac ?_;refine zV lab ?_;refine zn ?_;refine zaF ?_;refine zQ ?_;refine zV lac ?_;refine zV lab ?_;refine zn ?_;refine zaF ?_;refine zQ ?_;refine zV lac ?_;refine zV lab ?_;refine zn ?_;refine zaF ?_;refine zQ ?_;refine zV lac ?_;refine zV lab ?_;refine zn ?_;refine zaF ?_;refine zsk ?_
          exact ⟨_, _, (laZ [(2, .one (.int .i64 m)), (3, .one (.ptr 3 0)), (6, .one (.ptr 6 0)), (8, .one (slOf 2 (tyRows env'))), (9, .one (slOf 2 (tyRows ks))), (10, .one (slOf 2 (tyRows ks)))] [(3, .obj a.c), (6, .obj Tm.zero.c)] [106] [] ⟨(zw rfl zo), (zw rfl zo), (zw rfl zo), (by exact WkU.of_eq rfl zo), (by exact WkU.of_eq rfl zo), (by exact WkC.row (List.mem_cons_self ..) rfl (by assumption) (by exact LeRows.refl _)), zo⟩ ⟨(by exact zb rfl), (by exact zb rfl), zo⟩ ⟨⟨_, rfl, la9 _⟩, zo⟩ trivial rfl rfl ⟨zo, ⟨_, rfl⟩, ⟨_, rfl⟩, zo, zo, zo, zo⟩ ⟨(by exact ⟨zo, zo, zo, zo, zo, zo, zo, zo⟩), (by exact ⟨zo, zo, zo, zo, zo, zo, zo, zo⟩), zo⟩), ks, by simp [wantsR, k4, k5, k6, k8, k9], rfl, rfl, rfl⟩
        · obtain ⟨p, hks⟩ := len1 (hkl.trans (by rw [el]; rfl))
          have hi2 : i = 1 := by rw [hil, el]; rfl
          have k4 : (a.k == 4) = false := by rw [e]; rfl
          have k5 : (a.k == 5) = false := by rw [e]; rfl
          have k6 : (a.k == 6) = false := by rw [e]; rfl
          have k8 : (a.k == 8) = false := by rw [e]; rfl
          have k9 : (a.k == 9) = true := by rw [e]; rfl
          have hrw : tyRows ks = [p.c] := by rw [hks]; simp [tyRows, Ty.cells_c]
          rw [hrw, hi2]
          refine zq (zQ ?_);refine zV lac ?_;refine zV lab ?_;refine zn ?_;refine zaF ?_;refine zR ?_;refine zV lac ?_;refine zV lab ?_;refine zn ?_;refine zaF ?_;refine zQ ?_;refine zV lac ?_;refine zV lab ?_;refine zn ?_;refine zaF ?_;refine zQ ?_;refine zV lac ?_;refine zV lab ?_;refine zn ?_;refine zaF ?_;refine zQ ?_;refine zV lac ?_;refine zV lab ?_;refine zn ?_;refine zaT ?_;refine zR ?_;refine zV laa ?_;refine zV lad ?_;refine zV (laj rfl rfl (by exact Cut.cons (by exact rfl) (Cut.cons (by exact rfl) Cut.nil))) ?_;refine zV (laG 0) ?_;refine zE laH ?_;refine zn ?_
          exact ⟨_, _, (laZ [(2, .one (.int .i64 m)), (3, .one (.ptr 3 0)), (6, .one (.ptr 6 0)), (8, .one (slOf 2 (tyRows env'))), (9, .one (slOf 2 _)), (10, .one (slOf 2 ([a.t.c])))] [(3, .obj a.c), (6, .obj Tm.zero.c)] [106] [] ⟨(zw rfl zo), (zw rfl zo), (zw rfl zo), (by exact WkU.of_eq rfl zo), (by exact WkU.of_eq rfl zo), (by exact WkC.row (List.mem_cons_self ..) rfl (by exact rfl) (by exact LeRows.refl _)), zo⟩ ⟨(by exact zb rfl), (by exact zb rfl), zo⟩ ⟨⟨_, rfl, rfl⟩, zo⟩ trivial rfl rfl ⟨zo, ⟨_, rfl⟩, ⟨_, rfl⟩, zo, zo, zo, zo⟩ ⟨(by exact ⟨zo, zo, zo, zo, zo, zo, zo, zo⟩), (by exact ⟨zo, zo, zo, zo, zo, zo, zo, zo⟩), zo⟩), [a.t], by simp [wantsR, k4, k5, k6, k8, k9], by rw [hks]; rfl, by simp only [lba]; rfl, rfl⟩
      · rintro t h ⟨ws, hws, hwsl, rfl, rfl⟩
        rw [hW, ← hws]
        refine zQ ?_;refine zV lad ?_;refine zV lae ?_;refine zV lab ?_;refine zn (zQ ?_);refine zV lad ?_;refine zE lax ?_;refine zn (zQ ?_);refine zV laa ?_;refine zV laI ?_;refine zV lab ?_;refine zn (zq (zQ ?_));refine zV laa ?_;refine zV lay ?_;refine zV laa ?_;refine zn (zbl ?_)
        refine AW.gh (laZ [(2, .one (.int .i64 m)), (3, .one (.ptr 3 0)), (6, .one (.ptr 6 0)), (8, .one (slOf 2 (tyRows env'))), (9, .one (slOf 2 (tyRows ks))), (10, .one (slOf 2 (tyRows ws))), (17, .one (.int .i64 (m + 1))), (108, .one (slOf 7 (tmRows a.l))), (109, .one (.int .i64 ((tmRows a.l).length : Nat))), (110, .one (.int .i64 ((0 : Nat) : Int)))] [(3, .obj [.int .i64 a.k, .int .i64 a.n, .int .i64 a.t.k, slOf 2 (tyRows a.t.l), .int .i64 a.f.k, slOf 2 (tyRows a.f.l), .own 107 (0) (0)]), (6, .obj Tm.zero.c), (107, .row 27 7 (0) (tmRows ([])))] [] [107] ⟨(zw rfl zo), (zw rfl zo), (zw rfl zo), (by exact WkU.of_eq rfl zo), (by exact WkU.of_eq rfl zo), (by exact WkU.of_eq rfl zo), (zw rfl zo), (by exact WkU.of_eq rfl zo), (zw rfl zo), (zw rfl zo), zo⟩ ⟨(by (refine Or.inl ⟨_, rfl, ?_⟩; show All2 _ _ _;exact ⟨WkC.le (LeC.refl _), WkC.le (LeC.refl _), WkC.le (LeC.refl _), WkC.le (LeC.refl _), WkC.le (LeC.refl _), WkC.le (LeC.refl _), WkC.nil (List.mem_cons_self ..), zo⟩)), (by exact zb rfl), (by exact Or.inr ⟨rfl, List.mem_cons_self .., _, _, by decide, rfl⟩), zo⟩ trivial ⟨rfl, zo⟩ rfl rfl ⟨zo, ⟨_, rfl⟩, ⟨_, rfl⟩, zo, zo, zo, zo, zo, zo, zo, zo⟩ ⟨(by exact ⟨zo, zo, zo, zo, zo, zo, ⟨_, _, _, _, rfl, Nat.le_refl _⟩, zo⟩), (by exact ⟨zo, zo, zo, zo, zo, zo, zo, zo⟩), (laY (by exact rfl)), zo⟩) ?_
        refine AW.lenSl 108 rfl fun hmax2 => ?_
        refine AW.loop (fun m' t h => ∃ (j : Nat) (ys : List Tm), j ≤ a.l.length ∧ m' = a.l.length - j ∧ ys.length = j ∧ wcL a.l ks ws env' (m + 1) = ys ++ wcL (a.l.drop j) (ks.drop j) (ws.drop j) env' (m + 1 + nodesL (a.l.take j)) ∧ t = tOfL [(2, .one (.int .i64 m)), (3, .one (.ptr 3 0)), (6, .one (.ptr 6 0)), (8, .one (slOf 2 (tyRows env'))), (9, .one (slOf 2 (tyRows ks))), (10, .one (slOf 2 (tyRows ws))), (17, .one (.int .i64 (m + 1 + nodesL (a.l.take (j))))), (108, .one (slOf 7 (tmRows a.l))), (109, .one (.int .i64 ((tmRows a.l).length : Nat))), (110, .one (.int .i64 ((j : Nat) : Int)))] ∧ h = ofL [(3, .obj [.int .i64 a.k, .int .i64 a.n, .int .i64 a.t.k, slOf 2 (tyRows a.t.l), .int .i64 a.f.k, slOf 2 (tyRows a.f.l), .own 107 (j) (j)]), (6, .obj Tm.zero.c), (107, .row 27 7 (j) (tmRows (ys)))]) a.l.length ⟨0, [], Nat.zero_le _, rfl, rfl, by simp [nodesL], by simp [nodesL], rfl⟩ ?_
        rintro m' t h ⟨j, ys, hj, rfl, hys, hinv, rfl, rfl⟩
        have htk : (tmRows ys).length = j := by rw [la7, hys]
        cases hlt2 : decide ((j : Int) < ((tmRows a.l).length : Nat)) with
        | false =>
          have hjl : j = a.l.length := by simp at hlt2; omega
          refine zQ ?_;refine zV lac ?_;refine zn (zq ?_);refine zaF ?_;refine zex (zQ ?_);refine zV laj ?_;refine zE laf ?_;refine zn (zre ?_)
          rw [show wcL a.l ks ws env' (m + 1) = ys by rw [hinv, hjl, List.drop_length]; simp [wcL]]
          refine rq ?_
          refine lbg (by exact .inr rfl) (by exact rfl) (by exact rfl) (by exact rfl) [107] (by exact ⟨⟨_, rfl, lbc _⟩, zo⟩) (l' := (Tm.mk a.k a.n a.t a.f ys).c) (by exact ⟨.le (.refl _), .le (.refl _), .le (.refl _), .le (.refl _), .le (.refl _), .le (.refl _), .row (List.mem_cons_self ..) rfl htk (LeRows.refl _), zo⟩) (by exact ⟨zo, zo, zo, zo, zo, zo, zo, zo⟩) (by exact rfl)
        | true =>
          have hjl : j < a.l.length := by simp at hlt2; omega
          have hjk : j < ks.length := by omega
          have hjw : j < ws.length := by omega
          have hr1 := lbJ hjl
          have hr2 := lbb hjk
          have hr3 := lbb hjw
          have hmem : a.l[j] ∈ a.l := List.getElem_mem hjl
          have hnt := ldy hjl
          have hnl := lcy a.l (j + 1)
          have hn3 := lb9 hmem
          rw [wcL_step hjl hjk hjw] at hinv
          have hc := ih a.l[j] hmem env' (m + 1 + nodesL (a.l.take j)) (lbB hgl _ hmem) hwr (hTk _ hmem) (by omega) (by omega) (by omega)
          generalize wcT a.l[j] env' (m + 1 + nodesL (a.l.take j)) = y at *
          generalize hpp : ks[j] = p at *
          generalize hqq : ws[j] = q at *
          refine zQ ?_;refine zV lac ?_;refine zn (zq ?_);refine zaT ?_;refine zsk (zq (zbl (zQ ?_)));refine zV laa ?_;refine zV (lap _) ?_;refine zV lao ?_;refine zM lah ?_;refine zV lab ?_;refine zE laf ?_;refine zn (zQ ?_);refine zV laj ?_;refine zV laa ?_;refine zV laa ?_
          refine zV (lal hc rfl (by refine zC7 ?_;refine zC ?_;refine zC ?_;exact rfl)) ?_
          refine zM lah ?_;refine zE laf ?_;refine zn (zq (zq ?_));refine zRD ?_;refine zV laa ?_;refine zV laa ?_;refine zV (lap _) ?_;refine zV lao ?_;refine zV laa ?_;refine zV laa ?_;refine zV (lap _) ?_;refine zV lao ?_
          have hsm := lc3 p q
          cases hs : p.same q with
          | true =>
            rw [hs] at hsm
            rw [show asT y p q (m + 1 + nodesL (a.l.take j)) = y by unfold asT; rw [hs]; rfl] at hinv
            refine zV (lal hsm rfl (by refine zC2 ?_;refine zC2 ?_;exact rfl)) ?_
            refine zV laz ?_;refine znD ?_
            refine AW.midC (fun t h => t = tOfL [(2, .one (.int .i64 m)), (3, .one (.ptr 3 0)), (6, .one (.ptr 6 0)), (8, .one (slOf 2 (tyRows env'))), (9, .one (slOf 2 (tyRows ks))), (10, .one (slOf 2 (tyRows ws))), (17, .one (.int .i64 (m + 1 + nodesL (a.l.take (j))))), (19, .one (.ptr 19 0)), (20, .one (.ptr 20 0)), (108, .one (slOf 7 (tmRows a.l))), (109, .one (.int .i64 ((tmRows a.l).length : Nat))), (110, .one (.int .i64 ((j : Nat) : Int)))] ∧ h = ofL [(3, .obj [.int .i64 a.k, .int .i64 a.n, .int .i64 a.t.k, slOf 2 (tyRows a.t.l), .int .i64 a.f.k, slOf 2 (tyRows a.f.l), .own 107 (j) (j)]), (6, .obj Tm.zero.c), (19, .obj a.l[j].c), (20, .obj (y).c), (107, .row 27 7 (j) (tmRows ys))]) ?_ ?_
            · refine zcF ?_; refine zsk ?_
              exact ⟨_, _, (laZ [(2, .one (.int .i64 m)), (3, .one (.ptr 3 0)), (6, .one (.ptr 6 0)), (8, .one (slOf 2 (tyRows env'))), (9, .one (slOf 2 (tyRows ks))), (10, .one (slOf 2 (tyRows ws))), (17, .one (.int .i64 (m + 1 + nodesL (a.l.take (j))))), (19, .one (.ptr 19 0)), (20, .one (.ptr 20 0)), (108, .one (slOf 7 (tmRows a.l))), (109, .one (.int .i64 ((tmRows a.l).length : Nat))), (110, .one (.int .i64 ((j : Nat) : Int)))] [(3, .obj [.int .i64 a.k, .int .i64 a.n, .int .i64 a.t.k, slOf 2 (tyRows a.t.l), .int .i64 a.f.k, slOf 2 (tyRows a.f.l), .own 107 (j) (j)]), (6, .obj Tm.zero.c), (19, .obj a.l[j].c), (20, .obj (y).c), (107, .row 27 7 (j) (tmRows ys))] [] [] ⟨(zw rfl zo), (zw rfl zo), (zw rfl zo), (by exact WkU.of_eq rfl zo), (by exact WkU.of_eq rfl zo), (by exact WkU.of_eq rfl zo), (zw rfl zo), (zw rfl zo), (zw rfl zo), (by exact WkU.of_eq rfl zo), (zw rfl zo), (zw rfl zo), zo⟩ ⟨(by exact zb rfl), (by exact zb rfl), (by exact zb rfl), (by exact zb rfl), (by exact zb rfl), zo⟩ trivial zo rfl rfl ⟨zo, ⟨_, rfl⟩, ⟨_, rfl⟩, zo, zo, zo, zo, ⟨_, rfl⟩, ⟨_, rfl⟩, zo, zo, zo, zo⟩ ⟨(by exact ⟨zo, zo, zo, zo, zo, zo, ⟨_, _, _, _, rfl, Nat.le_refl _⟩, zo⟩), (by exact ⟨zo, zo, zo, zo, zo, zo, zo, zo⟩), (by exact ⟨zo, zo, zo, zo, zo, zo, zo, zo⟩), (by exact ⟨zo, zo, zo, zo, zo, zo, zo, zo⟩), (laY (by exact lbc _)), zo⟩), rfl, rfl⟩
            · rintro t h ⟨rfl, rfl⟩
              have hno := lf7 a.l[j] (by omega)
              refine zQ ?_;refine zV lad ?_;refine zV lae ?_;refine zV laj ?_;refine zV laF ?_
              refine zM (laK (by exact rfl) (by exact rfl) (by exact rfl) (by exact .inl rfl) (by exact htk) (by exact ⟨rfl, zo⟩) (by simp only [List.length_cons, List.length_nil]; omega)) ?_
              rw [show tmRows ys ++ [y.c] = tmRows (ys ++ [y]) by rw [lbs]; simp [tmRows, Tm.cells_c]]
              refine zV lad ?_;refine zE lax ?_;refine zn (zR ?_);refine zV laa ?_;refine zV laj ?_
              refine zV (lal hno rfl (by refine zC7 ?_;exact rfl)) ?_
              refine zV laI ?_;refine zV lab ?_;refine zn (zR ?_);refine zV laD ?_;refine zV laa ?_;refine zn ?_
              rw [show m + 1 + ((nodesL (a.l.take j) : Nat) : Int) + ((a.l[j].nodes : Nat) : Int) = m + 1 + ((nodesL (a.l.take (j + 1)) : Nat) : Int) by rw [hnt]; omega] at hinv ⊢
              exact ⟨a.l.length - (j + 1), _, _, by omega, (laZ [(2, .one (.int .i64 m)), (3, .one (.ptr 3 0)), (6, .one (.ptr 6 0)), (8, .one (slOf 2 (tyRows env'))), (9, .one (slOf 2 (tyRows ks))), (10, .one (slOf 2 (tyRows ws))), (17, .one (.int .i64 (m + 1 + nodesL (a.l.take (j + 1))))), (108, .one (slOf 7 (tmRows a.l))), (109, .one (.int .i64 ((tmRows a.l).length : Nat))), (110, .one (.int .i64 (((j + 1) : Nat) : Int)))] [(3, .obj [.int .i64 a.k, .int .i64 a.n, .int .i64 a.t.k, slOf 2 (tyRows a.t.l), .int .i64 a.f.k, slOf 2 (tyRows a.f.l), .own 107 ((j + 1)) ((j + 1))]), (6, .obj Tm.zero.c), (107, .row 27 7 ((j + 1)) (tmRows ((ys ++ [y]))))] [] [] ⟨(zw rfl zo), (zw rfl zo), (zw rfl zo), (by exact WkU.of_eq rfl zo), (by exact WkU.of_eq rfl zo), (by exact WkU.of_eq rfl zo), (zw rfl zo), (by exact WkU.of_eq rfl zo), (zw rfl zo), (zw rfl zo), zo⟩ ⟨(by exact zb rfl), (by exact zb rfl), (by exact zb rfl), zo⟩ trivial zo rfl rfl ⟨zo, ⟨_, rfl⟩, ⟨_, rfl⟩, zo, zo, zo, zo, zo, zo, zo, zo⟩ ⟨(by exact ⟨zo, zo, zo, zo, zo, zo, ⟨_, _, _, _, rfl, Nat.le_refl _⟩, zo⟩), (by exact ⟨zo, zo, zo, zo, zo, zo, zo, zo⟩), (laY (by exact lbc _)), zo⟩), j + 1, ys ++ [y], by omega, rfl, by simp [hys], by rw [hinv, List.append_assoc]; rfl, rfl, rfl⟩
          | false =>
            rw [hs] at hsm
            rw [show asT y p q (m + 1 + nodesL (a.l.take j)) = .mk 10 (m + 1 + nodesL (a.l.take j)) q p [y] by unfold asT; rw [hs]; rfl] at hinv
            refine zV (lal hsm rfl (by refine zC2 ?_;refine zC2 ?_;exact rfl)) ?_
            refine zV laz ?_;refine znD ?_
            refine AW.midC (fun t h => t = tOfL [(2, .one (.int .i64 m)), (3, .one (.ptr 3 0)), (6, .one (.ptr 6 0)), (8, .one (slOf 2 (tyRows env'))), (9, .one (slOf 2 (tyRows ks))), (10, .one (slOf 2 (tyRows ws))), (17, .one (.int .i64 (m + 1 + nodesL (a.l.take (j))))), (19, .one (.ptr 19 0)), (20, .one (.ptr 20 0)), (108, .one (slOf 7 (tmRows a.l))), (109, .one (.int .i64 ((tmRows a.l).length : Nat))), (110, .one (.int .i64 ((j : Nat) : Int)))] ∧ h = ofL [(3, .obj [.int .i64 a.k, .int .i64 a.n, .int .i64 a.t.k, slOf 2 (tyRows a.t.l), .int .i64 a.f.k, slOf 2 (tyRows a.f.l), .own 107 (j) (j)]), (6, .obj Tm.zero.c), (19, .obj a.l[j].c), (20, .obj (Tm.mk 10 (m + 1 + nodesL (a.l.take (j))) q p [y]).c), (107, .row 27 7 (j) (tmRows ys))]) ?_ ?_
            · have hyc : (Tm.mk 10 (m + 1 + nodesL (a.l.take j)) q p [y]).c = [.int .i64 10, .int .i64 (m + 1 + nodesL (a.l.take j)), .int .i64 q.k, slOf 2 (tyRows q.l), .int .i64 p.k, slOf 2 (tyRows p.l), slOf 7 [y.c]] := by
                show [_, _, _, _, _, _, slOf 7 (tmRows [y])] = _
                simp only [tmRows, Tm.cells_c]; rfl
              rw [hyc]
              refine zcT ?_;refine zRD ?_;refine zV laa ?_;refine zV laa ?_;refine zV laa ?_;refine zV (lap _) ?_;refine zV lao ?_;refine zV laa ?_;refine zV laa ?_;refine zV (lap _) ?_;refine zV lao ?_;refine zV laj ?_;refine zV laF ?_;refine zV laq ?_;refine zE laf ?_;refine znD ?_
              exact ⟨_, _, (laZ [(2, .one (.int .i64 m)), (3, .one (.ptr 3 0)), (6, .one (.ptr 6 0)), (8, .one (slOf 2 (tyRows env'))), (9, .one (slOf 2 (tyRows ks))), (10, .one (slOf 2 (tyRows ws))), (17, .one (.int .i64 (m + 1 + nodesL (a.l.take (j))))), (19, .one (.ptr 19 0)), (20, .one (.ptr 20 0)), (108, .one (slOf 7 (tmRows a.l))), (109, .one (.int .i64 ((tmRows a.l).length : Nat))), (110, .one (.int .i64 ((j : Nat) : Int)))] [(3, .obj [.int .i64 a.k, .int .i64 a.n, .int .i64 a.t.k, slOf 2 (tyRows a.t.l), .int .i64 a.f.k, slOf 2 (tyRows a.f.l), .own 107 (j) (j)]), (6, .obj Tm.zero.c), (19, .obj a.l[j].c), (20, .obj [.int .i64 10, .int .i64 (m + 1 + nodesL (a.l.take j)), .int .i64 q.k, slOf 2 (tyRows q.l), .int .i64 p.k, slOf 2 (tyRows p.l), slOf 7 [y.c]]), (107, .row 27 7 (j) (tmRows ys))] [] [] ⟨(zw rfl zo), (zw rfl zo), (zw rfl zo), (by exact WkU.of_eq rfl zo), (by exact WkU.of_eq rfl zo), (by exact WkU.of_eq rfl zo), (zw rfl zo), (zw rfl zo), (zw rfl zo), (by exact WkU.of_eq rfl zo), (zw rfl zo), (zw rfl zo), zo⟩ ⟨(by exact zb rfl), (by exact zb rfl), (by exact zb rfl), (by (refine Or.inl ⟨_, rfl, ?_⟩; show All2 _ _ _; exact ⟨WkC.le (LeC.refl _), WkC.le (LeC.refl _), WkC.le (LeC.refl _), WkC.le (LeC.refl _), WkC.le (LeC.refl _), WkC.le (LeC.refl _), WkC.le (LeC.slF (LeRows.refl _)), zo⟩)), (by exact zb rfl), zo⟩ trivial zo rfl rfl ⟨zo, ⟨_, rfl⟩, ⟨_, rfl⟩, zo, zo, zo, zo, ⟨_, rfl⟩, ⟨_, rfl⟩, zo, zo, zo, zo⟩ ⟨(by exact ⟨zo, zo, zo, zo, zo, zo, ⟨_, _, _, _, rfl, Nat.le_refl _⟩, zo⟩), (by exact ⟨zo, zo, zo, zo, zo, zo, zo, zo⟩), (by exact ⟨zo, zo, zo, zo, zo, zo, zo, zo⟩), (by exact ⟨zo, zo, zo, zo, zo, zo, zo, zo⟩), (laY (by exact lbc _)), zo⟩), rfl, rfl⟩
            · rintro t h ⟨rfl, rfl⟩
              generalize Tm.mk 10 (m + 1 + nodesL (a.l.take j)) q p [y] = z at *
              have hno := lf7 a.l[j] (by omega)
              refine zQ ?_;refine zV lad ?_;refine zV lae ?_;refine zV laj ?_;refine zV laF ?_
              refine zM (laK (by exact rfl) (by exact rfl) (by exact rfl) (by exact .inl rfl) (by exact htk) (by exact ⟨rfl, zo⟩) (by simp only [List.length_cons, List.length_nil]; omega)) ?_
              rw [show tmRows ys ++ [z.c] = tmRows (ys ++ [z]) by rw [lbs]; simp [tmRows, Tm.cells_c]]
              refine zV lad ?_;refine zE lax ?_;refine zn (zR ?_);refine zV laa ?_;refine zV laj ?_
              refine zV (lal hno rfl (by refine zC7 ?_;exact rfl)) ?_
              refine zV laI ?_;refine zV lab ?_;refine zn (zR ?_);refine zV laD ?_;refine zV laa ?_;refine zn ?_
              rw [show m + 1 + ((nodesL (a.l.take j) : Nat) : Int) + ((a.l[j].nodes : Nat) : Int) = m + 1 + ((nodesL (a.l.take (j + 1)) : Nat) : Int) by rw [hnt]; omega] at hinv ⊢
              exact ⟨a.l.length - (j + 1), _, _, by omega, (laZ [(2, .one (.int .i64 m)), (3, .one (.ptr 3 0)), (6, .one (.ptr 6 0)), (8, .one (slOf 2 (tyRows env'))), (9, .one (slOf 2 (tyRows ks))), (10, .one (slOf 2 (tyRows ws))), (17, .one (.int .i64 (m + 1 + nodesL (a.l.take (j + 1))))), (108, .one (slOf 7 (tmRows a.l))), (109, .one (.int .i64 ((tmRows a.l).length : Nat))), (110, .one (.int .i64 (((j + 1) : Nat) : Int)))] [(3, .obj [.int .i64 a.k, .int .i64 a.n, .int .i64 a.t.k, slOf 2 (tyRows a.t.l), .int .i64 a.f.k, slOf 2 (tyRows a.f.l), .own 107 ((j + 1)) ((j + 1))]), (6, .obj Tm.zero.c), (107, .row 27 7 ((j + 1)) (tmRows ((ys ++ [z]))))] [] [] ⟨(zw rfl zo), (zw rfl zo), (zw rfl zo), (by exact WkU.of_eq rfl zo), (by exact WkU.of_eq rfl zo), (by exact WkU.of_eq rfl zo), (zw rfl zo), (by exact WkU.of_eq rfl zo), (zw rfl zo), (zw rfl zo), zo⟩ ⟨(by exact zb rfl), (by exact zb rfl), (by exact zb rfl), zo⟩ trivial zo rfl rfl ⟨zo, ⟨_, rfl⟩, ⟨_, rfl⟩, zo, zo, zo, zo, zo, zo, zo, zo⟩ ⟨(by exact ⟨zo, zo, zo, zo, zo, zo, ⟨_, _, _, _, rfl, Nat.le_refl _⟩, zo⟩), (by exact ⟨zo, zo, zo, zo, zo, zo, zo, zo⟩), (laY (by exact lbc _)), zo⟩), j + 1, ys ++ [z], by omega, rfl, by simp [hys], by rw [hinv, List.append_assoc]; rfl, rfl, rfl⟩
    | true =>
      have hil : i < a.l.length := by simp at hlt; omega
      have hr1 := lbJ hil
      have hmem : a.l[i] ∈ a.l := List.getElem_mem hil
      have hn3 := lb9 hmem
      have hgi := lbB hgl _ hmem
      have hc := typeOf_a a.l[i] env' hgi hwr (by omega)
      have hrows : tyRows (kindsR (a.l.take i) env') ++ [(tyT a.l[i] env').1.c] = tyRows (kindsR (a.l.take (i + 1)) env') := by
        rw [kindsR_take hil, lcb]; simp [tyRows, Ty.cells_c]
      refine zQ ?_;refine zV lac ?_;refine zn (zq ?_);refine zaT ?_;refine zsk (zq (zbl (zQ ?_)));refine zV (lap _) ?_;refine zV lao ?_;refine zM lah ?_;refine zE laf ?_;refine zn (zQ ?_);refine zV laj ?_;refine zV laa ?_
      refine zV (lal hc rfl (by refine zC7 ?_;refine zC ?_;exact rfl)) ?_
      refine zV laB ?_;refine zV las ?_;refine zV lar ?_;refine zM lah ?_;refine zE laf ?_;refine zV lab ?_;refine zn ?_;refine zRD ?_;refine zV laa ?_;refine zV laj ?_;refine zV laF ?_
      refine zM (laK (by exact rfl) (by exact rfl) (by exact rfl) (by exact .inl rfl) (by exact htk) (by exact ⟨rfl, zo⟩) (by simp only [List.length_cons, List.length_nil]; omega)) ?_
      refine zV laa ?_;refine zV laj ?_;refine zV laF ?_
      refine zM (laK (by exact rfl) (by exact rfl) (by exact rfl) (by exact .inl rfl) (by exact htk) (by exact ⟨rfl, zo⟩) (by simp only [List.length_cons, List.length_nil]; omega)) ?_
      rw [hrows]
      refine zV lab ?_;refine zV lab ?_;refine znD ?_;refine zR ?_;refine zV laD ?_;refine zV laa ?_;refine zn ?_
      exact ⟨a.l.length - (i + 1), _, _, by omega, (laZ [(2, .one (.int .i64 m)), (3, .one (.ptr 3 0)), (6, .one (.ptr 6 0)), (7, .one (.ptr 7 0)), (8, .one (slOf 2 (tyRows (env')))), (9, .one (.own 105 ((i + 1)) ((i + 1)))), (10, .one (.own 106 ((i + 1)) ((i + 1)))), (32, .one (slOf 7 (tmRows a.l))), (33, .one (.int .i64 ((tmRows a.l).length : Nat))), (34, .one (.int .i64 (((i + 1) : Nat) : Int)))] [(3, .obj a.c), (6, .obj Tm.zero.c), (7, .obj Ty.num.c), (105, .row 24 2 ((i + 1)) (tyRows (kindsR (a.l.take (i + 1)) env'))), (106, .row 24 2 ((i + 1)) (tyRows (kindsR (a.l.take (i + 1)) env')))] [] [] ⟨(zw rfl zo), (zw rfl zo), (zw rfl zo), (zw rfl zo), (by exact WkU.of_eq rfl zo), (by exact WkU.of_eq rfl zo), (by exact WkU.of_eq rfl zo), (by exact WkU.of_eq rfl zo), (zw rfl zo), (zw rfl zo), zo⟩ ⟨(by exact zb rfl), (by exact zb rfl), (by exact zb rfl), (by exact zb rfl), (by exact zb rfl), zo⟩ trivial zo rfl rfl ⟨zo, ⟨_, rfl⟩, ⟨_, rfl⟩, ⟨_, rfl⟩, zo, ⟨_, _, _, _, rfl, Nat.le_refl _⟩, ⟨_, _, _, _, rfl, Nat.le_refl _⟩, zo, zo, zo, zo⟩ ⟨(by exact ⟨zo, zo, zo, zo, zo, zo, zo, zo⟩), (by exact ⟨zo, zo, zo, zo, zo, zo, zo, zo⟩), (by exact ⟨zo, zo, zo⟩), (laY (by exact la9 _)), (laY (by exact la9 _)), zo⟩), i + 1, by omega, rfl, rfl, rfl⟩
set_option maxHeartbeats 4000000 in
theorem checkTerm_a (a : Tm) (hok : TmOk a) (hdp : TmDp a) (hsz : a.nodes ≤ 1048576) : ACalls Tryz.prog 21 [a.u] [] (checkU a) [] := by
  rw [← checkR_eq]
  refine zB Tryz.func21 ?_
  refine zQ ?_;refine zM lan ?_;refine zM lah ?_;refine zM lah ?_;refine zV lab ?_;refine zn (zq (zQ ?_));refine zV laj ?_
  refine zV (lal (isTerm_a a 0 hok hdp hsz) rfl (by refine zC7 ?_;refine zC ?_;exact rfl)) ?_
  cases hg : a.Good 0 with
  | false =>
    refine zV laz ?_;refine zn ?_;refine zcT ?_;refine zQ ?_;refine zV laq ?_
    refine zV (lal lb1) ?_
    refine zE laf ?_;refine zE laf ?_;refine zV lab ?_;refine zn (zre ?_)
    rw [show checkR a = errU 1 by unfold checkR; rw [hg]; rfl]
    refine rq ?_
    refine lbW (by exact .inr rfl) (by exact rfl) (by exact rfl) (by exact rfl) (by exact rfl) (by exact rfl) (by exact rfl) (by exact rfl) [] trivial (l' := Tm.zero.c) (k' := Ty.any.c) (by exact ⟨.le (.refl _), .le (.refl _), .le (.refl _), .le (.nil _), .le (.refl _), .le (.nil _), .le (.nil _), zo⟩) (by exact laX _) (by exact .le (.refl _)) (by exact zo) (by exact rfl) (by exact ⟨⟨zo, zo, zo, zo, zo, zo, zo, zo⟩, ⟨zo, zo, zo⟩, zo, zo⟩) (by exact zo) (by exact rfl)
  | true =>
  have hg' := hg
  unfold Tm.Good at hg'
  simp only [Bool.and_eq_true, decide_eq_true_eq] at hg'
  have hty := typeOf_a a [] hg'.2 (fun t h => by cases h) (by simpa using hsz)
  cases ho : (tyT a []).2 with
  | false =>
    rw [ho] at hty
    refine zV laz ?_;refine zn ?_;refine zcF ?_;refine zsk (zQ ?_);refine zV laj ?_
    refine zV (lal hty rfl (by refine zC7 ?_;refine ⟨_, _, rfl, (by exact LeU.one' rfl (LeC.nil _)), (by exact zo), ?_⟩;exact rfl)) ?_
    refine zV laB ?_;refine zV las ?_;refine zV lar ?_;refine zM lah ?_;refine zE laf ?_;refine zV lab ?_;refine zn (zq (zQ ?_));refine zV laa ?_;refine zV laz ?_;refine zn ?_;refine zcT ?_;refine zQ ?_;refine zV laq ?_
    refine zV (lal lb1) ?_
    refine zE laf ?_;refine zE laf ?_;refine zV lab ?_;refine zn (zre ?_)
    rw [show checkR a = errU 2 by unfold checkR; rw [hg, ho]; rfl]
    refine rq ?_
    refine lbW (by exact .inr rfl) (by exact rfl) (by exact rfl) (by exact rfl) (by exact rfl) (by exact rfl) (by exact rfl) (by exact rfl) [] trivial (l' := Tm.zero.c) (k' := Ty.any.c) (by exact ⟨.le (.refl _), .le (.refl _), .le (.refl _), .le (.nil _), .le (.refl _), .le (.nil _), .le (.nil _), zo⟩) (by exact laX _) (by exact .le (.refl _)) (by exact zo) (by exact rfl) (by exact ⟨⟨zo, zo, zo, zo, zo, zo, zo, zo⟩, ⟨zo, zo, zo⟩, zo, zo⟩) (by exact zo) (by exact rfl)
  | true =>
    rw [ho] at hty
    refine zV laz ?_;refine zn ?_;refine zcF ?_;refine zsk (zQ ?_);refine zV laj ?_
    refine zV (lal hty rfl (by refine zC7 ?_;refine ⟨_, _, rfl, (by exact LeU.one' rfl (LeC.nil _)), (by exact zo), ?_⟩;exact rfl)) ?_
    refine zV laB ?_;refine zV las ?_;refine zV lar ?_;refine zM lah ?_;refine zE laf ?_;refine zV lab ?_;refine zn (zq (zQ ?_));refine zV laa ?_;refine zV laz ?_;refine zn ?_;refine zcF ?_;refine zsk (zq ?_);refine zRD ?_;refine zV laj ?_
    refine zV (lal (withCasts_a a [] 0 hg'.2 (fun t h => by cases h) ho (Int.le_refl _) (by omega) (by simpa using hsz)) rfl (by refine zC7 ?_;refine ⟨_, _, rfl, (by exact LeU.one' rfl (LeC.nil _)), (by exact zo), ?_⟩;refine zC ?_;exact rfl)) ?_
    refine zV laj ?_;refine zE laf ?_;refine zE laf ?_;refine zV lab ?_;refine znD ?_;refine zre ?_
    rw [show checkR a = walkU (some (wcT a [] 0, (tyT a []).1)) by unfold checkR; rw [hg, ho]; rfl]
    refine rq ?_
    refine lbW (by exact .inr rfl) (by exact rfl) (by exact rfl) (by exact rfl) (by exact rfl) (by exact rfl) (by exact rfl) (by exact rfl) [] trivial (l' := (wcT a [] 0).c) (k' := ((tyT a []).1).c) (by exact laX _) (by exact laX _) (by exact .le (.refl _)) (by exact zo) (by exact rfl) (by exact ⟨⟨zo, zo, zo, zo, zo, zo, zo, zo⟩, ⟨zo, zo, zo⟩, zo, zo⟩) (by exact zo) (by exact rfl)
def RdOk (r : Rd) : Prop := ∀ w ∈ r.ws, w.size ≤ 4294967296
theorem lbE {r : Rd} (h : RdOk r) : RdOk r.next.2 ∧ r.next.1.size ≤ 4294967296 := by
  unfold Rd.next
  split
  · exact ⟨fun w hw => (by cases hw), by show (0 : Nat) ≤ _; decide⟩
  · rename_i w ws e
    exact ⟨fun x hx => h x (by rw [e]; exact List.mem_cons_of_mem _ hx), h w (by rw [e]; exact List.mem_cons_self ..)⟩
theorem close_okR {r : Rd} (h : RdOk r) : RdOk r.close := (lbE h).1
theorem ldW : ∀ (d : Nat) (r : Rd), RdOk r → RdOk (readK d r).2
  | 0, r, h => by
    simp only [readK]
    split
    · exact (lbE (lbE h).1).1
    · exact (lbE h).1
  | d + 1, r, h => by
    have hq : RdOk (if sEq r.next.1 sLp = true then r.next.2.next else r.next).2 := by
      split
      · exact (lbE (lbE h).1).1
      · exact (lbE h).1
    simp only [readK]
    generalize (if sEq r.next.1 sLp = true then r.next.2.next else r.next) = q at hq
    cases kFrom q.1 (sEq r.next.1 sLp) 4 with
    | none => exact hq
    | some k =>
      simp only
      split
      · exact close_okR (ldW d _ (ldW d _ hq))
      · exact hq
theorem number_okR {r : Rd} {s : ByteArray} (h : RdOk r) : RdOk (r.number s).2 := by
  unfold Rd.number; split <;> exact h
theorem lf8 {f : Rd → Tm × Rd} (hf : ∀ r, RdOk r → RdOk (f r).2) : ∀ (n : Nat) (r : Rd), RdOk r → RdOk (readN f n r).2
  | 0, r, h => h
  | n + 1, r, h => lf8 hf n _ (hf r h)
theorem readT_okR : ∀ (n : Nat) (r : Rd), RdOk r → RdOk (readT n r).2
  | 0, r, h => (lbE h).1
  | n + 1, r, h => by
    have h1 := (lbE h).1
    simp only [readT]
    split
    · exact h1
    split
    · exact h1
    split
    · exact number_okR h1
    split
    · exact number_okR h1
    split
    · exact (lbE h1).1
    · simp only [readB]
      refine close_okR (lf8 (readT_okR n) _ _ ?_)
      split
      · exact ldW 4 _ (lbE h1).1
      · exact (lbE h1).1
theorem readN_snoc (f : Rd → Tm × Rd) : ∀ (n : Nat) (r : Rd), readN f (n + 1) r = ((readN f n r).1 ++ [(f (readN f n r).2).1], (f (readN f n r).2).2)
  | 0, r => rfl
  | n + 1, r => by
    show ((f r).1 :: (readN f (n + 1) (f r).2).1, (readN f (n + 1) (f r).2).2) = _
    rw [readN_snoc f n (f r).2]; rfl
theorem words_get {i : Nat} (h : i < 10) : wordsC[i]? = some (.str (wordsL.getD i sNil)) := by
  match i, h with
  | 0, _ | 1, _ | 2, _ | 3, _ | 4, _ | 5, _ | 6, _ | 7, _ | 8, _ | 9, _ => rfl
theorem arity_get {i : Nat} (h : i < 10) : arityC[((i : Nat) : Int).toNat * 1]? = some (.int .i64 (arity i)) := by
  match i, h with
  | 0, _ | 1, _ | 2, _ | 3, _ | 4, _ | 5, _ | 6, _ | 7, _ | 8, _ | 9, _ => rfl
theorem arity_le {i : Nat} (h : i < 10) : ∃ a : Nat, arity i = a ∧ a ≤ 3 := by
  match i, h with
  | 0, _ | 1, _ | 2, _ | 3, _ | 4, _ | 5, _ | 6, _ | 7, _ | 8, _ | 9, _ => exact ⟨_, rfl, by decide⟩
theorem lfc {s : ByteArray} {i : Nat} (h : i < 10) : wFrom s (10 - i) = if wAt s i then some i else wFrom s (10 - (i + 1)) := by
  obtain ⟨n, hn⟩ : ∃ n, 10 - i = n + 1 := ⟨9 - i, by omega⟩
  rw [hn, show 10 - (i + 1) = n by omega]
  simp only [wFrom]
  rw [show 9 - n = i by omega]
theorem hash_size {s : ByteArray} (h : Lib.hasPrefix s.data.toList sHash.data.toList = true) : 1 ≤ s.size := by
  unfold Lib.hasPrefix at h
  have := List.IsPrefix.length_le (List.isPrefixOf_iff_prefix.1 h)
  rw [Array.length_toList] at this
  exact this
theorem ldv {P : Program} {x : Tmp} {tx : TypeId} {bx : Nat} {e : Exit} {t : Nat → U} {h : Nat → Option Blk} {r : Rd} {a : Tm} {l k : List C} {fz : List Nat} [T : TAgg P tx 7] (he : e = .normal ∨ e = .ret) (hx : t x = .one (.ptr bx 0)) (hbx : h bx = some (.obj k)) (hfz : AllP (ClosedAt h) fz) (hd : disj fz [1000] = true) (hk : All2 (WkC h fz []) k a.c) (hb : h 1000 = some (.obj l)) (hl : All2 (WkC h fz []) l r.c) : RetQ P #[.cell x tx] a.u [(1000, .obj r.c)] e t h := by
  have hlen : k.length = 7 := hk.length
  exact ⟨he, [.agg k], ⟨⟨bx, k, hx, hbx, .inl ⟨7, T, hlen, rfl⟩⟩, zo⟩, ⟨zo, zo⟩, .agg k, rfl, fz, hfz, hk, ⟨⟨_, hb, hl⟩, zo⟩, hd, ⟨zo, zo, zo, zo, zo, zo, zo, zo⟩, ⟨⟨zo, zo, zo⟩, zo⟩⟩
theorem tleaf {h : Nat → Option Blk} {k n : Int} : All2 (WkC h [] []) [.int .i64 k, .int .i64 n, .int .i64 0, .nilsl, .int .i64 0, .nilsl, .nilsl] (Tm.mk k n .any .any []).c := ⟨.le (.refl _), .le (.refl _), .le (.refl _), .le (.nil _), .le (.refl _), .le (.nil _), .le (.nil _), trivial⟩
set_option maxHeartbeats 40000000 in
theorem term_a : ∀ (n : Nat), n ≤ 40 → ∀ (r : Rd), RdOk r → ACalls Tryz.prog 31 [.one (.ptr 1000 0), .one (.int .i64 (n : Int))] [(1000, .obj (Rd.c (r)))] (readT n r).1.u [(1000, .obj (Rd.c ((readT n r).2)))] := by
  intro n
  induction n with
  | zero =>
    intro hn r hr
    refine zB1 Tryz.func31 ?_
    refine zQ ?_;refine zM lah ?_;refine zn (zQ ?_);refine zV laa ?_
    refine zY (lat (ldT (r)) rfl (by refine ⟨_, _, rfl, (by exact LeU.of_eq rfl zo), (by exact Exists.intro _ rfl), ?_⟩;exact rfl) (by exact ⟨rfl, zo⟩) (by exact rfl) (by simp [namesL]) (by exact ⟨⟨zo, zo, zo⟩, zo⟩)) ?_
    cases hb : r.next.2.bad with
    | true =>
      refine zV lab ?_;refine zn (zq (zbl (zQ ?_)));refine zV laa ?_;refine zV lag ?_;refine zV lad ?_;refine zV lae ?_;refine zV laa ?_;refine zt ?_;refine zt ?_;refine zV (lam true) ?_;refine zV lab ?_;refine zn ?_;refine zcT ?_;refine zQ ?_;refine zV laa ?_;refine zV lag ?_;refine zV lad ?_;refine zE lax ?_;refine zn (zQ ?_);refine zV laq ?_;refine zE laf ?_;refine zn (zre ?_)
      refine rq ?_
      exact ldv (by exact .inr rfl) (by exact rfl) (by exact rfl) (fz := []) zo rfl tleaf (by exact rfl) (by exact laX _)
    | false =>
      refine zV lab ?_;refine zn (zq (zbl (zQ ?_)));refine zV laa ?_;refine zV lag ?_;refine zV lad ?_;refine zV lae ?_;refine zV laa ?_;refine zF laa ?_;refine zF lac ?_;refine zV (lam false) ?_;refine zV lab ?_;refine zn ?_;refine zcT ?_;refine zQ ?_;refine zV laa ?_;refine zV lag ?_;refine zV lad ?_;refine zE lax ?_;refine zn (zQ ?_);refine zV laq ?_;refine zE laf ?_;refine zn (zre ?_)
      refine rq ?_
      exact ldv (by exact .inr rfl) (by exact rfl) (by exact rfl) (fz := []) zo rfl tleaf (by exact rfl) (by exact laX _)
  | succ n ih =>
    intro hn r hr
    have ih := ih (by omega)
    have ih2 : ∀ (r : Rd), RdOk r → ACalls Tryz.prog 31 [.one (.ptr 1000 0), .one (.int .i64 (((n + 1 : Nat) : Int) - 1))] [(1000, .obj (Rd.c (r)))] (readT n r).1.u [(1000, .obj (Rd.c ((readT n r).2)))] := fun r hr => by
      rw [show (((n + 1 : Nat) : Int) - 1) = (n : Int) by omega]; exact ih r hr
    have hz : ((((n + 1 : Nat)) : Int) == 0) = false := by rw [beq_eq_false_iff_ne]; omega
    obtain ⟨hr1, hs1⟩ := lbE hr
    obtain ⟨hr2, hs2⟩ := lbE hr1
    refine zB1 Tryz.func31 ?_
    refine zQ ?_;refine zM lah ?_;refine zn (zQ ?_);refine zV laa ?_
    refine zY (lat (ldT (r)) rfl (by refine ⟨_, _, rfl, (by exact LeU.of_eq rfl zo), (by exact Exists.intro _ rfl), ?_⟩;exact rfl) (by exact ⟨rfl, zo⟩) (by exact rfl) (by simp [namesL]) (by exact ⟨⟨zo, zo, zo⟩, zo⟩)) ?_
    cases hb : r.next.2.bad with
    | true =>
      rw [show readT (n + 1) r = (Tm.zero, r.next.2.fail) by simp only [readT]; rw [hb]; rfl]
      refine zV lab ?_;refine zn (zq (zbl (zQ ?_)));refine zV laa ?_;refine zV lag ?_;refine zV lad ?_;refine zV lae ?_;refine zV laa ?_;refine zt ?_;refine zt ?_;refine zV (lam true) ?_;refine zV lab ?_;refine zn ?_;refine zcT ?_;refine zQ ?_;refine zV laa ?_;refine zV lag ?_;refine zV lad ?_;refine zE lax ?_;refine zn (zQ ?_);refine zV laq ?_;refine zE laf ?_;refine zn (zre ?_)
      refine rq ?_
      exact ldv (by exact .inr rfl) (by exact rfl) (by exact rfl) (fz := []) zo rfl tleaf (by exact rfl) (by exact laX _)
    | false =>
    refine zV lab ?_;refine zn (zq (zbl (zQ ?_)));refine zV laa ?_;refine zV lag ?_;refine zV lad ?_;refine zV lae ?_;refine zV laa ?_;refine zF laa ?_;refine zF lac ?_;refine zV (lam false) ?_;refine zV lab ?_;refine zn ?_;refine zcF ?_;refine zQ ?_;refine zV laa ?_
    refine zV (laL (b := sYes) (by exact rfl) (by exact rfl)) ?_
    cases hy : sEq r.next.1 sYes with
    | true =>
      rw [show readT (n + 1) r = (.mk 3 1 .any .any [], r.next.2) by simp only [readT]; rw [hb, hy]; rfl]
      refine zV laa ?_;refine zs ?_;refine zs ?_;refine zV laA ?_;refine zV lab ?_;refine zn ?_;refine zcT ?_;refine zQ ?_;refine zV laq ?_;refine zM lah ?_;refine zE laf ?_;refine zn (zq (zQ ?_));refine zV laa ?_
      refine zV (laL (b := sYes) (by exact rfl) (by exact rfl)) ?_
      rw [hy]
      refine zn ?_;refine zcT ?_;refine zR ?_;refine zV lad ?_;refine zE lax ?_;refine zn (zQ ?_);refine zV laj ?_;refine zE laf ?_;refine zn (zre ?_)
      refine rq ?_
      exact ldv (by exact .inr rfl) (by exact rfl) (by exact rfl) (fz := []) zo rfl tleaf (by exact rfl) (by exact laX _)
    | false =>
    refine zV laa ?_;refine zI laa ?_
    refine zI (laL (b := sNo) (by exact rfl) (by exact rfl)) ?_
    cases hno : sEq r.next.1 sNo with
    | true =>
      rw [show readT (n + 1) r = (.mk 3 0 .any .any [], r.next.2) by simp only [readT]; rw [hb, hy, hno]; rfl]
      refine zV law ?_;refine zV lab ?_;refine zn ?_;refine zcT ?_;refine zQ ?_;refine zV laq ?_;refine zM lah ?_;refine zE laf ?_;refine zn (zq (zQ ?_));refine zV laa ?_
      refine zV (laL (b := sYes) (by exact rfl) (by exact rfl)) ?_
      rw [hy]
      refine zn ?_;refine zcF ?_;refine zsk (zQ ?_);refine zV laj ?_;refine zE laf ?_;refine zn (zre ?_)
      refine rq ?_
      exact ldv (by exact .inr rfl) (by exact rfl) (by exact rfl) (fz := []) zo rfl tleaf (by exact rfl) (by exact laX _)
    | false =>
    refine zV law ?_;refine zV lab ?_;refine zn ?_;refine zcF ?_;refine zQ ?_;refine zV laa ?_
    refine zV (lal (hasPrefix_a r.next.1 sHash) rfl (by refine zC ?_;refine zC ?_;exact rfl)) ?_
    cases hh : Lib.hasPrefix r.next.1.data.toList sHash.data.toList with
    | true =>
      have hsz := hash_size hh
      rw [show readT (n + 1) r = (.mk 1 (r.next.2.number (r.next.1.extract 1 r.next.1.size)).1 .any .any [], (r.next.2.number (r.next.1.extract 1 r.next.1.size)).2) by simp only [readT]; rw [hb, hy, hno, hh]; rfl]
      refine zV lab ?_;refine zn ?_;refine zcT ?_;refine zQ ?_;refine zV laa ?_;refine zV laa ?_
      refine zV (loc_sliceStr1 (by exact rfl) hsz) ?_
      refine zY (lat (number_a (r.next.2) (r.next.1.extract 1 r.next.1.size) (by rw [ByteArray.size_extract]; omega)) rfl (by refine ⟨_, _, rfl, (by exact LeU.of_eq rfl zo), (by exact Exists.intro _ rfl), ?_⟩;refine zC ?_;exact rfl) (by exact ⟨rfl, zo⟩) (by exact rfl) (by simp [namesL]) (by exact ⟨⟨zo, zo, zo⟩, zo⟩)) ?_
      refine zV laq ?_;refine zE laf ?_;refine zn (zre ?_)
      refine rq ?_
      exact ldv (by exact .inr rfl) (by exact rfl) (by exact rfl) (fz := []) zo rfl tleaf (by exact rfl) (by exact laX _)
    | false =>
    refine zV lab ?_;refine zn ?_;refine zcF ?_;refine zQ ?_;refine zV laa ?_
    refine zV (laN (b := sLp) (by exact rfl) (by exact rfl)) ?_
    cases hp : sEq r.next.1 sLp with
    | false =>
      rw [show readT (n + 1) r = (.mk 2 (r.next.2.number r.next.1).1 .any .any [], (r.next.2.number r.next.1).2) by simp only [readT]; rw [hb, hy, hno, hh, hp]; rfl]
      refine zV lab ?_;refine zn ?_;refine zcT ?_;refine zQ ?_;refine zV laa ?_;refine zV laa ?_
      refine zY (lat (number_a (r.next.2) (r.next.1) (by omega)) rfl (by refine ⟨_, _, rfl, (by exact LeU.of_eq rfl zo), (by exact Exists.intro _ rfl), ?_⟩;refine zC ?_;exact rfl) (by exact ⟨rfl, zo⟩) (by exact rfl) (by simp [namesL]) (by exact ⟨⟨zo, zo, zo⟩, zo⟩)) ?_
      refine zV laq ?_;refine zE laf ?_;refine zn (zre ?_)
      refine rq ?_
      exact ldv (by exact .inr rfl) (by exact rfl) (by exact rfl) (fz := []) zo rfl tleaf (by exact rfl) (by exact laX _)
    | true =>
    have hrd : readT (n + 1) r = match wFrom r.next.2.next.1 10 with | none => (Tm.zero, r.next.2.next.2.fail) | some k => readB (readT n) k r.next.2.next.2 := by
      simp only [readT]; rw [hb, hy, hno, hh, hp]; rfl
    rw [hrd]
    refine zV lab ?_;refine zn ?_;refine zcF ?_;refine zsk (zQ ?_);refine zV laa ?_
    refine zY (lat (ldT (r.next.2)) rfl (by refine ⟨_, _, rfl, (by exact LeU.of_eq rfl zo), (by exact Exists.intro _ rfl), ?_⟩;exact rfl) (by exact ⟨rfl, zo⟩) (by exact rfl) (by simp [namesL]) (by exact ⟨⟨zo, zo, zo⟩, zo⟩)) ?_
    refine zV lab ?_;refine zn (zq (zQ ?_));refine zV lao ?_;refine zV laa ?_;refine zn (zbl ?_)
    refine AW.gh (laZ [(0, .one (.ptr 1000 0)), (1, .one (.int .i64 ((n + 1 : Nat) : Int))), (4, .one (.ptr 4 0)), (5, .one (.str r.next.2.next.1)), (54, .agg wordsC), (55, .one (.int .i64 ((0 : Nat) : Int)))] [(1000, .obj (Rd.c r.next.2.next.2)), (4, .obj [.int .i64 0, .int .i64 0, .int .i64 0, .nilsl, .int .i64 0, .nilsl, .nilsl])] [] [] ⟨(zw rfl zo), (zw rfl zo), (zw rfl zo), (by exact WkU.of_eq rfl zo), (by exact WkU.of_eq rfl zo), (zw rfl zo), zo⟩ ⟨(by exact zb rfl), (by exact zb rfl), zo⟩ trivial zo rfl rfl ⟨⟨_, rfl⟩, zo, ⟨_, rfl⟩, zo, (by exact ⟨zo, zo, zo, zo, zo, zo, zo, zo, zo, zo, zo⟩), zo, zo⟩ ⟨(by exact ⟨zo, zo, zo⟩), (by exact ⟨zo, zo, zo, zo, zo, zo, zo, zo⟩), zo⟩) ?_
    refine AW.loop (fun m t' h => ∃ i : Nat, i ≤ 10 ∧ m = 10 - i ∧ wFrom r.next.2.next.1 10 = wFrom r.next.2.next.1 (10 - i) ∧ t' = tOfL [(0, .one (.ptr 1000 0)), (1, .one (.int .i64 ((n + 1 : Nat) : Int))), (4, .one (.ptr 4 0)), (5, .one (.str r.next.2.next.1)), (54, .agg wordsC), (55, .one (.int .i64 ((i : Nat) : Int)))] ∧ h = ofL [(1000, .obj (Rd.c r.next.2.next.2)), (4, .obj [.int .i64 0, .int .i64 0, .int .i64 0, .nilsl, .int .i64 0, .nilsl, .nilsl])]) 10 ⟨0, by omega, rfl, rfl, rfl, rfl⟩ ?_
    rintro m t' h ⟨i, hi, rfl, hinv, rfl, rfl⟩
    cases hlt : decide ((i : Int) < 10) with
    | false =>
      have hi4 : i = 10 := by have := of_decide_eq_false hlt; omega
      subst hi4
      rw [show wFrom r.next.2.next.1 10 = none by rw [hinv]; rfl]
      refine zQ ?_;refine zV lac ?_;refine zn (zq ?_);refine zcF ?_;refine zex (zQ ?_);refine zV laa ?_;refine zV lag ?_;refine zV lad ?_;refine zE lax ?_;refine zn (zQ ?_);refine zV laq ?_;refine zE laf ?_;refine zn (zre ?_)
      refine rq ?_
      exact ldv (by exact .inr rfl) (by exact rfl) (by exact rfl) (fz := []) zo rfl tleaf (by exact rfl) (by exact laX _)
    | true =>
    have hi4 : i < 10 := by have := of_decide_eq_true hlt; omega
    have hg := words_get hi4
    refine zQ ?_;refine zV lac ?_;refine zn (zq ?_);refine zaT ?_;refine zsk (zq (zbl (zQ ?_)));refine zV laa ?_
    refine zV (ld7 (by exact rfl) (by exact rfl) hi4 hg) ?_
    refine zV lab ?_;refine zV lab ?_;refine zn (zq (zQ ?_));refine zV laa ?_
    refine zV (laL (b := sNil) (by exact rfl) (by exact rfl)) ?_
    cases h1 : sEq (wordsL.getD i sNil) sNil with
    | true =>
      have hk : wAt r.next.2.next.1 i = false := by unfold wAt; rw [h1]; rfl
      refine zV laa ?_;refine zs ?_;refine zs ?_;refine zs ?_;refine zV laA ?_;refine zn ?_;refine zcT ?_;refine zex (zR ?_);refine zV laD ?_;refine zV laa ?_;refine zn ?_
      exact ⟨10 - (i + 1), _, _, by omega, (laZ [(0, .one (.ptr 1000 0)), (1, .one (.int .i64 ((n + 1 : Nat) : Int))), (4, .one (.ptr 4 0)), (5, .one (.str r.next.2.next.1)), (54, .agg wordsC), (55, .one (.int .i64 (((i + 1) : Nat) : Int)))] [(1000, .obj (Rd.c r.next.2.next.2)), (4, .obj [.int .i64 0, .int .i64 0, .int .i64 0, .nilsl, .int .i64 0, .nilsl, .nilsl])] [] [] ⟨(zw rfl zo), (zw rfl zo), (zw rfl zo), (by exact WkU.of_eq rfl zo), (by exact WkU.of_eq rfl zo), (zw rfl zo), zo⟩ ⟨(by exact zb rfl), (by exact zb rfl), zo⟩ trivial zo rfl rfl ⟨⟨_, rfl⟩, zo, ⟨_, rfl⟩, zo, (by exact ⟨zo, zo, zo, zo, zo, zo, zo, zo, zo, zo, zo⟩), zo, zo⟩ ⟨(by exact ⟨zo, zo, zo⟩), (by exact ⟨zo, zo, zo, zo, zo, zo, zo, zo⟩), zo⟩), i + 1, by omega, by omega, by rw [hinv, lfc hi4, hk]; rfl, rfl, rfl⟩
    | false =>
    refine zV laa ?_;refine zI laa ?_;refine zI laa ?_
    refine zI laN ?_
    cases h2 : sEq (wordsL.getD i sNil) r.next.2.next.1 with
    | false =>
      have hk : wAt r.next.2.next.1 i = false := by unfold wAt; rw [h1, h2]; rfl
      refine zV law ?_;refine zn ?_;refine zcT ?_;refine zex (zR ?_);refine zV laD ?_;refine zV laa ?_;refine zn ?_
      exact ⟨10 - (i + 1), _, _, by omega, (laZ [(0, .one (.ptr 1000 0)), (1, .one (.int .i64 ((n + 1 : Nat) : Int))), (4, .one (.ptr 4 0)), (5, .one (.str r.next.2.next.1)), (54, .agg wordsC), (55, .one (.int .i64 (((i + 1) : Nat) : Int)))] [(1000, .obj (Rd.c r.next.2.next.2)), (4, .obj [.int .i64 0, .int .i64 0, .int .i64 0, .nilsl, .int .i64 0, .nilsl, .nilsl])] [] [] ⟨(zw rfl zo), (zw rfl zo), (zw rfl zo), (by exact WkU.of_eq rfl zo), (by exact WkU.of_eq rfl zo), (zw rfl zo), zo⟩ ⟨(by exact zb rfl), (by exact zb rfl), zo⟩ trivial zo rfl rfl ⟨⟨_, rfl⟩, zo, ⟨_, rfl⟩, zo, (by exact ⟨zo, zo, zo, zo, zo, zo, zo, zo, zo, zo, zo⟩), zo, zo⟩ ⟨(by exact ⟨zo, zo, zo⟩), (by exact ⟨zo, zo, zo, zo, zo, zo, zo, zo⟩), zo⟩), i + 1, by omega, by omega, by rw [hinv, lfc hi4, hk]; rfl, rfl, rfl⟩
    | true =>
    have hk : wAt r.next.2.next.1 i = true := by unfold wAt; rw [h1, h2]; rfl
    rw [show wFrom r.next.2.next.1 10 = some i by rw [hinv, lfc hi4, hk]; rfl]
    simp only
    have hk1 : ACalls Tryz.prog 49 [.one (.ptr 1000 0), .one (.int .i64 1)] [(1000, .obj (Rd.c (r.next.2.next.2)))] (readK 4 r.next.2.next.2).1.u [(1000, .obj (Rd.c ((readK 4 r.next.2.next.2).2)))] := kind_a 4 (by decide) r.next.2.next.2
    refine zV law ?_;refine zn ?_;refine zcF ?_;refine zsk (zQ ?_);refine zV laa ?_;refine zV laq ?_
    refine zM lah ?_
    refine zE laf ?_;refine zn ?_
    refine zq ?_
    refine AW.midB (fun t h => ∃ ty rd, (ty, rd) = (if ((i : Nat) : Int) == 7 || ((i : Nat) : Int) == 9 then readK 4 r.next.2.next.2 else (.any, r.next.2.next.2)) ∧ t = tOfL [(0, .one (.ptr 1000 0)), (1, .one (.int .i64 ((n + 1 : Nat) : Int))), (4, .one (.ptr 4 0)), (7, .one (.int .i64 ((i : Nat) : Int))), (9, .one (.ptr 9 0))] ∧ h = ofL [(1000, .obj (Rd.c rd)), (4, .obj [.int .i64 0, .int .i64 0, .int .i64 0, .nilsl, .int .i64 0, .nilsl, .nilsl]), (9, .obj [.int .i64 ((i : Nat) : Int), .int .i64 0, .int .i64 (Ty.k (ty)), slOf 2 (tyRows (Ty.l (ty))), .int .i64 0, .nilsl, .nilsl])]) ?_ ?_
    · cases h7 : (((i : Nat) : Int) == 7) with
      | true =>
        refine zQ ?_;refine zV laa ?_;refine zV lac ?_;refine zV laa ?_;refine zt ?_;refine zt ?_;refine zV (lam true) ?_;refine zn ?_;refine zcT ?_;refine zR ?_;refine zV laa ?_
        refine zY (lat (hk1) rfl (by refine ⟨_, _, rfl, (by exact LeU.of_eq rfl zo), (by exact Exists.intro _ rfl), ?_⟩;refine zC ?_;exact rfl) (by exact ⟨rfl, zo⟩) (by exact rfl) (by simp [namesL]) (by exact ⟨⟨zo, zo, zo⟩, zo⟩)) ?_
        refine zV lad ?_;refine zE lax ?_;refine zn ?_
        exact ⟨_, _, (laZ [(0, .one (.ptr 1000 0)), (1, .one (.int .i64 ((n + 1 : Nat) : Int))), (4, .one (.ptr 4 0)), (7, .one (.int .i64 ((i : Nat) : Int))), (9, .one (.ptr 9 0))] [(1000, .obj (Rd.c (readK 4 r.next.2.next.2).2)), (4, .obj [.int .i64 0, .int .i64 0, .int .i64 0, .nilsl, .int .i64 0, .nilsl, .nilsl]), (9, .obj [.int .i64 ((i : Nat) : Int), .int .i64 0, .int .i64 (Ty.k ((readK 4 r.next.2.next.2).1)), slOf 2 (tyRows (Ty.l ((readK 4 r.next.2.next.2).1))), .int .i64 0, .nilsl, .nilsl])] [] [] ⟨(zw rfl zo), (zw rfl zo), (zw rfl zo), (zw rfl zo), (zw rfl zo), zo⟩ ⟨(by exact zb rfl), (by exact zb rfl), (by exact zb rfl), zo⟩ trivial zo rfl rfl ⟨⟨_, rfl⟩, zo, ⟨_, rfl⟩, zo, ⟨_, rfl⟩, zo⟩ ⟨(by exact ⟨zo, zo, zo⟩), (by exact ⟨zo, zo, zo, zo, zo, zo, zo, zo⟩), (by exact ⟨zo, zo, zo, zo, zo, zo, zo, zo⟩), zo⟩), (readK 4 r.next.2.next.2).1, (readK 4 r.next.2.next.2).2, rfl, rfl, rfl⟩
      | false =>
      cases h9 : (((i : Nat) : Int) == 9) with
      | true =>
        refine zQ ?_;refine zV laa ?_;refine zV lac ?_;refine zV laa ?_;refine zF laa ?_;refine zF lac ?_;refine zV (lam false) ?_;refine zn ?_;refine zaT ?_;refine zR ?_;refine zV laa ?_
        refine zY (lat (hk1) rfl (by refine ⟨_, _, rfl, (by exact LeU.of_eq rfl zo), (by exact Exists.intro _ rfl), ?_⟩;refine zC ?_;exact rfl) (by exact ⟨rfl, zo⟩) (by exact rfl) (by simp [namesL]) (by exact ⟨⟨zo, zo, zo⟩, zo⟩)) ?_
        refine zV lad ?_;refine zE lax ?_;refine zn ?_
        exact ⟨_, _, (laZ [(0, .one (.ptr 1000 0)), (1, .one (.int .i64 ((n + 1 : Nat) : Int))), (4, .one (.ptr 4 0)), (7, .one (.int .i64 ((i : Nat) : Int))), (9, .one (.ptr 9 0))] [(1000, .obj (Rd.c (readK 4 r.next.2.next.2).2)), (4, .obj [.int .i64 0, .int .i64 0, .int .i64 0, .nilsl, .int .i64 0, .nilsl, .nilsl]), (9, .obj [.int .i64 ((i : Nat) : Int), .int .i64 0, .int .i64 (Ty.k ((readK 4 r.next.2.next.2).1)), slOf 2 (tyRows (Ty.l ((readK 4 r.next.2.next.2).1))), .int .i64 0, .nilsl, .nilsl])] [] [] ⟨(zw rfl zo), (zw rfl zo), (zw rfl zo), (zw rfl zo), (zw rfl zo), zo⟩ ⟨(by exact zb rfl), (by exact zb rfl), (by exact zb rfl), zo⟩ trivial zo rfl rfl ⟨⟨_, rfl⟩, zo, ⟨_, rfl⟩, zo, ⟨_, rfl⟩, zo⟩ ⟨(by exact ⟨zo, zo, zo⟩), (by exact ⟨zo, zo, zo, zo, zo, zo, zo, zo⟩), (by exact ⟨zo, zo, zo, zo, zo, zo, zo, zo⟩), zo⟩), (readK 4 r.next.2.next.2).1, (readK 4 r.next.2.next.2).2, rfl, rfl, rfl⟩
      | false =>
        refine zQ ?_;refine zV laa ?_;refine zV lac ?_;refine zV laa ?_;refine zF laa ?_;refine zF lac ?_;refine zV (lam false) ?_;refine zn ?_;refine zaF ?_;refine zsk ?_
        exact ⟨_, _, (laZ [(0, .one (.ptr 1000 0)), (1, .one (.int .i64 ((n + 1 : Nat) : Int))), (4, .one (.ptr 4 0)), (7, .one (.int .i64 ((i : Nat) : Int))), (9, .one (.ptr 9 0))] [(1000, .obj (Rd.c r.next.2.next.2)), (4, .obj [.int .i64 0, .int .i64 0, .int .i64 0, .nilsl, .int .i64 0, .nilsl, .nilsl]), (9, .obj [.int .i64 ((i : Nat) : Int), .int .i64 0, .int .i64 (Ty.k (.any)), slOf 2 (tyRows (Ty.l (.any))), .int .i64 0, .nilsl, .nilsl])] [] [] ⟨(zw rfl zo), (zw rfl zo), (zw rfl zo), (zw rfl zo), (zw rfl zo), zo⟩ ⟨(by exact zb rfl), (by exact zb rfl), (by (refine Or.inl ⟨_, rfl, ?_⟩; show All2 _ _ _; exact ⟨WkC.le (LeC.refl _), WkC.le (LeC.refl _), WkC.le (LeC.refl _), WkC.le (LeC.nil _), WkC.le (LeC.refl _), WkC.le (LeC.refl _), WkC.le (LeC.refl _), zo⟩)), zo⟩ trivial zo rfl rfl ⟨⟨_, rfl⟩, zo, ⟨_, rfl⟩, zo, ⟨_, rfl⟩, zo⟩ ⟨(by exact ⟨zo, zo, zo⟩), (by exact ⟨zo, zo, zo, zo, zo, zo, zo, zo⟩), (by exact ⟨zo, zo, zo, zo, zo, zo, zo, zo⟩), zo⟩), .any, r.next.2.next.2, rfl, rfl, rfl⟩
    · rintro t h ⟨ty, rd, htr, rfl, rfl⟩
      have hrb : readB (readT n) i r.next.2.next.2 = (.mk i 0 ty .any (readN (readT n) (arity i).toNat rd).1, (readN (readT n) (arity i).toNat rd).2.close) := by
        unfold readB; rw [← htr]
      have hrd : RdOk rd := by
        have : RdOk (ty, rd).2 := by
          rw [htr]
          split
          · exact ldW 4 _ hr2
          · exact hr2
        exact this
      obtain ⟨ar, har, ha3⟩ := arity_le hi4
      have har2 : (arity i).toNat = ar := by omega
      rw [hrb, har2]
      have hag := arity_get hi4
      rw [har] at hag
      refine zq (zQ ?_);refine zV laa ?_;refine zV (lcM rfl rfl (by omega) (by omega)) ?_;refine zV (lai rfl (by assumption)) ?_;refine zV laa ?_;refine zn (zbl ?_)
      refine AW.gh (laZ [(0, .one (.ptr 1000 0)), (1, .one (.int .i64 ((n + 1 : Nat) : Int))), (4, .one (.ptr 4 0)), (9, .one (.ptr 9 0)), (79, .one (.int .i64 ((ar : Nat) : Int))), (80, .one (.int .i64 ((0 : Nat) : Int)))] [(1000, .obj (Rd.c (readN (readT n) (0) rd).2)), (4, .obj [.int .i64 0, .int .i64 0, .int .i64 0, .nilsl, .int .i64 0, .nilsl, .nilsl]), (9, .obj [.int .i64 ((i : Nat) : Int), .int .i64 0, .int .i64 (Ty.k (ty)), slOf 2 (tyRows (Ty.l (ty))), .int .i64 0, .nilsl, .own 89 (0) (0)]), (89, .row 27 7 (0) (tmRows (readN (readT n) (0) rd).1))] [] [89] ⟨(zw rfl zo), (zw rfl zo), (zw rfl zo), (zw rfl zo), (zw rfl zo), (zw rfl zo), zo⟩ ⟨(by exact zb rfl), (by exact zb rfl), (by (refine Or.inl ⟨_, rfl, ?_⟩; show All2 _ _ _;exact ⟨WkC.le (LeC.refl _), WkC.le (LeC.refl _), WkC.le (LeC.refl _), WkC.le (LeC.refl _), WkC.le (LeC.refl _), WkC.le (LeC.refl _), WkC.nil (List.mem_cons_self ..), zo⟩)), (by exact Or.inr ⟨rfl, List.mem_cons_self .., _, _, by decide, rfl⟩), zo⟩ trivial ⟨rfl, zo⟩ rfl rfl ⟨⟨_, rfl⟩, zo, ⟨_, rfl⟩, ⟨_, rfl⟩, zo, zo, zo⟩ ⟨(by exact ⟨zo, zo, zo⟩), (by exact ⟨zo, zo, zo, zo, zo, zo, zo, zo⟩), (by exact ⟨zo, zo, zo, zo, zo, zo, ⟨_, _, _, _, rfl, Nat.le_refl _⟩, zo⟩), (laY (by exact rfl)), zo⟩) ?_
      refine AW.loop (fun m t h => ∃ j : Nat, j ≤ ar ∧ m = ar - j ∧ t = tOfL [(0, .one (.ptr 1000 0)), (1, .one (.int .i64 ((n + 1 : Nat) : Int))), (4, .one (.ptr 4 0)), (9, .one (.ptr 9 0)), (79, .one (.int .i64 ((ar : Nat) : Int))), (80, .one (.int .i64 ((j : Nat) : Int)))] ∧ h = ofL [(1000, .obj (Rd.c (readN (readT n) (j) rd).2)), (4, .obj [.int .i64 0, .int .i64 0, .int .i64 0, .nilsl, .int .i64 0, .nilsl, .nilsl]), (9, .obj [.int .i64 ((i : Nat) : Int), .int .i64 0, .int .i64 (Ty.k (ty)), slOf 2 (tyRows (Ty.l (ty))), .int .i64 0, .nilsl, .own 89 (j) (j)]), (89, .row 27 7 (j) (tmRows (readN (readT n) (j) rd).1))]) ar ⟨0, Nat.zero_le _, rfl, rfl, rfl⟩ ?_
      rintro m t h ⟨j, hj, rfl, rfl, rfl⟩
      have htk : (tmRows (readN (readT n) j rd).1).length = j := by rw [la7, (readN_ok (lfz n) j rd).2.1]
      cases hlt2 : decide ((j : Int) < ((ar : Nat) : Int)) with
      | false =>
        have hja : j = ar := by have := of_decide_eq_false hlt2; omega
        subst hja
        refine zQ ?_;refine zV lac ?_;refine zn (zq ?_);refine zaF ?_;refine zex (zQ ?_);refine zV laa ?_;refine zV laa ?_
        refine zY (lat (ldT ((readN (readT n) j rd).2)) rfl (by refine ⟨_, _, rfl, (by exact LeU.of_eq rfl zo), (by exact Exists.intro _ rfl), ?_⟩;exact rfl) (by exact ⟨rfl, zo⟩) (by exact rfl) (by simp [namesL]) (by exact ⟨⟨zo, zo, zo⟩, zo⟩)) ?_
        skip
        refine zV (laN (b := sRp) (by exact rfl) (by exact rfl)) ?_
        cases hc : sEq (readN (readT n) j rd).2.next.1 sRp with
        | false =>
          refine zV laa ?_;refine zs ?_;refine zs ?_;refine zs ?_;refine zs ?_;refine zV laA ?_;refine zV lag ?_;refine zV lad ?_;refine zE lax ?_;refine zn (zQ ?_);refine zV laj ?_;refine zE laf ?_;refine zn (zre ?_)
          refine rq ?_
          exact ldv (fz := [89]) (by exact .inr rfl) (by exact rfl) (by exact rfl) (by exact ⟨⟨_, rfl, lbc _⟩, zo⟩) rfl (by exact ⟨.le (.refl _), .le (.refl _), .le (.refl _), .le (.refl _), .le (.refl _), .le (.nil _), .row (List.mem_cons_self ..) rfl htk (LeRows.refl _), zo⟩) (by exact rfl) (by unfold Rd.close; rw [hc]; exact laX _)
        | true =>
          refine zV laa ?_;refine zI laa ?_;refine zI lag ?_;refine zI lad ?_;refine zI lae ?_;refine zV law ?_;refine zV lag ?_;refine zV lad ?_;refine zE lax ?_;refine zn (zQ ?_);refine zV laj ?_;refine zE laf ?_;refine zn (zre ?_)
          refine rq ?_
          exact ldv (fz := [89]) (by exact .inr rfl) (by exact rfl) (by exact rfl) (by exact ⟨⟨_, rfl, lbc _⟩, zo⟩) rfl (by exact ⟨.le (.refl _), .le (.refl _), .le (.refl _), .le (.refl _), .le (.refl _), .le (.nil _), .row (List.mem_cons_self ..) rfl htk (LeRows.refl _), zo⟩) (by exact rfl) (by unfold Rd.close; rw [hc]; exact laX _)
      | true =>
        have hja : j < ar := by have := of_decide_eq_true hlt2; omega
        have hsn := readN_snoc (readT n) j rd
        refine zQ ?_;refine zV lac ?_;refine zn (zq ?_);refine zaT ?_;refine zsk (zq (zbl ?_));refine zRD ?_;refine zV lad ?_;refine zV lae ?_;refine zV laa ?_;refine zV laa ?_;refine zV laJ ?_
        refine zY (lat (ih2 (readN (readT n) j rd).2 (lf8 (readT_okR n) j rd hrd)) rfl (by refine ⟨_, _, rfl, (by exact LeU.of_eq rfl zo), (by exact Exists.intro _ rfl), ?_⟩;refine zC ?_;exact rfl) (by exact ⟨rfl, zo⟩) (by exact rfl) (by simp [namesL]) (by exact ⟨⟨zo, zo, zo⟩, zo⟩)) ?_
        refine zV laF ?_
        refine zM (laK (by exact rfl) (by exact rfl) (by exact rfl) (by exact .inl rfl) (by exact htk) (by exact ⟨rfl, zo⟩) (by simp only [List.length_cons, List.length_nil]; omega)) ?_
        have hrows : tmRows (readN (readT n) j rd).1 ++ [(readT n (readN (readT n) j rd).2).1.c] = tmRows (readN (readT n) (j + 1) rd).1 := by
          rw [hsn, lbs]; simp [tmRows, Tm.cells_c]
        have he : (readT n (readN (readT n) j rd).2).2 = (readN (readT n) (j + 1) rd).2 := by rw [hsn]
        rw [hrows, he]
        refine zV lad ?_;refine zE lax ?_;refine znD ?_;refine zR ?_;refine zV laD ?_;refine zV laa ?_;refine zn ?_
        exact ⟨ar - (j + 1), _, _, by omega, (laZ [(0, .one (.ptr 1000 0)), (1, .one (.int .i64 ((n + 1 : Nat) : Int))), (4, .one (.ptr 4 0)), (9, .one (.ptr 9 0)), (79, .one (.int .i64 ((ar : Nat) : Int))), (80, .one (.int .i64 (((j + 1) : Nat) : Int)))] [(1000, .obj (Rd.c (readN (readT n) ((j + 1)) rd).2)), (4, .obj [.int .i64 0, .int .i64 0, .int .i64 0, .nilsl, .int .i64 0, .nilsl, .nilsl]), (9, .obj [.int .i64 ((i : Nat) : Int), .int .i64 0, .int .i64 (Ty.k (ty)), slOf 2 (tyRows (Ty.l (ty))), .int .i64 0, .nilsl, .own 89 ((j + 1)) ((j + 1))]), (89, .row 27 7 ((j + 1)) (tmRows (readN (readT n) ((j + 1)) rd).1))] [] [] ⟨(zw rfl zo), (zw rfl zo), (zw rfl zo), (zw rfl zo), (zw rfl zo), (zw rfl zo), zo⟩ ⟨(by exact zb rfl), (by exact zb rfl), (by exact zb rfl), (by exact zb rfl), zo⟩ trivial zo rfl rfl ⟨⟨_, rfl⟩, zo, ⟨_, rfl⟩, ⟨_, rfl⟩, zo, zo, zo⟩ ⟨(by exact ⟨zo, zo, zo⟩), (by exact ⟨zo, zo, zo, zo, zo, zo, zo, zo⟩), (by exact ⟨zo, zo, zo, zo, zo, zo, ⟨_, _, _, _, rfl, Nat.le_refl _⟩, zo⟩), (laY (by exact lbc _)), zo⟩), j + 1, by omega, rfl, rfl, rfl⟩
theorem lfp (old new : List UInt8) : ∀ (k : Nat) (s : List UInt8), (Lib.replaceK old new k s).length ≤ s.length + k * new.length
  | 0, s => by simp [Lib.replaceK]
  | k + 1, s => by
    simp only [Lib.replaceK]
    split
    · exact Nat.le_add_right _ _
    · have := lfp old new k (s.drop ((Lib.index s old).toNat + old.length))
      simp only [List.length_append, List.length_take, List.length_drop] at this ⊢
      rw [Nat.succ_mul]
      omega
theorem lcj (s old new : ByteArray) (h1 : 1 ≤ old.size) : (replaceS s old new).size ≤ s.size + s.size * new.size := by
  have hc : Lib.count s.data.toList old.data.toList ≤ s.size := Lib.countB_le old h1 s.size s (Nat.le_refl _)
  have hl : s.data.toList.length = s.size := Array.length_toList
  have hn : new.data.toList.length = new.size := Array.length_toList
  show (Lib.replaceAll s.data.toList old.data.toList new.data.toList).toArray.size ≤ _
  rw [List.size_toArray]
  unfold Lib.replaceAll Lib.replace
  split
  · omega
  · refine Nat.le_trans (lfp _ _ _ _) ?_
    have h2 : Lib.replaceNum s.data.toList old.data.toList (-1) = Lib.count s.data.toList old.data.toList := by unfold Lib.replaceNum; rw [if_pos (.inl (by decide))]
    rw [h2, hl, hn]
    exact Nat.add_le_add_left (Nat.mul_le_mul_right _ hc) _
theorem lc9 (p : Nat → Bool) (s : ByteArray) : ∀ (f pos : Nat) (st : Option Nat) (acc : List (Nat × Nat)), (Lib.spansFromP p s f pos st acc).1.length ≤ acc.length + f
  | 0, _, _, acc => by simp [Lib.spansFromP]
  | f + 1, pos, st, acc => by
    simp only [Lib.spansFromP]
    split
    · split
      · split
        · rename_i a
          have := lc9 p s f (pos + (Utf8.decode s pos).2) none (acc ++ [(a, pos)]); simp at this; omega
        · have := lc9 p s f (pos + (Utf8.decode s pos).2) none acc; omega
      · split
        · rename_i a
          have := lc9 p s f (pos + (Utf8.decode s pos).2) (some a) acc; omega
        · have := lc9 p s f (pos + (Utf8.decode s pos).2) (some pos) acc; omega
    · simp
theorem fields_len (p : Nat → Bool) (s : ByteArray) : (Lib.goFieldsP p s).length ≤ s.size + 1 ∧ ∀ w ∈ Lib.goFieldsP p s, w.size ≤ s.size := by
  constructor
  · unfold Lib.goFieldsP Lib.spansOfP Lib.closeSpans
    have := lc9 p s s.size 0 none []
    rw [List.length_map]
    split
    · simp at this ⊢; omega
    · simp at this; omega
  · intro w hw
    unfold Lib.goFieldsP at hw
    obtain ⟨x, _, rfl⟩ := List.mem_map.1 hw
    rw [ByteArray.size_extract]; omega
def isGap (x : Nat) : Bool := x == 32 || x == 10
theorem gap_a (x : Nat) : ACalls Tryz.prog 30 [.one (.int .i32 x)] [] (.one (.bool (isGap x))) [] := by
  have e1 : ((x : Int) == 32) = (x == 32) := by rw [Bool.eq_iff_iff]; simp; omega
  have e2 : ((x : Int) == 10) = (x == 10) := by rw [Bool.eq_iff_iff]; simp; omega
  refine zB Tryz.func30 ?_
  unfold isGap
  cases h1 : (x == 32) with
  | true =>
    have h1' : ((x : Int) == 32) = true := e1.trans h1
    refine zQ ?_;refine zV lab ?_;refine zn (zQ ?_);refine zV laa ?_;refine zV lac ?_;refine zV laa ?_;refine zt ?_;refine zt ?_;refine zV (lam true) ?_;refine zV lab ?_;refine zn (zre ?_)
    refine rq ?_
    exact la1 (by exact .inr rfl) (by exact rfl) zo
  | false =>
    have h1' : ((x : Int) == 32) = false := e1.trans h1
    cases h2 : (x == 10) with
    | true =>
      have h2' : ((x : Int) == 10) = true := e2.trans h2
      refine zQ ?_;refine zV lab ?_;refine zn (zQ ?_);refine zV laa ?_;refine zV lac ?_;refine zV laa ?_;refine zF laa ?_;refine zF lac ?_;refine zV (lam false) ?_;refine zV lab ?_;refine zn (zre ?_)
      rw [h2']
      refine rq ?_
      exact la1 (by exact .inr rfl) (by exact rfl) zo
    | false =>
      have h2' : ((x : Int) == 10) = false := e2.trans h2
      refine zQ ?_;refine zV lab ?_;refine zn (zQ ?_);refine zV laa ?_;refine zV lac ?_;refine zV laa ?_;refine zF laa ?_;refine zF lac ?_;refine zV (lam false) ?_;refine zV lab ?_;refine zn (zre ?_)
      rw [h2']
      refine rq ?_
      exact la1 (by exact .inr rfl) (by exact rfl) zo
theorem gap_enter (args : Array Value) (w : World) : (callFunc 30 args).run Tryz.prog w = .ok (.enter 30 args) w := by
  have hb : ∃ c, Tryz.f30.body = some c := ⟨_, rfl⟩
  obtain ⟨c, hb⟩ := hb
  have h1 : Tryz.f30.name ≠ "runtime.NumGoroutine" := by
    have : (Tryz.f30.name == "runtime.NumGoroutine") = false := by kernel_rfl
    simpa using this
  simp [callFunc, Tryz.func30, h1, hb]
theorem words_ok {s : ByteArray} (h : ¬ 1000 < s.size) : RdOk ⟨wordsOf s, false⟩ ∧ (wordsOf s).length ≤ 20000 := by
  have h1 := lcj s sLp ⟨#[32, 40, 32]⟩ (by decide)
  have h2 := lcj (replaceS s sLp ⟨#[32, 40, 32]⟩) sRp ⟨#[32, 41, 32]⟩ (by decide)
  have e1 : (⟨#[32, 40, 32]⟩ : ByteArray).size = 3 := rfl
  have e2 : (⟨#[32, 41, 32]⟩ : ByteArray).size = 3 := rfl
  rw [e1] at h1
  rw [e2] at h2
  obtain ⟨h3, h4⟩ := fields_len isGap (replaceS (replaceS s sLp ⟨#[32, 40, 32]⟩) sRp ⟨#[32, 41, 32]⟩)
  refine ⟨fun w hw => ?_, ?_⟩
  · have := h4 w hw; omega
  · show (Lib.goFieldsP isGap _).length ≤ _; omega
theorem parse_ok (s : ByteArray) : TmOk (parse s).1 ∧ ((parse s).1.nodes : Int) ≤ 1048576 := by
  unfold parse
  split
  · exact ⟨lfa, by decide⟩
  · rename_i h
    simp only
    split
    · exact ⟨lfa, by decide⟩
    · rename_i hc
      obtain ⟨h1, h2⟩ := lfz 40 ⟨wordsOf s, false⟩
      obtain ⟨_, hw⟩ := words_ok h
      refine ⟨h1, ?_⟩
      simp only [Bool.or_eq_true, not_or, Bool.not_eq_true] at hc
      have := (h2 hc.1.1).1
      simp only at this ⊢
      omega
def parseU (s : ByteArray) : U := .tup [(parse s).1.u, .one (.int .i64 (parse s).2)]
theorem lda {P : Program} {x z : Tmp} {tx : TypeId} {bx : Nat} {k : List C} {a : Tm} {n : Int} {e : Exit} {t : Nat → U} {h : Nat → Option Blk} [T : TAgg P tx 7] (he : e = .normal ∨ e = .ret) (hx : t x = .one (.ptr bx 0)) (hbx : h bx = some (.obj k)) (hk : All2 (WkC h [] []) k a.c) (hz : t z = .one (.int .i64 n)) : RetQ P #[.cell x tx, .tmp z] (.tup [a.u, .one (.int .i64 n)]) [] e t h :=
  lbn (O' := []) he hx hbx hk.length hz [] trivial hk (.le (.refl _)) trivial rfl ⟨⟨trivial, trivial, trivial, trivial, trivial, trivial, trivial, trivial⟩, trivial, trivial⟩ trivial rfl
set_option maxHeartbeats 8000000 in
theorem parse_a (s : ByteArray) : ACalls Tryz.prog 13 [.one (.str s)] [] (parseU s) [] := by
  refine zB Tryz.func13 ?_
  unfold parseU
  cases hlen : decide ((s.size : Int) > 1000) with
  | true =>
    have h1 : 1000 < s.size := by have := of_decide_eq_true hlen; omega
    rw [show parse s = (Tm.zero, 4) by unfold parse; rw [if_pos h1]]
    refine zQ ?_;refine zM lah ?_;refine zV lab ?_;refine zn (zq (zQ ?_));refine zV laa ?_;refine zV laO ?_;refine zV lac ?_;refine zn ?_;refine zaT ?_;refine zQ ?_;refine zV laq ?_;refine zE laf ?_;refine zV lab ?_;refine zn (zre ?_)
    refine rq ?_
    exact lda (by exact .inr rfl) (by exact rfl) (by exact rfl) tleaf (by exact rfl)
  | false =>
    have h1 : ¬ 1000 < s.size := by have := of_decide_eq_false hlen; omega
    have z1 := lcj s sLp ⟨#[32, 40, 32]⟩ (by decide)
    have z2 := lcj (replaceS s sLp ⟨#[32, 40, 32]⟩) sRp ⟨#[32, 41, 32]⟩ (by decide)
    have e1 : (⟨#[32, 40, 32]⟩ : ByteArray).size = 3 := rfl
    have e2 : (⟨#[32, 41, 32]⟩ : ByteArray).size = 3 := rfl
    rw [e1] at z1
    rw [e2] at z2
    have c1 : Lib.countB s sLp ≤ s.size := Lib.countB_le sLp (by decide) s.size s (Nat.le_refl _)
    have c2 : Lib.countB (replaceS s sLp ⟨#[32, 40, 32]⟩) sRp ≤ (replaceS s sLp ⟨#[32, 40, 32]⟩).size := Lib.countB_le sRp (by decide) _ _ (Nat.le_refl _)
    obtain ⟨hrd, hwl⟩ := words_ok h1
    have hro := lfz 40 ⟨wordsOf s, false⟩
    generalize hp : readT 40 ⟨wordsOf s, false⟩ = p at hro
    have hparse : parse s = if p.2.bad || decide (0 < p.2.ws.length) || !p.1.Good 0 then (Tm.zero, 1) else (p.1, 0) := by unfold parse; rw [if_neg h1, hp]
    have hterm := term_a 40 (Nat.le_refl _) ⟨wordsOf s, false⟩ hrd
    rw [hp] at hterm
    refine zQ ?_;refine zM lah ?_;refine zV lab ?_;refine zn (zq (zQ ?_));refine zV laa ?_;refine zV laO ?_;refine zV lac ?_;refine zn ?_;refine zaF ?_;refine zsk (zQ ?_);refine zV laa ?_
    refine zV (lal (lfm s sLp ⟨#[32, 40, 32]⟩ (by omega) (by decide) (by rw [e1]; omega)) rfl (by refine zC ?_;refine zC ?_;refine zC ?_;exact rfl)) ?_
    skip
    refine zV (lal (lfm (replaceS s sLp ⟨#[32, 40, 32]⟩) sRp ⟨#[32, 41, 32]⟩ (by omega) (by decide) (by rw [e2]; omega)) rfl (by refine zC ?_;refine zC ?_;refine zC ?_;exact rfl)) ?_
    refine zV lab ?_;refine zn (zQ ?_);refine zV laa ?_
    refine zV (lal (fields_a 30 isGap (replaceS (replaceS s sLp ⟨#[32, 40, 32]⟩) sRp ⟨#[32, 41, 32]⟩) (by omega) (by kernel_rfl) gap_enter (fun x _ => gap_a x)) rfl (by refine zC ?_;refine zC ?_;exact rfl)) ?_
    refine zV laq ?_
    refine zM (laQ 1000 (by exact rfl) (by exact rfl) (by exact rfl) (by exact rfl)) ?_
    refine zV lab ?_;refine zn ?_
    refine AW.gh (laZ [(2, .one (.ptr 2 0)), (3, .one (.int .i64 0)), (4, .one (.ptr 1000 0))] [(1000, .obj (Rd.c ⟨wordsOf s, false⟩)), (2, .obj [.int .i64 0, .int .i64 0, .int .i64 0, .nilsl, .int .i64 0, .nilsl, .nilsl])] [] [] ⟨(zw rfl zo), (zw rfl zo), (zw rfl zo), zo⟩ ⟨(by (refine Or.inl ⟨_, rfl, ?_⟩; show All2 _ _ _;exact ⟨WkC.le (LeC.slF (LeRows.refl _)), WkC.le (LeC.refl _), zo⟩)), (by exact zb rfl), zo⟩ trivial zo rfl rfl ⟨⟨_, rfl⟩, zo, ⟨_, rfl⟩, zo⟩ ⟨(by exact ⟨zo, zo, zo⟩), (by exact ⟨zo, zo, zo, zo, zo, zo, zo, zo⟩), zo⟩) ?_
    refine zQ ?_;refine zV laa ?_
    refine zY (lat hterm rfl (by refine ⟨_, _, rfl, (by exact LeU.of_eq rfl zo), (by exact Exists.intro _ rfl), ?_⟩;refine zC ?_;exact rfl) (by exact ⟨rfl, zo⟩) (by exact rfl) (by simp [namesL]) (by exact ⟨⟨zo, zo, zo⟩, zo⟩)) ?_
    rw [hparse]
    cases hb : p.2.bad with
    | true =>
      rw [if_pos (by rfl)]
      refine zM lah ?_;refine zE laf ?_;refine zn (zq (zQ ?_));refine zV laa ?_;refine zV lag ?_;refine zV lad ?_;refine zV lae ?_;refine zV laa ?_;refine zt ?_;refine zt ?_;refine zt ?_;refine zt ?_;refine zt ?_;refine zt ?_;refine zV (lam true) ?_;refine zV laa ?_;refine zs ?_;refine zs ?_;refine zs ?_;refine zV laA ?_;refine zn ?_;refine zcT ?_;refine zQ ?_;refine zV laq ?_;refine zE laf ?_;refine zV lab ?_;refine zn (zre ?_)
      refine rq ?_
      exact lda (by exact .inr rfl) (by exact rfl) (by exact rfl) tleaf (by exact rfl)
    | false =>
    cases hw : decide (0 < p.2.ws.length) with
    | true =>
      have hw' : decide ((((strRows p.2.ws).length : Nat) : Int) > 0) = true := by have := of_decide_eq_true hw; exact decide_eq_true (by simp only [strRows, List.length_map]; omega)
      rw [if_pos (by rfl)]
      refine zM lah ?_;refine zE laf ?_;refine zn (zq (zQ ?_));refine zV laa ?_;refine zV lag ?_;refine zV lad ?_;refine zV lae ?_;refine zV laa ?_;refine zF laa ?_;refine zF lag ?_;refine zF lad ?_;refine zF lae ?_;refine zF lay ?_;refine zF lac ?_;refine zV (lam false) ?_;refine zV laa ?_;refine zt ?_;refine zt ?_;refine zt ?_;refine zV (lam true) ?_;refine zn ?_;refine zcT ?_;refine zQ ?_;refine zV laq ?_;refine zE laf ?_;refine zV lab ?_;refine zn (zre ?_)
      refine rq ?_
      exact lda (by exact .inr rfl) (by exact rfl) (by exact rfl) tleaf (by exact rfl)
    | false =>
      have hw' : decide ((((strRows p.2.ws).length : Nat) : Int) > 0) = false := by have := of_decide_eq_false hw; exact decide_eq_false (by simp only [strRows, List.length_map]; omega)
      have hn : p.1.nodes ≤ 1048576 := by have := (hro.2 hb).1; simp only at this; omega
      refine zM lah ?_;refine zE laf ?_;refine zn (zq (zQ ?_));refine zV laa ?_;refine zV lag ?_;refine zV lad ?_;refine zV lae ?_;refine zV laa ?_;refine zF laa ?_;refine zF lag ?_;refine zF lad ?_;refine zF lae ?_;refine zF lay ?_;refine zF lac ?_;refine zV (lam false) ?_;refine zV laa ?_;refine zF laj ?_
      refine zF (lal (tGood_a p.1 0 hro.1 hn) rfl (by refine zC7 ?_;refine zC ?_;exact rfl)) ?_
      cases hg : p.1.Good 0 with
      | true =>
        rw [if_neg (by decide)]
        refine zF laz ?_;refine zV (lam false) ?_;refine zn ?_;refine zcF ?_;refine zsk (zQ ?_);refine zV laj ?_;refine zE laf ?_;refine zV lab ?_;refine zn (zre ?_)
        refine rq ?_
        exact lda (by exact .inr rfl) (by exact rfl) (by exact rfl) (by exact laX _) (by exact rfl)
      | false =>
        rw [if_pos (by rfl)]
        refine zF laz ?_;refine zV (lam false) ?_;refine zn ?_;refine zcT ?_;refine zQ ?_;refine zV laq ?_;refine zE laf ?_;refine zV lab ?_;refine zn (zre ?_)
        refine rq ?_
        exact lda (by exact .inr rfl) (by exact rfl) (by exact rfl) tleaf (by exact rfl)
def TextIs (s : ByteArray) (F : Int) (o : Out) (e : Int) : Prop := ((parse s).2 ≠ 0 ∧ o = .zero ∧ e = (parse s).2) ∨ ((parse s).2 = 0 ∧ RunIs (parse s).1 F o e)
theorem text_ex (s : ByteArray) (F : Int) : ∃ o e, TextIs s F o e := by
  by_cases h : (parse s).2 = 0
  · obtain ⟨o, e, hr⟩ := run_ex (parse s).1 F
    exact ⟨o, e, .inr ⟨h, hr⟩⟩
  · exact ⟨_, _, .inl ⟨h, rfl, rfl⟩⟩
theorem ldX {P : Program} {x z : Tmp} {tx : TypeId} {bx : Nat} {k : List C} {o : Out} {n : Int} {e : Exit} {t : Nat → U} {h : Nat → Option Blk} [T : TAgg P tx 3] (he : e = .normal ∨ e = .ret) (hx : t x = .one (.ptr bx 0)) (hbx : h bx = some (.obj k)) (hk : k = o.c) (hz : t z = .one (.int .i64 n)) : RetQ P #[.cell x tx, .tmp z] (.tup [o.u, .one (.int .i64 n)]) [] e t h := by
  subst hk
  exact lbn (O' := []) he hx hbx rfl hz [] trivial (laX _) (.le (.refl _)) zo rfl ⟨⟨zo, zo, zo, zo⟩, zo, zo⟩ trivial rfl
end Go.Proofs.YtnflnbdlgdjfmabGreatDoor
