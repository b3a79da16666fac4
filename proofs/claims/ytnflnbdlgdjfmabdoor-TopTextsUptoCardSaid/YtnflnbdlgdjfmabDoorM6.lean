/-
  The walk of flow. Conditions: those typed in each theorem.
  The walks of begin and Run. Conditions: the term is not too large, its numbers are ints.
  Two outcomes are compared. Conditions: none.
  Plain laws of what is blamed, and of terms without casts. Conditions: those typed in each theorem.
-/
import Derived.Test.YtnflnbdlgdjfmabDoorM5
import Derived.Laws.StructEq
import Derived.Laws.Tables
import Derived.WalkKit
namespace Go.Proofs.YtnflnbdlgdjfmabDoor
open Go.RowKit
set_option linter.unusedVariables false
set_option linter.unusedSimpArgs false
set_option maxRecDepth 100000
attribute [local irreducible] RunL AW LocOp ACalls Gh
/-- The machine in memory. -/
structure MS where
  t : Tm
  env : List V
  c : C
  vv : Nat
  n : Nat
  F : Nat
  rows : List (List C)
def MS.O (s : MS) : List (Nat × Blk) := [(1000, .obj (mCells s.t s.env s.c s.vv s.n s.F)), (1001, .row 124 16 s.vv s.rows)]
structure MS.Ok (s : MS) : Prop where
  c : closedC s.c = true
  cl : closedRows s.rows = true
  le : s.n ≤ s.rows.length
  lim : s.n ≤ 100000000010
structure MS.Ok2 (s : MS) : Prop where
  c : closedC s.c = true
  cl : closedRows s.rows = true
theorem MS.Ok.ok2 {s : MS} (h : s.Ok) : s.Ok2 := ⟨h.c, h.cl⟩
def goesU : U := .tup [Out.zero.u, .one (.bool false)]
def overU (o : Out) : U := .tup [o.u, .one (.bool true)]
/-- How it goes, call by call. -/
inductive Path (o : Out) (fin : MS) : Nat → MS → Prop
  | enter {k : Nat} {s s' : MS} (ok : s.Ok) (hc : s.c = .nilp) (hv : s.vv ≤ s'.vv) (h : ACalls Tryd.prog 82 [.one (.ptr 1000 0)] s.O goesU s'.O) (hp : Path o fin k s') : Path o fin (k + 1) s
  | enterO {s : MS} (ok : s.Ok) (okf : fin.Ok2) (hc : s.c = .nilp) (hv : s.vv ≤ fin.vv) (h : ACalls Tryd.prog 82 [.one (.ptr 1000 0)] s.O (overU o) fin.O) : Path o fin 0 s
  | leave {k n0 : Nat} {s s' : MS} {v : V} {f : Fr} (ok : s.Ok) (hc : s.c = v.p) (hn : s.n = n0 + 1) (hf : s.rows[n0]? = some f.c) (hv : s.vv ≤ s'.vv) (h : ACalls Tryd.prog 84 [.one (.ptr 1000 0), .agg f.c] ({ s with n := n0 } : MS).O goesU s'.O) (hp : Path o fin k s') : Path o fin (k + 1) s
  | leaveO {n0 : Nat} {s : MS} {v : V} {f : Fr} (ok : s.Ok) (okf : fin.Ok2) (hc : s.c = v.p) (hn : s.n = n0 + 1) (hf : s.rows[n0]? = some f.c) (hv : s.vv ≤ fin.vv) (h : ACalls Tryd.prog 84 [.one (.ptr 1000 0), .agg f.c] ({ s with n := n0 } : MS).O (overU o) fin.O) : Path o fin 0 s
  | seen {v : V} (ok : fin.Ok) (hc : fin.c = v.p) (hn : fin.n = 0) (ho : o = v.seen) : Path o fin 0 fin
theorem Path.vv {o : Out} {fin : MS} {k : Nat} {s : MS} (h : Path o fin k s) : s.vv ≤ fin.vv := by
  induction h with
  | enter _ _ hv _ _ ih => exact Nat.le_trans hv ih
  | enterO _ _ _ hv _ => exact hv
  | leave _ _ _ _ hv _ _ ih => exact Nat.le_trans hv ih
  | leaveO _ _ _ _ _ hv _ => exact hv
  | seen _ _ _ _ => exact Nat.le_refl _
theorem Path.okf {o : Out} {fin : MS} {k : Nat} {s : MS} (h : Path o fin k s) : fin.Ok2 := by
  induction h with
  | enter _ _ _ _ _ ih => exact ih
  | enterO _ okf _ _ _ => exact okf
  | leave _ _ _ _ _ _ _ ih => exact ih
  | leaveO _ okf _ _ _ _ _ => exact okf
  | seen ok _ _ _ => exact ok.ok2
theorem Path.ok {o : Out} {fin : MS} {k : Nat} {s : MS} (h : Path o fin k s) : s.Ok := by
  cases h <;> assumption
theorem StkOk.ok {s : List Fr} {n : Nat} {rows : List (List C)} (h : StkOk s n rows) {t : Tm} {env : List V} {c : C} {vv F : Nat} (hc : closedC c = true) (hl : s.length ≤ 100000000000) : MS.Ok ⟨t, env, c, vv, n, F, rows⟩ :=
  ⟨hc, h.cl, h.le, by show n ≤ _; have := h.len; omega⟩
/-- THE MACHINE'S RUN, call by call. -/
theorem path_of {k : Nat} {m : Mch} {o : Out} (h : RunsB 100000000000 k m o) : ∀ (cells : List C) (vv n : Nat) (rows : List (List C)), MB m → MOk m cells vv n → StkOk m.stk n rows → ∃ fin s : MS, s.vv = vv ∧ s.rows = rows ∧ s.n = n ∧ cells = mCells s.t s.env s.c s.vv s.n s.F ∧ Path o fin k s := by
  induction h with
  | @fin m o hl hs =>
    obtain ⟨ctl, stk, F⟩ := m
    intro cells vv n rows hb hm hk
    cases ctl with
    | ent t env =>
      have hm : cells = mCells t env .nilp vv n F := hm
      have hd := enter_a t env stk F vv n rows hk hl hb.c.1.n _ hs
      obtain ⟨t1, env1, vv', n', F', rows', hvv, hcl', hc⟩ := hd
      exact ⟨⟨t1, env1, .nilp, vv', n', F', rows'⟩, ⟨t, env, .nilp, vv, n, F, rows⟩, rfl, rfl, rfl, hm, .enterO (hk.ok rfl hl) ⟨rfl, hcl'⟩ rfl hvv hc⟩
    | val v =>
      obtain ⟨t, env, hm⟩ := hm
      cases stk with
      | nil =>
        cases hs
        exact ⟨⟨t, env, v.p, vv, n, F, rows⟩, ⟨t, env, v.p, vv, n, F, rows⟩, rfl, rfl, rfl, hm, .seen (hk.ok rfl (Nat.zero_le _)) rfl hk.len rfl⟩
      | cons f s =>
        obtain ⟨hp, hf⟩ := hk.pop
        have hlen := hk.len
        simp only [List.length_cons] at hlen hl
        have hd := leave_a v f t env s F vv (n - 1) rows hp (by omega) hb.f _ hs
        obtain ⟨t1, env1, vv', n', F', rows', hvv, hcl', hc⟩ := hd
        exact ⟨⟨t1, env1, .nilp, vv', n', F', rows'⟩, ⟨t, env, v.p, vv, n, F, rows⟩, rfl, rfl, rfl, hm, .leaveO (n0 := n - 1) (hk.ok rfl hl) ⟨rfl, hcl'⟩ rfl (by show n = n - 1 + 1; omega) hf hvv hc⟩
  | @go k m m' o hl hs hr ih =>
    obtain ⟨ctl, stk, F⟩ := m
    intro cells vv n rows hb hm hk
    have hb' := step_b hb hs
    cases ctl with
    | ent t env =>
      have hm : cells = mCells t env .nilp vv n F := hm
      have hd := enter_a t env stk F vv n rows hk hl hb.c.1.n _ hs
      obtain ⟨cells', vv', n', rows', hvv, hm', hk', hc⟩ := hd
      obtain ⟨fin, s', rfl, rfl, rfl, rfl, hp⟩ := ih cells' vv' n' rows' hb' hm' hk'
      exact ⟨fin, ⟨t, env, .nilp, vv, n, F, rows⟩, rfl, rfl, rfl, hm, .enter (hk.ok rfl hl) rfl hvv hc hp⟩
    | val v =>
      obtain ⟨t, env, hm⟩ := hm
      cases stk with
      | nil => cases hs
      | cons f s =>
        obtain ⟨hp0, hf⟩ := hk.pop
        have hlen := hk.len
        simp only [List.length_cons] at hlen hl
        have hd := leave_a v f t env s F vv (n - 1) rows hp0 (by omega) hb.f _ hs
        obtain ⟨cells', vv', n', rows', hvv, hm', hk', hc⟩ := hd
        obtain ⟨fin, s', rfl, rfl, rfl, rfl, hp⟩ := ih cells' vv' n' rows' hb' hm' hk'
        exact ⟨fin, ⟨t, env, v.p, vv, n, F, rows⟩, rfl, rfl, rfl, hm, .leave (n0 := n - 1) (hk.ok rfl hl) rfl (by show n = n - 1 + 1; omega) hf hvv hc hp⟩
theorem row_ok {h : Nat → Option Blk} : ∀ {l : List C}, closedRow l = true → AllP (okC h) l
  | [], _ => trivial
  | c :: l, hc => by
    simp only [closedRow, Bool.and_eq_true] at hc
    exact ⟨closed_okC hc.1, row_ok hc.2⟩
theorem fr_ok {h : Nat → Option Blk} (f : Fr) : okU' h (.agg f.c) := row_ok (fr_closed f)
/-- One struct is answered, and blocks that were handed in. -/
theorem ret_cellO {P : Program} {x : Tmp} {tx : TypeId} {bx n : Nat} {l l' : List C} {e : Exit} {t : Nat → U} {h : Nat → Option Blk} {O' : List (Nat × Blk)} [T : TAgg P tx n] (he : e = .normal ∨ e = .ret)
    (hx : t x = .one (.ptr bx 0)) (hbx : h bx = some (.obj l)) (hlx : l.length = n)
    (fz : List Nat) (hfz : AllP (ClosedAt h) fz) (hwx : All2 (WkC h fz []) l l') (hO : AllP (fun p => ∃ x0, h p.1 = some x0 ∧ WkBlk h fz [] x0 p.2) O') (hd : disj fz (namesL O') = true)
    (hok : okU' (ofL O') (.agg l')) (hok2 : AllP (fun p => okBlk' (ofL O') p.2) O') {r : U} (hr : r = .agg l') : RetQ P #[.cell x tx] r O' e t h := by
  subst hr
  exact ⟨he, [.agg l], ⟨⟨bx, l, hx, hbx, .inl ⟨n, T, hlx, rfl⟩⟩, trivial⟩, ⟨trivial, trivial⟩, .agg l, rfl, fz, hfz, hwx, hO, hd, hok, hok2⟩
set_option maxHeartbeats 8000000 in
theorem flow_a (o : Out) (fin s0 : MS) (k : Nat) (hp : Path o fin k s0) : ACalls Tryd.prog 61 [.one (.ptr 1000 0)] s0.O o.u fin.O := by
  refine acalls_of_body Tryd.func61 rfl (by kernel_rfl) (Nat.le_of_ble_eq_true rfl) (by exact ⟨⟨rfl, trivial⟩, ⟨rfl, hp.vv⟩, trivial⟩) (by simp [namesL, MS.O]) ?_
  have hcl := hp.ok.cl
  have hcc := hp.ok.c
  refine AW.seq ?_; refine AW.region (by kernel_rfl) ?_; refine RunL.mem (by exact rfl) (loc_allocD rfl rfl) ?_; refine RunL.nil ?_; refine AW.block ?_
  refine AW.gh (gh_lit [(0, .one (.ptr 1000 0)), (2, .one (.ptr 2 0))] [(1000, .obj (mCells (MS.t s0) (MS.env s0) (MS.c s0) (MS.vv s0) (MS.n s0) (MS.F s0))), (1001, .row 124 16 (MS.vv s0) (MS.rows s0)), (2, .obj Out.zero.c)] [] [] ⟨(WkU.of_eq rfl trivial), (WkU.of_eq rfl trivial), trivial⟩ ⟨Or.inl ⟨_, rfl, WkBlk.refl _⟩, Or.inl ⟨_, rfl, WkBlk.refl _⟩, Or.inl ⟨_, rfl, WkBlk.refl _⟩, trivial⟩ trivial trivial rfl rfl ⟨⟨_, rfl⟩, ⟨_, rfl⟩, trivial⟩ ⟨mc_ok hcc ⟨_, _, _, _, rfl, Nat.le_refl _⟩, okRows_closed hcl, (by refine And.intro ?_ ?_; exact trivial; refine And.intro ?_ ?_; exact trivial; refine And.intro ?_ ?_; exact trivial; exact trivial), trivial⟩) ?_
  refine AW.loop (fun m t h => ∃ s : MS, Path o fin m s ∧ t = tOfL [(0, .one (.ptr 1000 0)), (2, .one (.ptr 2 0))] ∧ h = ofL [(1000, .obj (mCells (MS.t s) (MS.env s) (MS.c s) (MS.vv s) (MS.n s) (MS.F s))), (1001, .row 124 16 (MS.vv s) (MS.rows s)), (2, .obj Out.zero.c)]) k ⟨s0, hp, rfl, rfl⟩ ?_
  rintro m t h ⟨s, hp, rfl, rfl⟩
  have hcl := hp.ok.cl
  cases hp with
  | enter ok hc hv h hp' =>
    obtain ⟨t1, env1, c1, vv1, n1, F1, rows1⟩ := s
    simp only at hc hcl hv
    subst hc
    refine AW.block ?_; refine AW.seq ?_; refine AW.seq ?_; refine AW.region (by kernel_rfl) ?_; refine RunL.val (by exact rfl) (loc_moveC rfl) ?_; refine RunL.val (by exact rfl) (loc_nilCheck rfl rfl) ?_; refine RunL.val (by exact rfl) (loc_fieldAddr rfl) ?_; refine RunL.val (by exact rfl) (loc_load rfl rfl rfl) ?_; refine RunL.val (by exact rfl) (loc_eqNilT rfl rfl) ?_; refine RunL.nil ?_; refine AW.condT (by exact rfl) ?_; refine AW.seq ?_; refine AW.seq ?_; refine AW.region (by kernel_rfl) ?_; refine RunL.val (by exact rfl) (loc_moveC rfl) ?_
    refine RunL.many (by exact rfl) (loc_funE h rfl (by refine ⟨_, _, rfl, (by exact LeU.of_eq rfl trivial), (by exact Exists.intro _ rfl), ?_⟩; exact rfl) (by exact ⟨rfl, rfl, trivial⟩) (by exact rfl) (by simp [namesL, MS.O]) (by exact ⟨mc_ok rfl ⟨_, _, _, _, rfl, Nat.le_refl _⟩, okRows_closed hcl, trivial⟩)) ?_
    refine RunL.val (by exact rfl) (loc_moveT rfl) ?_; refine RunL.val (by exact rfl) (loc_extractA rfl rfl) ?_; refine RunL.val (by exact rfl) (loc_extractC rfl rfl) ?_; refine RunL.mem (by exact rfl) (loc_allocD rfl rfl) ?_; refine RunL.eff (by exact rfl) (loc_storeW rfl rfl rfl rfl (by exact rfl) (by exact rfl)) ?_; refine RunL.val (by exact rfl) (loc_assignC rfl) ?_; refine RunL.nil ?_; refine AW.seq ?_; refine AW.region (by kernel_rfl) ?_; refine RunL.val (by exact rfl) (loc_moveC rfl) ?_; refine RunL.nil ?_; refine AW.condF (by exact rfl) ?_; refine AW.skip ?_; refine AW.exit ?_
    exact ⟨_, _, _, Nat.lt_succ_self _, (gh_lit [(0, .one (.ptr 1000 0)), (2, .one (.ptr 2 0))] [(1000, .obj (mCells (MS.t _) (MS.env _) (MS.c _) (MS.vv _) (MS.n _) (MS.F _))), (1001, .row 124 16 (MS.vv _) (MS.rows _)), (2, .obj Out.zero.c)] [] [] ⟨(WkU.of_eq rfl trivial), (WkU.of_eq rfl trivial), trivial⟩ ⟨Or.inl ⟨_, rfl, WkBlk.refl _⟩, Or.inl ⟨_, rfl, WkBlk.refl _⟩, Or.inl ⟨_, rfl, WkBlk.refl _⟩, trivial⟩ trivial trivial rfl rfl ⟨⟨_, rfl⟩, ⟨_, rfl⟩, trivial⟩ ⟨mc_ok hp'.ok.c ⟨_, _, _, _, rfl, Nat.le_refl _⟩, okRows_closed hp'.ok.cl, (by refine And.intro ?_ ?_; exact trivial; refine And.intro ?_ ?_; exact trivial; refine And.intro ?_ ?_; exact trivial; exact trivial), trivial⟩), _, hp', rfl, rfl⟩
  | enterO ok okf hc hv h =>
    obtain ⟨t1, env1, c1, vv1, n1, F1, rows1⟩ := s
    simp only at hc hcl hv
    subst hc
    refine AW.block ?_; refine AW.seq ?_; refine AW.seq ?_; refine AW.region (by kernel_rfl) ?_; refine RunL.val (by exact rfl) (loc_moveC rfl) ?_; refine RunL.val (by exact rfl) (loc_nilCheck rfl rfl) ?_; refine RunL.val (by exact rfl) (loc_fieldAddr rfl) ?_; refine RunL.val (by exact rfl) (loc_load rfl rfl rfl) ?_; refine RunL.val (by exact rfl) (loc_eqNilT rfl rfl) ?_; refine RunL.nil ?_; refine AW.condT (by exact rfl) ?_; refine AW.seq ?_; refine AW.seq ?_; refine AW.region (by kernel_rfl) ?_; refine RunL.val (by exact rfl) (loc_moveC rfl) ?_
    refine RunL.many (by exact rfl) (loc_funE h rfl (by refine ⟨_, _, rfl, (by exact LeU.of_eq rfl trivial), (by exact Exists.intro _ rfl), ?_⟩; exact rfl) (by exact ⟨rfl, rfl, trivial⟩) (by exact rfl) (by simp [namesL, MS.O]) (by exact ⟨mc_ok rfl ⟨_, _, _, _, rfl, Nat.le_refl _⟩, okRows_closed hcl, trivial⟩)) ?_
    refine RunL.val (by exact rfl) (loc_moveT rfl) ?_; refine RunL.val (by exact rfl) (loc_extractA rfl rfl) ?_; refine RunL.val (by exact rfl) (loc_extractC rfl rfl) ?_; refine RunL.mem (by exact rfl) (loc_allocD rfl rfl) ?_; refine RunL.eff (by exact rfl) (loc_storeW rfl rfl rfl rfl (by exact rfl) (by exact rfl)) ?_; refine RunL.val (by exact rfl) (loc_assignC rfl) ?_; refine RunL.nil ?_; refine AW.seq ?_; refine AW.region (by kernel_rfl) ?_; refine RunL.val (by exact rfl) (loc_moveC rfl) ?_; refine RunL.nil ?_; refine AW.condT (by exact rfl) ?_; refine AW.seq ?_; refine AW.region (by kernel_rfl) ?_; refine RunL.val (by exact rfl) (loc_loadA rfl rfl (by exact Cut.all (by exact rfl))) ?_; refine RunL.eff (by exact rfl) (loc_storeW rfl rfl rfl rfl (by exact rfl) (by exact rfl)) ?_; refine RunL.nil ?_; refine AW.ret ?_
    refine rq ?_
    exact ret_cellO (by exact .inr rfl) (by exact rfl) (by exact rfl) (by exact rfl) [] (by exact trivial) (l' := o.c) (by exact wkRow_refl _) (by exact ⟨⟨_, rfl, wkRow_refl _⟩, ⟨_, rfl, WkBlk.refl _⟩, trivial⟩) (by exact rfl) (by exact ⟨trivial, trivial, trivial, trivial⟩) (by exact ⟨mc_ok okf.c ⟨_, _, _, _, rfl, Nat.le_refl _⟩, okRows_closed okf.cl, trivial⟩) rfl
  | leave ok hc hn hf hv h hp' =>
    rename_i n0 s' v f
    obtain ⟨t1, env1, c1, vv1, n1, F1, rows1⟩ := s
    simp only at hc hn hf hcl hv
    subst hc hn
    have hlen0 := ok.le
    have hlim := ok.lim
    simp only at hlen0 hlim
    have hz : ((((n0 + 1 : Nat)) : Int) == 0) = false := by rw [beq_eq_false_iff_ne]; omega
    dsimp only at h ⊢
    refine AW.block ?_; refine AW.seq ?_; refine AW.seq ?_; refine AW.region (by kernel_rfl) ?_; refine RunL.val (by exact rfl) (loc_moveC rfl) ?_; refine RunL.val (by exact rfl) (loc_nilCheck rfl rfl) ?_; refine RunL.val (by exact rfl) (loc_fieldAddr rfl) ?_; refine RunL.val (by exact rfl) (loc_load rfl rfl rfl) ?_; refine RunL.val (by exact rfl) (loc_eqNilF rfl rfl rfl) ?_; refine RunL.nil ?_; refine AW.condF (by exact rfl) ?_; refine AW.skip ?_; refine AW.seq ?_; refine AW.seq ?_; refine AW.region (by kernel_rfl) ?_; refine RunL.val (by exact rfl) (loc_moveC rfl) ?_; refine RunL.val (by exact rfl) (loc_nilCheck rfl rfl) ?_; refine RunL.val (by exact rfl) (loc_fieldAddr rfl) ?_; refine RunL.val (by exact rfl) (loc_load rfl rfl rfl) ?_; refine RunL.val (by exact rfl) (loc_lenOwn rfl rfl) ?_; refine RunL.val (by exact rfl) (loc_binInt rfl rfl rfl) ?_; refine RunL.nil ?_; refine AW.condF (by exact rfl) ?_; refine AW.skip ?_; refine AW.seq ?_; refine AW.regionD (by kernel_rfl) (by kernel_rfl) (by kernel_rfl) ?_; refine RunL.val (by exact rfl) (loc_moveC rfl) ?_; refine RunL.val (by exact rfl) (loc_nilCheck rfl rfl) ?_; refine RunL.val (by exact rfl) (loc_fieldAddr rfl) ?_; refine RunL.val (by exact rfl) (loc_load rfl rfl rfl) ?_; refine RunL.val (by exact rfl) (loc_moveC rfl) ?_; refine RunL.val (by exact rfl) (loc_nilCheck rfl rfl) ?_; refine RunL.val (by exact rfl) (loc_fieldAddr rfl) ?_; refine RunL.val (by exact rfl) (loc_load rfl rfl rfl) ?_; refine RunL.val (by exact rfl) (loc_lenOwn rfl rfl) ?_; refine RunL.val (by exact rfl) (loc_subB rfl rfl (by omega)) ?_
    refine RunL.val (by exact rfl) (loc_indexOwn n0 (by exact rfl) (by exact rfl) (by omega) (by exact rfl) (by omega)) ?_
    refine RunL.val (by exact rfl) (loc_loadEA (by exact rfl) (by exact rfl) hf (Cut.all (fr_len f))) ?_
    refine RunL.mem (by exact rfl) (loc_allocD rfl rfl) ?_
    refine RunL.eff (by exact rfl) (loc_storeW rfl rfl rfl rfl (fr_len f) (by exact rfl)) ?_
    refine RunL.nilD (by kernel_rfl) ?_; refine AW.seq ?_; refine AW.regionD (by kernel_rfl) (by kernel_rfl) (by kernel_rfl) ?_; refine RunL.val (by exact rfl) (loc_moveC rfl) ?_; refine RunL.val (by exact rfl) (loc_moveC rfl) ?_; refine RunL.val (by exact rfl) (loc_nilCheck rfl rfl) ?_; refine RunL.val (by exact rfl) (loc_fieldAddr rfl) ?_; refine RunL.val (by exact rfl) (loc_load rfl rfl rfl) ?_; refine RunL.val (by exact rfl) (loc_moveC rfl) ?_; refine RunL.val (by exact rfl) (loc_nilCheck rfl rfl) ?_; refine RunL.val (by exact rfl) (loc_fieldAddr rfl) ?_; refine RunL.val (by exact rfl) (loc_load rfl rfl rfl) ?_; refine RunL.val (by exact rfl) (loc_lenOwn rfl rfl) ?_; refine RunL.val (by exact rfl) (loc_subB rfl rfl (by omega)) ?_
    refine RunL.val (by exact rfl) (loc_sliceOwn (n' := n0) (by exact rfl) (by exact rfl) (by omega) (by exact rfl) (by omega) (by omega)) ?_
    refine RunL.val (by exact rfl) (loc_nilCheck rfl rfl) ?_; refine RunL.val (by exact rfl) (loc_fieldAddr rfl) ?_; refine RunL.eff (by exact rfl) (loc_store (by exact rfl) (by exact rfl) (by exact rfl) (by exact rfl) (by exact rfl) (by exact Nat.le_of_ble_eq_true rfl) (by exact rfl)) ?_; refine RunL.nilD (by kernel_rfl) ?_; refine AW.seq ?_; refine AW.region (by kernel_rfl) ?_; refine RunL.val (by exact rfl) (loc_moveC rfl) ?_
    refine RunL.val (by exact rfl) (loc_loadA rfl rfl (Cut.all (fr_len f))) ?_
    refine RunL.many (by exact rfl) (loc_funE h rfl (by exact ⟨_, _, rfl, LeU.of_eq rfl trivial, ⟨_, rfl⟩, _, _, rfl, LeU.of_eq rfl trivial, fr_ok f, rfl⟩) (by exact ⟨rfl, rfl, trivial⟩) (by exact rfl) (by simp [namesL, MS.O]) (by exact ⟨mc_ok rfl ⟨_, _, _, _, rfl, Nat.le_refl _⟩, okRows_closed hcl, trivial⟩)) ?_
    refine RunL.val (by exact rfl) (loc_moveT rfl) ?_; refine RunL.val (by exact rfl) (loc_extractA rfl rfl) ?_; refine RunL.val (by exact rfl) (loc_extractC rfl rfl) ?_; refine RunL.mem (by exact rfl) (loc_allocD rfl rfl) ?_; refine RunL.eff (by exact rfl) (loc_storeW rfl rfl rfl rfl (by exact rfl) (by exact rfl)) ?_; refine RunL.val (by exact rfl) (loc_assignC rfl) ?_; refine RunL.nil ?_; refine AW.seq ?_; refine AW.region (by kernel_rfl) ?_; refine RunL.val (by exact rfl) (loc_moveC rfl) ?_; refine RunL.nil ?_; refine AW.condF (by exact rfl) ?_; refine AW.skip ?_
    exact ⟨_, _, _, Nat.lt_succ_self _, (gh_lit [(0, .one (.ptr 1000 0)), (2, .one (.ptr 2 0))] [(1000, .obj (mCells (MS.t _) (MS.env _) (MS.c _) (MS.vv _) (MS.n _) (MS.F _))), (1001, .row 124 16 (MS.vv _) (MS.rows _)), (2, .obj Out.zero.c)] [] [] ⟨(WkU.of_eq rfl trivial), (WkU.of_eq rfl trivial), trivial⟩ ⟨Or.inl ⟨_, rfl, WkBlk.refl _⟩, Or.inl ⟨_, rfl, WkBlk.refl _⟩, Or.inl ⟨_, rfl, WkBlk.refl _⟩, trivial⟩ trivial trivial rfl rfl ⟨⟨_, rfl⟩, ⟨_, rfl⟩, trivial⟩ ⟨mc_ok hp'.ok.c ⟨_, _, _, _, rfl, Nat.le_refl _⟩, okRows_closed hp'.ok.cl, (by refine And.intro ?_ ?_; exact trivial; refine And.intro ?_ ?_; exact trivial; refine And.intro ?_ ?_; exact trivial; exact trivial), trivial⟩), _, hp', rfl, rfl⟩
  | leaveO ok okf hc hn hf hv h =>
    rename_i n0 v f
    obtain ⟨t1, env1, c1, vv1, n1, F1, rows1⟩ := s
    simp only at hc hn hf hcl hv
    subst hc hn
    have hlen0 := ok.le
    have hlim := ok.lim
    simp only at hlen0 hlim
    have hz : ((((n0 + 1 : Nat)) : Int) == 0) = false := by rw [beq_eq_false_iff_ne]; omega
    dsimp only at h ⊢
    refine AW.block ?_; refine AW.seq ?_; refine AW.seq ?_; refine AW.region (by kernel_rfl) ?_; refine RunL.val (by exact rfl) (loc_moveC rfl) ?_; refine RunL.val (by exact rfl) (loc_nilCheck rfl rfl) ?_; refine RunL.val (by exact rfl) (loc_fieldAddr rfl) ?_; refine RunL.val (by exact rfl) (loc_load rfl rfl rfl) ?_; refine RunL.val (by exact rfl) (loc_eqNilF rfl rfl rfl) ?_; refine RunL.nil ?_; refine AW.condF (by exact rfl) ?_; refine AW.skip ?_; refine AW.seq ?_; refine AW.seq ?_; refine AW.region (by kernel_rfl) ?_; refine RunL.val (by exact rfl) (loc_moveC rfl) ?_; refine RunL.val (by exact rfl) (loc_nilCheck rfl rfl) ?_; refine RunL.val (by exact rfl) (loc_fieldAddr rfl) ?_; refine RunL.val (by exact rfl) (loc_load rfl rfl rfl) ?_; refine RunL.val (by exact rfl) (loc_lenOwn rfl rfl) ?_; refine RunL.val (by exact rfl) (loc_binInt rfl rfl rfl) ?_; refine RunL.nil ?_; refine AW.condF (by exact rfl) ?_; refine AW.skip ?_; refine AW.seq ?_; refine AW.regionD (by kernel_rfl) (by kernel_rfl) (by kernel_rfl) ?_; refine RunL.val (by exact rfl) (loc_moveC rfl) ?_; refine RunL.val (by exact rfl) (loc_nilCheck rfl rfl) ?_; refine RunL.val (by exact rfl) (loc_fieldAddr rfl) ?_; refine RunL.val (by exact rfl) (loc_load rfl rfl rfl) ?_; refine RunL.val (by exact rfl) (loc_moveC rfl) ?_; refine RunL.val (by exact rfl) (loc_nilCheck rfl rfl) ?_; refine RunL.val (by exact rfl) (loc_fieldAddr rfl) ?_; refine RunL.val (by exact rfl) (loc_load rfl rfl rfl) ?_; refine RunL.val (by exact rfl) (loc_lenOwn rfl rfl) ?_; refine RunL.val (by exact rfl) (loc_subB rfl rfl (by omega)) ?_
    refine RunL.val (by exact rfl) (loc_indexOwn n0 (by exact rfl) (by exact rfl) (by omega) (by exact rfl) (by omega)) ?_
    refine RunL.val (by exact rfl) (loc_loadEA (by exact rfl) (by exact rfl) hf (Cut.all (fr_len f))) ?_
    refine RunL.mem (by exact rfl) (loc_allocD rfl rfl) ?_
    refine RunL.eff (by exact rfl) (loc_storeW rfl rfl rfl rfl (fr_len f) (by exact rfl)) ?_
    refine RunL.nilD (by kernel_rfl) ?_; refine AW.seq ?_; refine AW.regionD (by kernel_rfl) (by kernel_rfl) (by kernel_rfl) ?_; refine RunL.val (by exact rfl) (loc_moveC rfl) ?_; refine RunL.val (by exact rfl) (loc_moveC rfl) ?_; refine RunL.val (by exact rfl) (loc_nilCheck rfl rfl) ?_; refine RunL.val (by exact rfl) (loc_fieldAddr rfl) ?_; refine RunL.val (by exact rfl) (loc_load rfl rfl rfl) ?_; refine RunL.val (by exact rfl) (loc_moveC rfl) ?_; refine RunL.val (by exact rfl) (loc_nilCheck rfl rfl) ?_; refine RunL.val (by exact rfl) (loc_fieldAddr rfl) ?_; refine RunL.val (by exact rfl) (loc_load rfl rfl rfl) ?_; refine RunL.val (by exact rfl) (loc_lenOwn rfl rfl) ?_; refine RunL.val (by exact rfl) (loc_subB rfl rfl (by omega)) ?_
    refine RunL.val (by exact rfl) (loc_sliceOwn (n' := n0) (by exact rfl) (by exact rfl) (by omega) (by exact rfl) (by omega) (by omega)) ?_
    refine RunL.val (by exact rfl) (loc_nilCheck rfl rfl) ?_; refine RunL.val (by exact rfl) (loc_fieldAddr rfl) ?_; refine RunL.eff (by exact rfl) (loc_store (by exact rfl) (by exact rfl) (by exact rfl) (by exact rfl) (by exact rfl) (by exact Nat.le_of_ble_eq_true rfl) (by exact rfl)) ?_; refine RunL.nilD (by kernel_rfl) ?_; refine AW.seq ?_; refine AW.region (by kernel_rfl) ?_; refine RunL.val (by exact rfl) (loc_moveC rfl) ?_
    refine RunL.val (by exact rfl) (loc_loadA rfl rfl (Cut.all (fr_len f))) ?_
    refine RunL.many (by exact rfl) (loc_funE h rfl (by exact ⟨_, _, rfl, LeU.of_eq rfl trivial, ⟨_, rfl⟩, _, _, rfl, LeU.of_eq rfl trivial, fr_ok f, rfl⟩) (by exact ⟨rfl, rfl, trivial⟩) (by exact rfl) (by simp [namesL, MS.O]) (by exact ⟨mc_ok rfl ⟨_, _, _, _, rfl, Nat.le_refl _⟩, okRows_closed hcl, trivial⟩)) ?_
    refine RunL.val (by exact rfl) (loc_moveT rfl) ?_; refine RunL.val (by exact rfl) (loc_extractA rfl rfl) ?_; refine RunL.val (by exact rfl) (loc_extractC rfl rfl) ?_; refine RunL.mem (by exact rfl) (loc_allocD rfl rfl) ?_; refine RunL.eff (by exact rfl) (loc_storeW rfl rfl rfl rfl (by exact rfl) (by exact rfl)) ?_; refine RunL.val (by exact rfl) (loc_assignC rfl) ?_; refine RunL.nil ?_; refine AW.seq ?_; refine AW.region (by kernel_rfl) ?_; refine RunL.val (by exact rfl) (loc_moveC rfl) ?_; refine RunL.nil ?_; refine AW.condT (by exact rfl) ?_; refine AW.seq ?_; refine AW.region (by kernel_rfl) ?_; refine RunL.val (by exact rfl) (loc_loadA rfl rfl (by exact Cut.all (by exact rfl))) ?_; refine RunL.eff (by exact rfl) (loc_storeW rfl rfl rfl rfl (by exact rfl) (by exact rfl)) ?_; refine RunL.nil ?_; refine AW.ret ?_
    refine rq ?_
    exact ret_cellO (by exact .inr rfl) (by exact rfl) (by exact rfl) (by exact rfl) [] (by exact trivial) (l' := o.c) (by exact wkRow_refl _) (by exact ⟨⟨_, rfl, wkRow_refl _⟩, ⟨_, rfl, WkBlk.refl _⟩, trivial⟩) (by exact rfl) (by exact ⟨trivial, trivial, trivial, trivial⟩) (by exact ⟨mc_ok okf.c ⟨_, _, _, _, rfl, Nat.le_refl _⟩, okRows_closed okf.cl, trivial⟩) rfl
  | seen ok hc hn ho =>
    obtain ⟨t1, env1, c1, vv1, n1, F1, rows1⟩ := fin
    simp only at hc hcl hn
    subst hc hn ho
    have okf := ok.ok2
    dsimp only
    refine AW.block ?_; refine AW.seq ?_; refine AW.seq ?_; refine AW.region (by kernel_rfl) ?_; refine RunL.val (by exact rfl) (loc_moveC rfl) ?_; refine RunL.val (by exact rfl) (loc_nilCheck rfl rfl) ?_; refine RunL.val (by exact rfl) (loc_fieldAddr rfl) ?_; refine RunL.val (by exact rfl) (loc_load rfl rfl rfl) ?_; refine RunL.val (by exact rfl) (loc_eqNilF rfl rfl rfl) ?_; refine RunL.nil ?_; refine AW.condF (by exact rfl) ?_; refine AW.skip ?_; refine AW.seq ?_; refine AW.seq ?_; refine AW.region (by kernel_rfl) ?_; refine RunL.val (by exact rfl) (loc_moveC rfl) ?_; refine RunL.val (by exact rfl) (loc_nilCheck rfl rfl) ?_; refine RunL.val (by exact rfl) (loc_fieldAddr rfl) ?_; refine RunL.val (by exact rfl) (loc_load rfl rfl rfl) ?_; refine RunL.val (by exact rfl) (loc_lenOwn rfl rfl) ?_; refine RunL.val (by exact rfl) (loc_binInt rfl rfl rfl) ?_; refine RunL.nil ?_; refine AW.condT (by exact rfl) ?_; refine AW.seq ?_; refine AW.region (by kernel_rfl) ?_; refine RunL.val (by exact rfl) (loc_moveC rfl) ?_; refine RunL.val (by exact rfl) (loc_nilCheck rfl rfl) ?_; refine RunL.val (by exact rfl) (loc_fieldAddr rfl) ?_; refine RunL.val (by exact rfl) (loc_load rfl rfl rfl) ?_
    refine RunL.val (by exact rfl) (loc_fun (seen_a _) rfl (by refine ⟨_, _, rfl, (by exact LeU.of_eq rfl trivial), (by exact trivial), ?_⟩; exact rfl)) ?_
    refine RunL.eff (by exact rfl) (loc_storeW rfl rfl rfl rfl (by exact rfl) (by exact rfl)) ?_; refine RunL.nil ?_; refine AW.ret ?_
    refine rq ?_
    exact ret_cellO (by exact .inr rfl) (by exact rfl) (by exact rfl) (by exact rfl) [] (by exact trivial) (l' := Out.c _) (by exact wkRow_refl _) (by exact ⟨⟨_, rfl, wkRow_refl _⟩, ⟨_, rfl, WkBlk.refl _⟩, trivial⟩) (by exact rfl) (by exact ⟨trivial, trivial, trivial, trivial⟩) (by exact ⟨mc_ok okf.c ⟨_, _, _, _, rfl, Nat.le_refl _⟩, okRows_closed okf.cl, trivial⟩) rfl
end Go.Proofs.YtnflnbdlgdjfmabDoor
namespace Go.Proofs.YtnflnbdlgdjfmabDoor
open Go.RowKit
set_option linter.unusedVariables false
set_option linter.unusedSimpArgs false
set_option maxRecDepth 100000
attribute [local irreducible] RunL AW LocOp ACalls Gh
/-- What comes of a term that the machine begins with. -/
def BeginIs (t : Tm) (F : Int) (o : Out) (e : Int) : Prop :=
  ((F < 0 ∨ 100 < F) ∧ o = .zero ∧ e = 3) ∨ ∃ f : Nat, F = f ∧ f ≤ 100 ∧ ∃ r, Ev (.tm t []) f r ∧ o = r.told ∧ e = 0
/-- A term whose stack stays low. -/
def Low (t : Tm) : Prop := NB t ∧ ∀ (f : Nat) (r : Res) (h : Nat), f ≤ 100 → EvN (.tm t []) f r h → h ≤ 100000000000
theorem flow_of {t : Tm} {f : Nat} {r : Res} (hl : Low t) (hf : f ≤ 100) (he : Ev (.tm t []) f r) : ∃ fin : MS, fin.Ok2 ∧ ACalls Tryd.prog 61 [.one (.ptr 1000 0)] [(1000, .obj (mCells t [] .nilp 0 0 f)), (1001, .row 124 16 0 [])] r.told.u fin.O := by
  obtain ⟨n, hn⟩ := ev_n he
  obtain ⟨k, hk⟩ := ev_runsB hn (hl.2 f r n hf hn)
  have hm : MB ⟨.ent t [], [], f⟩ := ⟨⟨hl.1, fun v hv => by cases hv⟩, (fun g hg => by cases hg), Nat.le_trans hf (by decide)⟩
  obtain ⟨fin, s, h1, h2, h3, h4, hp⟩ := path_of hk (mCells t [] .nilp 0 0 f) 0 0 [] hm rfl ⟨rfl, Nat.le_refl _, rfl, rfl, fun r hr => by cases hr⟩
  have := flow_a r.told fin s k hp
  unfold MS.O at this
  rw [← h4, h1, h2] at this
  exact ⟨fin, hp.okf, this⟩
set_option maxHeartbeats 4000000 in
theorem begin_a (t : Tm) (hl : Low t) (F : Int) (o : Out) (e : Int) (h : BeginIs t F o e) : ACalls Tryd.prog 39 [t.u, .one (.int .i64 F)] [] (.tup [o.u, .one (.int .i64 e)]) [] := by
  rcases h with ⟨hF, rfl, rfl⟩ | ⟨f, rfl, hf, r, hr, rfl, rfl⟩
  · refine acalls_of_body Tryd.func39 rfl (by kernel_rfl) (Nat.le_of_ble_eq_true rfl) trivial (by simp [namesL]) ?_
    cases h0 : decide (F < 0) with
    | true =>
      refine AW.seq ?_; refine AW.region (by kernel_rfl) ?_; refine RunL.mem (by exact rfl) (loc_boxD rfl rfl rfl) ?_; refine RunL.mem (by exact rfl) (loc_allocD rfl rfl) ?_; refine RunL.val (by exact rfl) (loc_assignC rfl) ?_; refine RunL.nil ?_; refine AW.seq ?_; refine AW.seq ?_; refine AW.region (by kernel_rfl) ?_; refine RunL.val (by exact rfl) (loc_moveC rfl) ?_; refine RunL.val (by exact rfl) (loc_binInt rfl rfl rfl) ?_; refine RunL.val (by exact rfl) (loc_moveC rfl) ?_; refine RunL.skip (.inl ⟨_, _, rfl, rfl, guard_eq true (by assumption) rfl⟩) ?_; refine RunL.skip (.inl ⟨_, _, rfl, rfl, guard_eq true (by assumption) rfl⟩) ?_; refine RunL.val (by exact rfl) (loc_pickI true (by assumption) rfl rfl) ?_; refine RunL.nil ?_; refine AW.condT (by exact rfl) ?_; refine AW.seq ?_; refine AW.region (by kernel_rfl) ?_; refine RunL.val (by exact rfl) (loc_build (by exact rfl) (by exact Cut.all (by exact rfl)) (by exact rfl)) ?_; refine RunL.eff (by exact rfl) (loc_storeW rfl rfl rfl rfl (by exact rfl) (by exact rfl)) ?_; refine RunL.val (by exact rfl) (loc_assignC rfl) ?_; refine RunL.nil ?_; refine AW.ret ?_
      refine rq ?_
      exact ret_ct (by exact .inr rfl) (by exact rfl) (by exact rfl) (by exact rfl) (by exact rfl) [] trivial (l' := Out.zero.c) (by exact wkRow_refl _) (by exact .le (.refl _)) (by exact trivial) (by exact rfl) (by refine And.intro ?_ ?_; refine And.intro ?_ ?_; exact trivial; refine And.intro ?_ ?_; exact trivial; refine And.intro ?_ ?_; exact trivial; exact trivial; refine And.intro ?_ ?_; exact trivial; exact trivial) (by exact trivial) (by exact rfl)
    | false =>
      have h1 : decide (F > 100) = true := by
        have := of_decide_eq_false h0
        exact decide_eq_true (by omega)
      refine AW.seq ?_; refine AW.region (by kernel_rfl) ?_; refine RunL.mem (by exact rfl) (loc_boxD rfl rfl rfl) ?_; refine RunL.mem (by exact rfl) (loc_allocD rfl rfl) ?_; refine RunL.val (by exact rfl) (loc_assignC rfl) ?_; refine RunL.nil ?_; refine AW.seq ?_; refine AW.seq ?_; refine AW.region (by kernel_rfl) ?_; refine RunL.val (by exact rfl) (loc_moveC rfl) ?_; refine RunL.val (by exact rfl) (loc_binInt rfl rfl rfl) ?_; refine RunL.val (by exact rfl) (loc_moveC rfl) ?_; refine RunL.val (by exact .inl ⟨_, _, rfl, rfl, guard_eq false (by assumption) rfl⟩) (loc_moveC rfl) ?_; refine RunL.val (by exact .inl ⟨_, _, rfl, rfl, guard_eq false (by assumption) rfl⟩) (loc_binInt rfl rfl rfl) ?_; refine RunL.val (by exact rfl) (loc_pickI false (by assumption) rfl rfl) ?_; refine RunL.nil ?_; refine AW.condTa (by exact rfl) (by assumption) ?_; refine AW.seq ?_; refine AW.region (by kernel_rfl) ?_; refine RunL.val (by exact rfl) (loc_build (by exact rfl) (by exact Cut.all (by exact rfl)) (by exact rfl)) ?_; refine RunL.eff (by exact rfl) (loc_storeW rfl rfl rfl rfl (by exact rfl) (by exact rfl)) ?_; refine RunL.val (by exact rfl) (loc_assignC rfl) ?_; refine RunL.nil ?_; refine AW.ret ?_
      refine rq ?_
      exact ret_ct (by exact .inr rfl) (by exact rfl) (by exact rfl) (by exact rfl) (by exact rfl) [] trivial (l' := Out.zero.c) (by exact wkRow_refl _) (by exact .le (.refl _)) (by exact trivial) (by exact rfl) (by refine And.intro ?_ ?_; refine And.intro ?_ ?_; exact trivial; refine And.intro ?_ ?_; exact trivial; refine And.intro ?_ ?_; exact trivial; exact trivial; refine And.intro ?_ ?_; exact trivial; exact trivial) (by exact trivial) (by exact rfl)
  · obtain ⟨fin, hfin, hflow⟩ := flow_of hl hf hr
    have h0 : decide ((f : Int) < 0) = false := decide_eq_false (by omega)
    have h1 : decide ((f : Int) > 100) = false := decide_eq_false (by omega)
    refine acalls_of_body Tryd.func39 rfl (by kernel_rfl) (Nat.le_of_ble_eq_true rfl) trivial (by simp [namesL]) ?_
    refine AW.seq ?_; refine AW.region (by kernel_rfl) ?_
    refine RunL.mem (by exact rfl) (loc_boxD rfl rfl rfl) ?_
    refine RunL.mem (by exact rfl) (loc_allocD rfl rfl) ?_
    refine RunL.val (by exact rfl) (loc_assignC rfl) ?_; refine RunL.nil ?_; refine AW.seq ?_; refine AW.seq ?_; refine AW.region (by kernel_rfl) ?_; refine RunL.val (by exact rfl) (loc_moveC rfl) ?_; refine RunL.val (by exact rfl) (loc_binInt rfl rfl rfl) ?_; refine RunL.val (by exact rfl) (loc_moveC rfl) ?_; refine RunL.val (by exact .inl ⟨_, _, rfl, rfl, rfl⟩) (loc_moveC rfl) ?_; refine RunL.val (by exact .inl ⟨_, _, rfl, rfl, rfl⟩) (loc_binInt rfl rfl rfl) ?_; refine RunL.val (by exact rfl) (loc_pickF rfl rfl) ?_; refine RunL.nil ?_; refine AW.condFa (by exact rfl) (by assumption) ?_; refine AW.skip ?_; refine AW.seq ?_; refine AW.region (by kernel_rfl) ?_; refine RunL.val (by exact rfl) (loc_loadA rfl rfl (by exact Cut.all (by exact rfl))) ?_; refine RunL.val (by exact rfl) (loc_moveC rfl) ?_; refine RunL.val (by exact rfl) (loc_build (by exact rfl) (by exact Cut.all (by exact rfl)) (by exact rfl)) ?_
    refine RunL.mem (by exact rfl) (loc_box 1000 (by exact rfl) (by exact rfl) (by exact rfl) (by exact rfl)) ?_
    refine RunL.val (by exact rfl) (loc_assignC rfl) ?_; refine RunL.nil ?_
    refine AW.gh (gh_lit [(4, .one (.ptr 4 0)), (5, .one (.int .i64 0)), (6, .one (.ptr 1000 0))] [(1000, .obj (mCells t [] .nilp 0 0 f)), (1001, .row 124 16 0 []), (4, .obj Out.zero.c)] [] [1001] ⟨(WkU.of_eq rfl trivial), (WkU.of_eq rfl trivial), (WkU.of_eq rfl trivial), trivial⟩ ⟨(by (refine Or.inl ⟨_, rfl, ?_⟩; show All2 _ _ _; refine And.intro ?_ ?_; exact WkC.le (LeC.refl _); refine And.intro ?_ ?_; exact WkC.le (LeC.refl _); refine And.intro ?_ ?_; exact WkC.le (LeC.refl _); refine And.intro ?_ ?_; exact WkC.le (LeC.refl _); refine And.intro ?_ ?_; exact WkC.le (LeC.refl _); refine And.intro ?_ ?_; exact WkC.le (LeC.refl _); refine And.intro ?_ ?_; exact WkC.le (LeC.refl _); refine And.intro ?_ ?_; exact WkC.le (LeC.refl _); refine And.intro ?_ ?_; exact WkC.le (LeC.refl _); refine And.intro ?_ ?_; exact WkC.nil (List.mem_cons_self ..); refine And.intro ?_ ?_; exact WkC.le (LeC.refl _); exact trivial)), (by exact Or.inr ⟨rfl, List.mem_cons_self .., _, _, by decide, rfl⟩), (by exact Or.inl ⟨_, rfl, WkBlk.refl _⟩), trivial⟩ trivial ⟨rfl, trivial⟩ rfl rfl ⟨⟨_, rfl⟩, trivial, ⟨_, rfl⟩, trivial⟩ ⟨(by refine And.intro ?_ ?_; exact trivial; refine And.intro ?_ ?_; exact trivial; refine And.intro ?_ ?_; exact trivial; refine And.intro ?_ ?_; exact trivial; refine And.intro ?_ ?_; exact trivial; refine And.intro ?_ ?_; exact trivial; refine And.intro ?_ ?_; exact trivial; refine And.intro ?_ ?_; exact trivial; refine And.intro ?_ ?_; exact trivial; refine And.intro ?_ ?_; exact ⟨_, _, _, _, rfl, Nat.le_refl _⟩; refine And.intro ?_ ?_; exact trivial; exact trivial), (okRows_closed (by exact rfl)), (by refine And.intro ?_ ?_; exact trivial; refine And.intro ?_ ?_; exact trivial; refine And.intro ?_ ?_; exact trivial; exact trivial), trivial⟩) ?_
    refine AW.seq ?_; refine AW.region (by kernel_rfl) ?_; refine RunL.val (by exact rfl) (loc_moveC rfl) ?_
    refine RunL.many (by exact rfl) (loc_funE hflow rfl (by refine ⟨_, _, rfl, (by exact LeU.of_eq rfl trivial), (by exact Exists.intro _ rfl), ?_⟩; exact rfl) (by exact ⟨rfl, rfl, trivial⟩) (by exact rfl) (by simp [namesL]) (by exact ⟨mc_ok rfl ⟨_, _, _, _, rfl, Nat.le_refl _⟩, okRows_closed rfl, trivial⟩)) ?_
    refine RunL.eff (by exact rfl) (loc_storeW rfl rfl rfl rfl (by exact rfl) (by exact rfl)) ?_; refine RunL.val (by exact rfl) (loc_assignC rfl) ?_; refine RunL.nil ?_; refine AW.ret ?_
    refine rq ?_
    exact ret_ct (by exact .inr rfl) (by exact rfl) (by exact rfl) (by exact rfl) (by exact rfl) [] trivial (l' := Out.c _) (by exact wkRow_refl _) (by exact .le (.refl _)) (by exact trivial) (by exact rfl) (by refine And.intro ?_ ?_; refine And.intro ?_ ?_; exact trivial; refine And.intro ?_ ?_; exact trivial; refine And.intro ?_ ?_; exact trivial; exact trivial; refine And.intro ?_ ?_; exact trivial; exact trivial) (by exact trivial) (by exact rfl)
theorem good_of_Good {a : Tm} (h : a.Good 0 = true) : a.good 0 ([] : List Ty).length = true := by
  unfold Tm.Good at h
  simp only [Bool.and_eq_true] at h
  exact h.2
/-- What comes of a term, with its casts. -/
def RunIs (a : Tm) (F : Int) (o : Out) (e : Int) : Prop :=
  (a.Good 0 = false ∧ o = .zero ∧ e = 1) ∨ (a.Good 0 = true ∧ walkT a [] 0 = none ∧ o = .zero ∧ e = 2) ∨ ∃ x k, a.Good 0 = true ∧ walkT a [] 0 = some (x, k) ∧ BeginIs x F o e
theorem walk_low {a x : Tm} {k : Ty} (hok : TmOk a) (hg : a.Good 0 = true) (h : walkT a [] 0 = some (x, k)) : Low x ∧ HT [] x k ∧ Right k := by
  obtain ⟨hc, hn⟩ := walk_small hg h
  have hgood := good_of_Good hg
  obtain ⟨h1, h2⟩ := walk_hd a [] 0 x k hgood (fun t h => by cases h) h
  have h3 := walk_ht a [] 0 x k hgood (fun t h => by cases h) h
  have hsz : a.nodes ≤ 40 := by unfold Tm.Good at hg; simp at hg; have := hg.1; omega
  exact ⟨⟨walk_nb a [] 0 x k hok.nb (by omega) h, fun f r n hf he => stack_le h1 hc hn hf he⟩, h3.1, h3.2⟩
set_option maxHeartbeats 4000000 in
theorem run_a (a : Tm) (hok : TmOk a) (hsz : a.nodes ≤ 1048576) (F : Int) (o : Out) (e : Int) (h : RunIs a F o e) : ACalls Tryd.prog 23 [a.u, .one (.int .i64 F)] [] (.tup [o.u, .one (.int .i64 e)]) [] := by
  have hch := check_a a hok hsz
  refine acalls_of_body Tryd.func23 rfl (by kernel_rfl) (Nat.le_of_ble_eq_true rfl) trivial (by simp [namesL]) ?_
  refine AW.seq ?_; refine AW.region (by kernel_rfl) ?_; refine RunL.mem (by exact rfl) (loc_boxD rfl rfl rfl) ?_; refine RunL.mem (by exact rfl) (loc_allocD rfl rfl) ?_; refine RunL.val (by exact rfl) (loc_assignC rfl) ?_; refine RunL.nil ?_; refine AW.seq ?_; refine AW.region (by kernel_rfl) ?_; refine RunL.val (by exact rfl) (loc_loadA rfl rfl (by exact Cut.all (by exact rfl))) ?_
  refine RunL.val (by exact rfl) (loc_fun hch rfl (by refine ⟨_, _, rfl, (by exact LeU.of_eq rfl trivial), (by (refine And.intro ?_ ?_; exact trivial; refine And.intro ?_ ?_; exact trivial; refine And.intro ?_ ?_; exact trivial; refine And.intro ?_ ?_; exact trivial; refine And.intro ?_ ?_; exact trivial; refine And.intro ?_ ?_; exact trivial; refine And.intro ?_ ?_; exact trivial; exact trivial; done)), ?_⟩; exact rfl)) ?_
  rcases h with ⟨hg, rfl, rfl⟩ | ⟨hg, hw, rfl, rfl⟩ | ⟨x, k, hg, hw, hb⟩
  · rw [show checkU a = errU 1 by unfold checkU; rw [hg]; rfl]
    refine RunL.val (by exact rfl) (loc_moveT rfl) ?_; refine RunL.val (by exact rfl) (loc_extractA rfl rfl) ?_; refine RunL.val (by exact rfl) (loc_extractA rfl rfl) ?_; refine RunL.val (by exact rfl) (loc_extractC rfl rfl) ?_; refine RunL.mem (by exact rfl) (loc_allocD rfl rfl) ?_; refine RunL.mem (by exact rfl) (loc_allocD rfl rfl) ?_; refine RunL.eff (by exact rfl) (loc_storeW rfl rfl rfl rfl (by exact rfl) (by exact rfl)) ?_; refine RunL.eff (by exact rfl) (loc_storeW rfl rfl rfl rfl (by exact rfl) (by exact rfl)) ?_; refine RunL.val (by exact rfl) (loc_assignC rfl) ?_; refine RunL.nil ?_; refine AW.seq ?_; refine AW.seq ?_; refine AW.region (by kernel_rfl) ?_; refine RunL.val (by exact rfl) (loc_moveC rfl) ?_; refine RunL.val (by exact rfl) (loc_binInt rfl rfl rfl) ?_; refine RunL.nil ?_; refine AW.condT (by exact rfl) ?_; refine AW.seq ?_; refine AW.region (by kernel_rfl) ?_; refine RunL.val (by exact rfl) (loc_build (by exact rfl) (by exact Cut.all (by exact rfl)) (by exact rfl)) ?_; refine RunL.val (by exact rfl) (loc_moveC rfl) ?_; refine RunL.eff (by exact rfl) (loc_storeW rfl rfl rfl rfl (by exact rfl) (by exact rfl)) ?_; refine RunL.val (by exact rfl) (loc_assignC rfl) ?_; refine RunL.nil ?_; refine AW.ret ?_
    refine rq ?_
    exact ret_ct (by exact .inr rfl) (by exact rfl) (by exact rfl) (by exact rfl) (by exact rfl) [] trivial (l' := Out.zero.c) (by exact wkRow_refl _) (by exact .le (.refl _)) (by exact trivial) (by exact rfl) (by refine And.intro ?_ ?_; refine And.intro ?_ ?_; exact trivial; refine And.intro ?_ ?_; exact trivial; refine And.intro ?_ ?_; exact trivial; exact trivial; refine And.intro ?_ ?_; exact trivial; exact trivial) (by exact trivial) (by exact rfl)
  · rw [show checkU a = errU 2 by unfold checkU; rw [hg, hw]; rfl]
    refine RunL.val (by exact rfl) (loc_moveT rfl) ?_; refine RunL.val (by exact rfl) (loc_extractA rfl rfl) ?_; refine RunL.val (by exact rfl) (loc_extractA rfl rfl) ?_; refine RunL.val (by exact rfl) (loc_extractC rfl rfl) ?_; refine RunL.mem (by exact rfl) (loc_allocD rfl rfl) ?_; refine RunL.mem (by exact rfl) (loc_allocD rfl rfl) ?_; refine RunL.eff (by exact rfl) (loc_storeW rfl rfl rfl rfl (by exact rfl) (by exact rfl)) ?_; refine RunL.eff (by exact rfl) (loc_storeW rfl rfl rfl rfl (by exact rfl) (by exact rfl)) ?_; refine RunL.val (by exact rfl) (loc_assignC rfl) ?_; refine RunL.nil ?_; refine AW.seq ?_; refine AW.seq ?_; refine AW.region (by kernel_rfl) ?_; refine RunL.val (by exact rfl) (loc_moveC rfl) ?_; refine RunL.val (by exact rfl) (loc_binInt rfl rfl rfl) ?_; refine RunL.nil ?_; refine AW.condT (by exact rfl) ?_; refine AW.seq ?_; refine AW.region (by kernel_rfl) ?_; refine RunL.val (by exact rfl) (loc_build (by exact rfl) (by exact Cut.all (by exact rfl)) (by exact rfl)) ?_; refine RunL.val (by exact rfl) (loc_moveC rfl) ?_; refine RunL.eff (by exact rfl) (loc_storeW rfl rfl rfl rfl (by exact rfl) (by exact rfl)) ?_; refine RunL.val (by exact rfl) (loc_assignC rfl) ?_; refine RunL.nil ?_; refine AW.ret ?_
    refine rq ?_
    exact ret_ct (by exact .inr rfl) (by exact rfl) (by exact rfl) (by exact rfl) (by exact rfl) [] trivial (l' := Out.zero.c) (by exact wkRow_refl _) (by exact .le (.refl _)) (by exact trivial) (by exact rfl) (by refine And.intro ?_ ?_; refine And.intro ?_ ?_; exact trivial; refine And.intro ?_ ?_; exact trivial; refine And.intro ?_ ?_; exact trivial; exact trivial; refine And.intro ?_ ?_; exact trivial; exact trivial) (by exact trivial) (by exact rfl)
  · rw [show checkU a = walkU (some (x, k)) by unfold checkU; rw [hg, hw]; rfl]
    refine RunL.val (by exact rfl) (loc_moveT rfl) ?_; refine RunL.val (by exact rfl) (loc_extractA rfl rfl) ?_; refine RunL.val (by exact rfl) (loc_extractA rfl rfl) ?_; refine RunL.val (by exact rfl) (loc_extractC rfl rfl) ?_; refine RunL.mem (by exact rfl) (loc_allocD rfl rfl) ?_; refine RunL.mem (by exact rfl) (loc_allocD rfl rfl) ?_; refine RunL.eff (by exact rfl) (loc_storeW rfl rfl rfl rfl (by exact rfl) (by exact rfl)) ?_; refine RunL.eff (by exact rfl) (loc_storeW rfl rfl rfl rfl (by exact rfl) (by exact rfl)) ?_; refine RunL.val (by exact rfl) (loc_assignC rfl) ?_; refine RunL.nil ?_; refine AW.seq ?_; refine AW.seq ?_; refine AW.region (by kernel_rfl) ?_; refine RunL.val (by exact rfl) (loc_moveC rfl) ?_; refine RunL.val (by exact rfl) (loc_binInt rfl rfl rfl) ?_; refine RunL.nil ?_; refine AW.condF (by exact rfl) ?_; refine AW.skip ?_; refine AW.seq ?_; refine AW.region (by kernel_rfl) ?_; refine RunL.val (by exact rfl) (loc_loadA rfl rfl (by exact Cut.all (by exact rfl))) ?_; refine RunL.val (by exact rfl) (loc_moveC rfl) ?_
    refine RunL.val (by exact rfl) (loc_fun (begin_a x (walk_low hok hg hw).1 F o e hb) rfl (by refine ⟨_, _, rfl, (by exact LeU.of_eq rfl trivial), (by (refine And.intro ?_ ?_; exact trivial; refine And.intro ?_ ?_; exact trivial; refine And.intro ?_ ?_; exact trivial; refine And.intro ?_ ?_; exact trivial; refine And.intro ?_ ?_; exact trivial; refine And.intro ?_ ?_; exact trivial; refine And.intro ?_ ?_; exact trivial; exact trivial; done)), ?_⟩; refine ⟨_, _, rfl, (by exact LeU.of_eq rfl trivial), (by exact trivial), ?_⟩; exact rfl)) ?_
    refine RunL.val (by exact rfl) (loc_extractA rfl rfl) ?_; refine RunL.val (by exact rfl) (loc_extractC rfl rfl) ?_; refine RunL.eff (by exact rfl) (loc_storeW rfl rfl rfl rfl (by exact rfl) (by exact rfl)) ?_; refine RunL.val (by exact rfl) (loc_assignC rfl) ?_; refine RunL.nil ?_; refine AW.ret ?_
    refine rq ?_
    exact ret_ct (by exact .inr rfl) (by exact rfl) (by exact rfl) (by exact rfl) (by exact rfl) [] trivial (l' := Out.c _) (by exact wkRow_refl _) (by exact .le (.refl _)) (by exact trivial) (by exact rfl) (by refine And.intro ?_ ?_; refine And.intro ?_ ?_; exact trivial; refine And.intro ?_ ?_; exact trivial; refine And.intro ?_ ?_; exact trivial; exact trivial; refine And.intro ?_ ?_; exact trivial; exact trivial) (by exact trivial) (by exact rfl)
/-- Something always comes. -/
theorem begin_ex (t : Tm) (ht : WfT t) (F : Int) : ∃ o e, BeginIs t F o e := by
  by_cases h : F < 0 ∨ 100 < F
  · exact ⟨_, _, .inl ⟨h, rfl, rfl⟩⟩
  · obtain ⟨f, rfl⟩ : ∃ f : Nat, F = f := ⟨F.toNat, by omega⟩
    obtain ⟨r, hr, _⟩ := tm_ex f t [] ht (fun v hv => by cases hv)
    exact ⟨_, _, .inr ⟨f, rfl, by omega, r, hr, rfl, rfl⟩⟩
theorem run_ex (a : Tm) (F : Int) : ∃ o e, RunIs a F o e := by
  cases hg : a.Good 0 with
  | false => exact ⟨_, _, .inl ⟨hg, rfl, rfl⟩⟩
  | true =>
    cases hw : walkT a [] 0 with
    | none => exact ⟨_, _, .inr (.inl ⟨hg, hw, rfl, rfl⟩)⟩
    | some q =>
      obtain ⟨x, k⟩ := q
      obtain ⟨o, e, h⟩ := begin_ex x (walk_ht a [] 0 x k (good_of_Good hg) (fun t h => by cases h) hw).1.wf F
      exact ⟨o, e, .inr (.inr ⟨x, k, hg, hw, h⟩)⟩
end Go.Proofs.YtnflnbdlgdjfmabDoor
namespace Go.Proofs.YtnflnbdlgdjfmabDoor
open Go.RowKit
set_option linter.unusedVariables false
set_option linter.unusedSimpArgs false
def outEq (o p : Out) : Bool := o.kind == p.kind && (o.n == p.n && o.back == p.back)
theorem outEq_iff {o p : Out} : outEq o p = true ↔ o = p := by
  obtain ⟨a, b, c⟩ := o
  obtain ⟨d, e, f⟩ := p
  simp [outEq]
theorem outEq_refl (o : Out) : outEq o o = true := outEq_iff.2 rfl
theorem eqOutcome (a b c d : Int) (e f : Bool) (w : World) : (Op.equalIn 10000 41 (.agg #[.int .i64 a, .int .i64 b, .bool e]) (.agg #[.int .i64 c, .int .i64 d, .bool f])).run Tryd.prog w = .ok (a == c && (b == d && e == f)) w := by
  have u3 := Tryd.underlying3
  have a3 := Tryd.isAgg3
  have z3 := Tryd.sizeOf3
  have u4 := Tryd.underlying4
  have a4 := Tryd.isAgg4
  have z4 := Tryd.sizeOf4
  have hS : Tryd.prog.underlying 41 = some (.struct (Tryd.prog.fieldsOf 41)) := by kernel_rfl
  rw [show (10000 : Nat) = 9999 + 1 from rfl, run_equalIn_agg w 9999 41 _ _ hS (by kernel_rfl)]
  simp only [Program.fieldsOf, Tryd.underlying41]
  go_simp
  by_cases h1 : a = c <;> by_cases h2 : b = d <;> cases e <;> cases f <;> simp [h1, h2]
section ops
variable {s : St} {dst : Option Tmp} {rt : TypeId} {pos : String} {after : Array Edge} {guard : Option (Nat × Bool)}
theorem loc_eqOut {t' : TypeId} {x y : Operand} {o p : Out} (hx' : opU s.t x = .agg o.c) (hy' : opU s.t y = .agg p.c) : LocOp Tryd.prog ⟨dst, .binOp .eql 41 x y t', rt, pos, after, guard⟩ s [] [] (.one (.bool (outEq o p))) :=
  loc_run fun F ρ h w ev H hx => by
    have h1 := (hx x (by simp [Op.operands])).1
    have h2 := (hx y (by simp [Op.operands])).1
    rw [hx'] at h1
    rw [hy'] at h2
    obtain ⟨vs, h1, k1⟩ := h1
    obtain ⟨us, h2, k2⟩ := h2
    match vs, k1 with
    | [v0, v1, v2], ⟨r0, r1, r2, _⟩ =>
    match us, k2 with
    | [u0, u1, u2], ⟨q0, q1, q2, _⟩ =>
    have r0 : v0 = .int .i64 o.kind := r0
    have r1 : v1 = .int .i64 o.n := r1
    have r2 : v2 = .bool o.back := r2
    have q0 : u0 = .int .i64 p.kind := q0
    have q1 : u1 = .int .i64 p.n := q1
    have q2 : u2 = .bool p.back := q2
    subst r0 r1 r2 q0 q1 q2
    refine ⟨.bool (outEq o p), ?_, rfl, trivial⟩
    have he := eqOutcome o.kind o.n p.kind p.n o.back p.back w
    have hg := run_eqGuard_agg (P := Tryd.prog) w .eql 41 x y #[.int .i64 o.kind, .int .i64 o.n, .bool o.back] #[.int .i64 p.kind, .int .i64 p.n, .bool p.back] (by kernel_rfl)
    simp only [execOp, h1, h2]
    simp [hg, run_eql_struct, he, outEq]
end ops
end Go.Proofs.YtnflnbdlgdjfmabDoor
namespace Go.Proofs.YtnflnbdlgdjfmabDoor
set_option linter.unusedVariables false
set_option linter.unusedSimpArgs false
/-- What comes of a term without types. -/
def BareIs (a : Tm) (F : Int) (o : Out) (e : Int) : Prop := (a.Good 0 = false ∧ o = .zero ∧ e = 1) ∨ (a.Good 0 = true ∧ BeginIs (eraseT a) F o e)
theorem bare_ex (a : Tm) (F : Int) : ∃ o e, BareIs a F o e := by
  cases hg : a.Good 0 with
  | false => exact ⟨_, _, .inl ⟨hg, rfl, rfl⟩⟩
  | true =>
    obtain ⟨o, e, h⟩ := begin_ex (eraseT a) (wf_erase (good_wf a 0 0 (good_of_Good hg))) F
    exact ⟨o, e, .inr ⟨hg, h⟩⟩
theorem erase_low {a : Tm} (hok : TmOk a) (hg : a.Good 0 = true) : Low (eraseT a) := by
  obtain ⟨h1, h2, h3⟩ := erase_nb a 0 0 (good_of_Good hg) hok.nb
  have hsz : a.nodes ≤ 40 := by unfold Tm.Good at hg; simp at hg; have := hg.1; omega
  exact ⟨h1, fun f r n hf he => stack0_le h2 (by omega) hf he⟩
/-- As long as nobody is blamed, types change nothing. -/
theorem bare_same {a x : Tm} {k : Ty} {f : Nat} {r : Res} (hok : TmOk a) (hg : a.Good 0 = true) (hw : walkT a [] 0 = some (x, k)) (hf : f ≤ 100) (hr : Ev (.tm x []) f r) (h4 : r.told.kind ≠ 4) : BareIs a f r.told 0 := by
  obtain ⟨r', hr', ht⟩ := erased (walk_low hok hg hw).2.1 hr h4
  rw [walk_erase a [] 0 x k 0 0 (good_of_Good hg) hw] at hr'
  exact .inr ⟨hg, .inr ⟨f, rfl, hf, r', hr', ht.symm, rfl⟩⟩
theorem bare_ok {a : Tm} {f : Nat} (hg : a.Good 0 = true) (hf : f ≤ 100) : ∃ o, BareIs a f o 0 := by
  obtain ⟨r, hr, _⟩ := tm_ex f (eraseT a) [] (wf_erase (good_wf a 0 0 (good_of_Good hg))) (fun v hv => by cases hv)
  exact ⟨r.told, .inr ⟨hg, .inr ⟨f, rfl, hf, r, hr, rfl, rfl⟩⟩⟩
/-- Where Any is nowhere told, nobody is blamed. -/
theorem sure_unblamed {a : Tm} {τ : Ty} {F : Nat} {r : Res} (hg : a.Good 0 = true) (ht : HT [] a τ) (h : Ev (.tm a []) F r) : r.told.kind ≠ 4 := by
  have hs := good_sites a 0 0 (good_of_Good hg)
  have hrt := ev_rt h τ ⟨[], ⟨Nat.le_refl _, fun i v ρ h => by simp at h⟩, ht⟩
  cases r with
  | ok v F => exact seen_ne4 v
  | out o =>
    rcases hrt with rfl | ⟨n, b, rfl⟩
    · decide
    · obtain ⟨s, hs', _⟩ := blamed_site (τ := τ) ht.wf h (m := n) (p := b) rfl
      rw [hs] at hs'; cases hs'
end Go.Proofs.YtnflnbdlgdjfmabDoor
