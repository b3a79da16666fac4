/-
  Steps of states and worlds: what stays when a world moves on; regions, drawn or not. Conditions: those typed in each theorem.
-/
import Derived.Test.YtnflnbdlgdjfmaaDoorVal
namespace Go.Proofs.YtnflnbdlgdjfmaaDoor
open Go.RowKit
set_option linter.unusedVariables false
set_option linter.unusedSimpArgs false

theorem cell_same {w w' : World} {g o : Nat} (h : w'.heap[g]? = w.heap[g]?) : w'.cell? ⟨g, o, none⟩ = w.cell? ⟨g, o, none⟩ := World.cell?_of_block (w := w) (a := ⟨g, o, none⟩) h

theorem relK_one {F : Nat → Prop} {w : World} {c : C} {v : Value} (h : relK F w c v) : v.oneCell' = true := by
  cases c <;> simp only [relK] at h <;> first | exact h | (subst h; rfl) | exact h.elim | (obtain ⟨_, _, rfl, _⟩ := h; rfl) | (obtain ⟨_, rfl, _⟩ := h; rfl)
theorem relC_one {F : Nat → Prop} {ρ : Nat → Lc} {w : World} {c : C} {v : Value} (h : relC F ρ w c v) : v.oneCell' = true := by
  cases c <;> first | exact h.1 | exact relK_one h

theorem relK_mono {F F' : Nat → Prop} {w w' : World} (hF : ∀ k, F k → F' k) (hw : ∀ k, F k → w'.heap[k]? = w.heap[k]?) : ∀ {c : C} {v : Value}, relK F w c v → relK F' w' c v := by
  intro c
  induction c with
  | sl n k f ih =>
    rintro v ⟨a, cap, hv, h0, hm, h⟩
    refine ⟨a, cap, hv, h0, hm, fun i hi => ?_⟩
    obtain ⟨g, o, ha, hg, hj⟩ := h i hi
    refine ⟨g, o, ha, hF g hg, fun j hj' => ?_⟩
    obtain ⟨u, hu, hr⟩ := hj j hj'
    exact ⟨u, (cell_same (hw g hg)).trans hu, ih i j hr⟩
  | slF n k f ih =>
    rintro v ⟨a, hv, hm, h⟩
    refine ⟨a, hv, hm, fun i hi => ?_⟩
    obtain ⟨g, o, ha, hg, hj⟩ := h i hi
    refine ⟨g, o, ha, hF g hg, fun j hj' => ?_⟩
    obtain ⟨u, hu, hr⟩ := hj j hj'
    exact ⟨u, (cell_same (hw g hg)).trans hu, ih i j hr⟩
  | fp k f ih =>
    rintro v ⟨g, o, hv, hg, h⟩
    refine ⟨g, o, hv, hF g hg, fun j hj => ?_⟩
    obtain ⟨u, hu, hr⟩ := h j hj
    exact ⟨u, (cell_same (hw g hg)).trans hu, ih j hr⟩
  | _ => exact fun h => h

/-- A version of a block. -/
def verOf : Blk → Nat | .obj _ => 0 | .row _ _ v _ => v
/-- A block has turned into a later one of itself. -/
def leB : Blk → Blk → Prop
  | .obj _, .obj _ => True
  | .row _ _ v _, .row _ _ v' _ => v ≤ v'
  | _, _ => False
theorem leB_refl (x : Blk) : leB x x := by cases x <;> simp [leB]
theorem HRel.ver {F : Nat → Prop} {ρ : Nat → Lc} {h : Nat → Option Blk} {w : World} (H : HRel F ρ h w) {b : Nat} {x : Blk} (hb : h b = some x) : (ρ b).v = verOf x := by
  have := H.blk b x hb
  cases x <;> exact this.1

theorem relC_move {F F' : Nat → Prop} {ρ ρ' : Nat → Lc} {h : Nat → Option Blk} {w w' : World} (H : HRel F ρ h w) (hF : ∀ k, F k → F' k) (hw : ∀ k, F k → w'.heap[k]? = w.heap[k]?)
    (hs : ∀ b, h b ≠ none → ρ' b = ρ b ∨ (ρ b).v < (ρ' b).v) {c : C} {v : Value} (hok : okC h c) (hr : relC F ρ w c v) : relC F' ρ' w' c v := by
  cases c with
  | ptr b o =>
    obtain ⟨cells, hb⟩ := hok
    have hv := H.ver hb
    refine ⟨hr.1, fun h0 => ?_⟩
    rcases hs b (by rw [hb]; simp) with he | hlt
    · rw [he] at h0 ⊢; exact hr.2 h0
    · omega
  | eptr b ver k i o =>
    obtain ⟨e, k', v', rows, hb, hle⟩ := hok
    have hv : (ρ b).v = v' := H.ver hb
    refine ⟨hr.1, fun h0 => ?_⟩
    rcases hs b (by rw [hb]; simp) with he | hlt
    · rw [he] at h0 ⊢; exact hr.2 h0
    · omega
  | own b ver n =>
    obtain ⟨e, k', v', rows, hb, hle⟩ := hok
    have hv : (ρ b).v = v' := H.ver hb
    refine ⟨hr.1, fun h0 => ?_⟩
    rcases hs b (by rw [hb]; simp) with he | hlt
    · rw [he] at h0 ⊢; exact hr.2 h0
    · omega
  | _ => exact relK_mono hF hw hr

theorem relU1_move {F F' : Nat → Prop} {ρ ρ' : Nat → Lc} {h : Nat → Option Blk} {w w' : World} (H : HRel F ρ h w) (hF : ∀ k, F k → F' k) (hw : ∀ k, F k → w'.heap[k]? = w.heap[k]?)
    (hs : ∀ b, h b ≠ none → ρ' b = ρ b ∨ (ρ b).v < (ρ' b).v) {c : U} {v : Value} (hok : okU1 h c) (hr : relU1 F ρ w c v) : relU1 F' ρ' w' c v := by
  cases c with
  | any => trivial
  | one c => exact relC_move H hF hw hs hok hr
  | agg l =>
    obtain ⟨vs, hv, ha⟩ := hr
    exact ⟨vs, hv, ha.mono fun c hc v => relC_move H hF hw hs (hok c hc)⟩
  | tup l => exact hr.elim
theorem relU_move {F F' : Nat → Prop} {ρ ρ' : Nat → Lc} {h : Nat → Option Blk} {w w' : World} (H : HRel F ρ h w) (hF : ∀ k, F k → F' k) (hw : ∀ k, F k → w'.heap[k]? = w.heap[k]?)
    (hs : ∀ b, h b ≠ none → ρ' b = ρ b ∨ (ρ b).v < (ρ' b).v) {c : U} {v : Value} (hok : okU h c) (hr : relU F ρ w c v) : relU F' ρ' w' c v := by
  cases c with
  | tup l =>
    obtain ⟨vs, hv, ha⟩ := hr
    exact ⟨vs, hv, ha.mono fun c hc v => relU1_move H hF hw hs (hok c hc)⟩
  | any => trivial
  | one c => exact relC_move H hF hw hs hok hr
  | agg l =>
    obtain ⟨vs, hv, ha⟩ := hr
    exact ⟨vs, hv, ha.mono fun c hc v => relC_move H hF hw hs (hok c hc)⟩

theorem okC_move {h h' : Nat → Option Blk} (hl : ∀ b x, h b = some x → ∃ x', h' b = some x' ∧ leB x x') {c : C} (hok : okC h c) : okC h' c := by
  cases c with
  | ptr b o =>
    obtain ⟨cells, hb⟩ := hok
    obtain ⟨x', hx, hle⟩ := hl b _ hb
    cases x' with
    | obj c' => exact ⟨c', hx⟩
    | row => exact hle.elim
  | eptr b ver k i o =>
    obtain ⟨e, k', v', rows, hb, hle⟩ := hok
    obtain ⟨x', hx, hle'⟩ := hl b _ hb
    cases x' with
    | obj c' => exact hle'.elim
    | row e2 k2 v2 r2 => exact ⟨e2, k2, v2, r2, hx, Nat.le_trans hle hle'⟩
  | own b ver n =>
    obtain ⟨e, k', v', rows, hb, hle⟩ := hok
    obtain ⟨x', hx, hle'⟩ := hl b _ hb
    cases x' with
    | obj c' => exact hle'.elim
    | row e2 k2 v2 r2 => exact ⟨e2, k2, v2, r2, hx, Nat.le_trans hle hle'⟩
  | _ => trivial
theorem okU1_move {h h' : Nat → Option Blk} (hl : ∀ b x, h b = some x → ∃ x', h' b = some x' ∧ leB x x') {c : U} (hok : okU1 h c) : okU1 h' c := by
  cases c with
  | one c => exact okC_move hl hok
  | agg l => exact fun c hc => okC_move hl (hok c hc)
  | _ => trivial
theorem okU_move {h h' : Nat → Option Blk} (hl : ∀ b x, h b = some x → ∃ x', h' b = some x' ∧ leB x x') {c : U} (hok : okU h c) : okU h' c := by
  cases c with
  | tup l => exact fun u hu => okU1_move hl (hok u hu)
  | one c => exact okC_move hl hok
  | agg l => exact fun c hc => okC_move hl (hok c hc)
  | any => trivial

/-- A world moves on, and what is named in it. -/
structure Moves (d : List Nat) (F : Nat → Prop) (ρ : Nat → Lc) (h : Nat → Option Blk) (w : World) (F' : Nat → Prop) (ρ' : Nat → Lc) (h' : Nat → Option Blk) (w' : World) : Prop where
  sub : ∀ k, F k → F' k
  same : ∀ k, F k → w'.heap[k]? = w.heap[k]?
  stb : ∀ b, h b ≠ none → ρ' b = ρ b ∨ (ρ b).v < (ρ' b).v
  stbd : ∀ b ∈ d, ρ' b = ρ b ∨ (ρ b).v < (ρ' b).v
  heap : HRel F' ρ' h' w'
  le : ∀ b x, h b = some x → ∃ x', h' b = some x' ∧ leB x x'
  own : ∀ b g, h' b ≠ none → (ρ' b).g = some g → (∃ b0, h b0 ≠ none ∧ (ρ b0).g = some g) ∨ w.heap.size ≤ g
  Fnew : ∀ k, F' k → F k ∨ w.heap.size ≤ k ∨ ∃ b, h b ≠ none ∧ (ρ b).g = some k
  os : w'.os = w.os
  tape : w'.tape = w.tape
  output : w'.output = w.output
  size : w.heap.size ≤ w'.heap.size
  kept : ∀ k, k < w.heap.size → (∀ b, h b ≠ none → (ρ b).g ≠ some k) → w'.heap[k]? = w.heap[k]?

theorem SimR.move {E : Env} {F F' : Nat → Prop} {ρ ρ' : Nat → Lc} {s : St} {a a' : Act} {w w' : World} {h' : Nat → Option Blk} (S : SimR E F ρ s a w) (M : Moves s.d F ρ s.h w F' ρ' h' w')
    {t' : Nat → U} (ht : ∀ x, (t' x = s.t x ∧ a'.tmps.getD x undef = a.tmps.getD x undef) ∨ (relU F' ρ' w' (t' x) (a'.tmps.getD x undef) ∧ okU h' (t' x))) (hsz : a'.tmps.size = a.tmps.size) (hd : a'.defers = a.defers) :
    SimR E F' ρ' ⟨t', h', s.d⟩ a' w' where
  rel x := by
    rcases ht x with ⟨h1, h2⟩ | h
    · show relU F' ρ' w' (t' x) _
      rw [h1, h2]; exact relU_move S.heap M.sub M.same M.stb (S.okt x) (S.rel x)
    · exact h.1
  heap := M.heap
  okt x := by
    rcases ht x with ⟨h1, h2⟩ | h
    · show okU h' (t' x)
      rw [h1]; exact okU_move M.le (S.okt x)
    · exact h.2
  own b g hb hg := by
    rcases M.own b g hb hg with ⟨b0, h1, h2⟩ | h
    · exact S.own b0 g h1 h2
    · exact .inl (Nat.le_trans S.size h)
  F0 k hk := M.sub k (S.F0 k hk)
  Fnew k hk := by
    rcases M.Fnew k hk with h | h | ⟨b, hb, hg⟩
    · exact S.Fnew k h
    · exact .inr (.inl (Nat.le_trans S.size h))
    · exact .inr (S.own b k hb hg)
  os := M.os.trans S.os
  tape := M.tape.trans S.tape
  output := M.output.trans S.output
  size := Nat.le_trans S.size M.size
  kept k hk hp := by
    rw [M.kept k (Nat.lt_of_lt_of_le hk S.size) fun b hb hg => ?_]
    · exact S.kept k hk hp
    · rcases S.own b k hb hg with h | h
      · omega
      · exact hp h
  stab b hb := by
    have hbd : b ∈ s.d := by rw [S.d]; exact hb
    rcases M.stbd b hbd with h1 | h1 <;> rcases S.stab b hb with h2 | h2
    · exact .inl (h1.trans h2)
    · exact .inr (by rw [h1]; exact h2)
    · exact .inr (by rw [← h2]; exact h1)
    · exact .inr (Nat.lt_trans h2 h1)
  d := S.d
  tmps := hsz.trans S.tmps
  defers := hd.trans S.defers

theorem put_size (a : Act) (d : Option Tmp) (v : Value) : (a.put d v).tmps.size = a.tmps.size := by cases d <;> simp [Act.put]
theorem put_defers (a : Act) (d : Option Tmp) (v : Value) : (a.put d v).defers = a.defers := by cases d <;> simp [Act.put]

/-- One slot is written. -/
theorem SimR.put {E : Env} {F F' : Nat → Prop} {ρ ρ' : Nat → Lc} {s : St} {a : Act} {w w' : World} {h' : Nat → Option Blk} (S : SimR E F ρ s a w) (M : Moves s.d F ρ s.h w F' ρ' h' w') {d : Option Tmp} (hd : ∀ x, d = some x → x < E.n)
    {v : U} {u : Value} (hr : relU F' ρ' w' v u) (hok : okU h' v) : SimR E F' ρ' ⟨updD s.t d v, h', s.d⟩ (a.put d u) w' := by
  refine S.move M (fun x => ?_) (put_size ..) (put_defers ..)
  cases d with
  | none => exact .inl ⟨rfl, rfl⟩
  | some y =>
    by_cases hxy : x = y
    · subst hxy
      refine .inr ?_
      have h1 : updD s.t (some x) v x = v := upd_same ..
      have h2 : (a.put (some x) u).tmps.getD x undef = u := by
        have := hd x rfl
        rw [← S.tmps] at this
        simp [Act.put, this]
      rw [h1, h2]
      exact ⟨hr, hok⟩
    · refine .inl ⟨upd_ne _ _ hxy, ?_⟩
      simp only [Act.put, Array.getD_eq_getD_getElem?, Array.getElem?_setIfInBounds_ne (Ne.symm hxy)]

/-- The patches of a step. -/
def applyP : List (Nat × Option Blk) → (Nat → Option Blk) → Nat → Option Blk
  | [], h => h
  | (b, x) :: p, h => applyP p (upd h b x)
def namesP (p : List (Nat × Option Blk)) : List Nat := p.map (·.1)

theorem applyP_not : ∀ (p : List (Nat × Option Blk)) (h : Nat → Option Blk) (b : Nat), b ∉ namesP p → applyP p h b = h b
  | [], _, _, _ => rfl
  | (c, x) :: p, h, b, hb => by
    simp only [namesP, List.map_cons, List.mem_cons, not_or] at hb
    rw [applyP, applyP_not p _ b hb.2, upd_ne _ _ hb.1]
theorem applyP_congr : ∀ (p : List (Nat × Option Blk)) (h h' : Nat → Option Blk) (b : Nat), (b ∉ namesP p → h b = h' b) → applyP p h b = applyP p h' b
  | [], h, h', b, he => he (by simp [namesP])
  | (c, x) :: p, h, h', b, he => by
    rw [applyP, applyP]
    refine applyP_congr p _ _ b fun hb => ?_
    by_cases hbc : b = c
    · subst hbc; rw [upd_same, upd_same]
    · rw [upd_ne _ _ hbc, upd_ne _ _ hbc]
      exact he (by simp only [namesP, List.map_cons, List.mem_cons, not_or]; exact ⟨hbc, hb⟩)
theorem applyP_comm (p q : List (Nat × Option Blk)) (h : Nat → Option Blk) (hd : ∀ b ∈ namesP p, b ∉ namesP q) : applyP p (applyP q h) = applyP q (applyP p h) := by
  funext b
  by_cases hp : b ∈ namesP p
  · rw [applyP_not q _ b (hd b hp)]
    exact applyP_congr p _ _ b fun hn => absurd hp hn
  · rw [applyP_not p _ b hp]
    refine applyP_congr q _ _ b fun hq => ?_
    rw [applyP_not p _ b hp]

def Oper.reads (o : Oper) : List Nat := o.op.operands.toList.filterMap fun | .tmp t => some t | _ => none

/-- What one operation does, seen from the slots that it reads and the blocks that it looks at (R) or turns (p). -/
def LocOp (P : Program) (o : Oper) (s : St) (R : List Nat) (p : List (Nat × Option Blk)) (v : U) : Prop :=
  ∀ (F : Nat → Prop) (ρ : Nat → Lc) (h : Nat → Option Blk) (w : World) (a : Act) (Q : Exit → Act → World → Prop), HRel F ρ h w → (∀ b, b ∈ R ∨ b ∈ namesP p → h b = s.h b) →
    (∀ x ∈ Oper.reads o, relU F ρ w (s.t x) (a.tmps.getD x undef) ∧ okU h (s.t x)) →
    o.wp P a w (fun a' w' => ∃ u F' ρ', a' = a.put o.dst u ∧ Moves s.d F ρ h w F' ρ' (applyP p h) w' ∧ relU F' ρ' w' v u ∧ okU (applyP p h) v) Q

theorem LocOp.congr {P : Program} {o : Oper} {s s' : St} {R : List Nat} {p : List (Nat × Option Blk)} {v : U} (H : LocOp P o s R p v) (ht : ∀ x ∈ Oper.reads o, s'.t x = s.t x) (hh : ∀ b, b ∈ R ∨ b ∈ namesP p → s'.h b = s.h b) (hd : s'.d = s.d) :
    LocOp P o s' R p v := by
  intro F ρ h w a Q hH hb hx
  rw [hd]
  exact H F ρ h w a Q hH (fun b hb' => (hb b hb').trans (hh b hb')) fun x hx' => by rw [← ht x hx']; exact hx x hx'

/-- Is the operation carried out? -/
def GuardU (ops : Array Oper) (o : Oper) (t : Nat → U) (b : Bool) : Prop :=
  match o.guard with
  | none => b = true
  | some (g, want) => (∃ s x, (ops[g]?).bind (·.dst) = some s ∧ t s = .one (.bool x) ∧ (x == want) = b) ∨ (b = false ∧ ∃ s, (ops[g]?).bind (·.dst) = some s ∧ t s = .tup [])
def guardSlot (ops : Array Oper) (o : Oper) : List Nat :=
  match o.guard with
  | none => []
  | some (g, _) => ((ops[g]?).bind (·.dst)).toList

/-- Operation i, as a step of states. -/
def StepAt (P : Program) (ops : Array Oper) (foot : List (List Nat × List Nat)) (i : Nat) (s s' : St) : Prop :=
  ∃ o, ops[i]? = some o ∧
    ((GuardU ops o s.t true ∧ ∃ p v, LocOp P o s (foot.getD i ([], [])).1 p v ∧ namesP p = (foot.getD i ([], [])).2 ∧ s' = ⟨updD s.t o.dst v, applyP p s.h, s.d⟩) ∨
     (GuardU ops o s.t false ∧ s' = ⟨updD s.t o.dst (.tup []), s.h, s.d⟩))

theorem wanted_sim {E : Env} {s : St} {a : Act} {w : World} {ops : Array Oper} {o : Oper} {b : Bool} (S : Sim E s a w) (hg : GuardU ops o s.t b) : Region.wanted o (yielded ops a.tmps) = b := by
  obtain ⟨F, ρ, S⟩ := S
  unfold GuardU at hg
  unfold Region.wanted
  cases ho : o.guard with
  | none => rw [ho] at hg; exact hg.symm
  | some gw =>
    obtain ⟨g, want⟩ := gw
    rw [ho] at hg
    rcases hg with ⟨sl, x, hs, hx, hb⟩ | ⟨rfl, sl, hs, hx⟩
    · have hv := S.rel sl
      rw [hx] at hv
      have hv' : a.tmps.getD sl undef = .bool x := hv
      have hy : yielded ops a.tmps g = some x := by
        unfold yielded
        rw [hs]
        simp only [Option.bind_some]
        rw [Array.getD_eq_getD_getElem?] at hv'
        cases h : a.tmps[sl]? with
        | none => rw [h] at hv'; cases hv'
        | some y =>
          rw [h] at hv'
          simp only [Option.getD_some] at hv'
          rw [hv']
      simp only [hy]
      rw [← hb]
      cases x <;> cases want <;> rfl
    · have hv := S.rel sl
      rw [hx] at hv
      obtain ⟨vs, hv', ha⟩ := hv
      have hvs : vs = [] := by
        cases vs with
        | nil => rfl
        | cons => exact ha.elim
      subst hvs
      have hy : yielded ops a.tmps g = none := by
        unfold yielded
        rw [hs]
        simp only [Option.bind_some]
        rw [Array.getD_eq_getD_getElem?] at hv'
        cases h : a.tmps[sl]? with
        | none => rfl
        | some y =>
          rw [h] at hv'
          simp only [Option.getD_some] at hv'
          rw [hv']
      simp only [hy]
      rfl

def dstOk (ops : Array Oper) (n : Nat) : Bool := ops.all fun o => match o.dst with | some d => decide (d < n) | none => true
theorem dstOk_spec {ops : Array Oper} {n i : Nat} {o : Oper} (h : dstOk ops n = true) (ho : ops[i]? = some o) : ∀ d, o.dst = some d → d < n := by
  intro d hd
  have h1 : o ∈ ops := Array.mem_of_getElem? ho
  have h2 := Array.all_eq_true'.1 h o h1
  rw [hd] at h2
  simpa using h2

theorem HRel.refl_moves {d : List Nat} {F : Nat → Prop} {ρ : Nat → Lc} {h : Nat → Option Blk} {w : World} (H : HRel F ρ h w) : Moves d F ρ h w F ρ h w :=
  ⟨fun _ h => h, fun _ _ => rfl, fun _ _ => .inl rfl, fun _ _ => .inl rfl, H, fun b x hb => ⟨x, hb, leB_refl x⟩, fun b g hb hg => .inl ⟨b, hb, hg⟩, fun _ h => .inl h, rfl, rfl, rfl, Nat.le_refl _, fun _ _ _ => rfl⟩

theorem sim_step {P : Program} {ops : Array Oper} {foot : List (List Nat × List Nat)} {E : Env} (hdst : dstOk ops E.n = true) {Q : Exit → Act → World → Prop} (i : Nat) (s s' : St) (a : Act) (w : World) (S : Sim E s a w) (hs : StepAt P ops foot i s s') :
    wpOp P ops Q i (Sim E s') a w := by
  obtain ⟨o, ho, hs⟩ := hs
  unfold wpOp
  simp only [ho]
  rcases hs with ⟨hg, p, v, hl, _, rfl⟩ | ⟨hg, rfl⟩
  · rw [if_pos (wanted_sim S hg)]
    obtain ⟨F, ρ, S⟩ := S
    refine .inl (Oper.wp_mono (fun a' w' hh => ?_) (hl F ρ s.h w a Q S.heap (fun _ _ => rfl) fun x _ => ⟨S.rel x, S.okt x⟩))
    obtain ⟨u, F', ρ', rfl, hm, hr, hok⟩ := hh
    exact ⟨F', ρ', S.put hm (dstOk_spec hdst ho) hr hok⟩
  · rw [if_neg (by rw [wanted_sim S hg]; simp)]
    obtain ⟨F, ρ, S⟩ := S
    exact ⟨F, ρ, S.put S.heap.refl_moves (dstOk_spec hdst ho) ⟨[], rfl, trivial⟩ (fun u hu => by cases hu)⟩

def disj (l m : List Nat) : Bool := l.all fun x => !m.contains x
theorem disj_spec {l m : List Nat} (h : disj l m = true) : ∀ x ∈ l, x ∉ m := by
  intro x hx
  have := List.all_eq_true.1 h x hx
  simpa using this

/-- Two operations may be swapped. -/
def apartB (ops : Array Oper) (foot : List (List Nat × List Nat)) (i j : Nat) : Bool :=
  match ops[i]?, ops[j]? with
  | some oi, some oj =>
    let fi := foot.getD i ([], [])
    let fj := foot.getD j ([], [])
    disj fi.2 (fj.1 ++ fj.2) && disj fj.2 (fi.1 ++ fi.2) && disj oi.dst.toList (Oper.reads oj ++ guardSlot ops oj ++ oj.dst.toList) && disj oj.dst.toList (Oper.reads oi ++ guardSlot ops oi ++ oi.dst.toList)
  | _, _ => true
def okSwap (ops : Array Oper) (foot : List (List Nat × List Nat)) : Bool :=
  let ms := masks ops.toList []
  (List.range ops.size).all fun j => (List.range j).all fun i => (ms.getD j 0).testBit i || apartB ops foot i j

theorem guardU_congr {ops : Array Oper} {o : Oper} {t t' : Nat → U} {b : Bool} (h : GuardU ops o t b) (ht : ∀ x ∈ guardSlot ops o, t' x = t x) : GuardU ops o t' b := by
  unfold GuardU at *
  unfold guardSlot at ht
  cases hg : o.guard with
  | none => rw [hg] at h; exact h
  | some gw =>
    obtain ⟨g, want⟩ := gw
    rw [hg] at h ht
    rcases h with ⟨s, x, hs, hx, hb⟩ | ⟨hb, s, hs, hx⟩
    · exact .inl ⟨s, x, hs, by rw [ht s (by simp [hs])]; exact hx, hb⟩
    · exact .inr ⟨hb, s, hs, by rw [ht s (by simp [hs])]; exact hx⟩

theorem updD_not {α : Type} {t : Nat → α} {d : Option Nat} {v : α} {x : Nat} (h : x ∉ d.toList) : updD t d v x = t x := by
  cases d with
  | none => rfl
  | some y => exact upd_ne _ _ (by simpa using h)
theorem updD_comm {α : Type} {t : Nat → α} {d e : Option Nat} {v u : α} (h : ∀ x ∈ d.toList, x ∉ e.toList) : updD (updD t d v) e u = updD (updD t e u) d v := by
  cases d with
  | none => rfl
  | some x =>
    cases e with
    | none => rfl
    | some y =>
      have hxy : x ≠ y := by simpa using h x (by simp)
      funext z
      show upd (upd t x v) y u z = upd (upd t y u) x v z
      by_cases h1 : z = y
      · subst h1; rw [upd_same, upd_ne _ _ (Ne.symm hxy), upd_same]
      · rw [upd_ne _ _ h1]
        by_cases h2 : z = x
        · subst h2; rw [upd_same, upd_same]
        · rw [upd_ne _ _ h2, upd_ne _ _ h2, upd_ne _ _ h1]

theorem step_swap {P : Program} {ops : Array Oper} {foot : List (List Nat × List Nat)} (hok : okSwap ops foot = true) (i j : Nat) (s s1 s2 : St) (hij : i < j) (hj : j < ops.size) (hno : ¬ behind ops j i = true)
    (h1 : StepAt P ops foot i s s1) (h2 : StepAt P ops foot j s1 s2) : ∃ s1', StepAt P ops foot j s s1' ∧ StepAt P ops foot i s1' s2 := by
  have hap : apartB ops foot i j = true := by
    have h3 := List.all_eq_true.1 (List.all_eq_true.1 hok j (List.mem_range.2 hj)) i (List.mem_range.2 hij)
    rcases Bool.or_eq_true_iff.1 h3 with h4 | h4
    · exact absurd h4 hno
    · exact h4
  obtain ⟨oi, hoi, h1⟩ := h1
  obtain ⟨oj, hoj, h2⟩ := h2
  unfold apartB at hap
  rw [hoi, hoj] at hap
  simp only [Bool.and_eq_true] at hap
  obtain ⟨⟨⟨a1, a2⟩, a3⟩, a4⟩ := hap
  have a1 := disj_spec a1
  have a2 := disj_spec a2
  have a3 := disj_spec a3
  have a4 := disj_spec a4
  -- slots that j reads are not written by i, and the other way round
  have r1 : ∀ (v : U) x, x ∈ Oper.reads oj ∨ x ∈ guardSlot ops oj → updD s.t oi.dst v x = s.t x := fun v x hx => updD_not fun hm => a3 x hm (by simp only [List.mem_append]; rcases hx with h | h <;> simp [h])
  have r2 : ∀ (v : U) x, x ∈ Oper.reads oi ∨ x ∈ guardSlot ops oi → updD s.t oj.dst v x = s.t x := fun v x hx => updD_not fun hm => a4 x hm (by simp only [List.mem_append]; rcases hx with h | h <;> simp [h])
  have hcomm : ∀ (v u : U), updD (updD s.t oi.dst v) oj.dst u = updD (updD s.t oj.dst u) oi.dst v := fun v u => updD_comm fun x hx hm => a3 x hx (by simp only [List.mem_append]; exact .inr hm)
  rcases h1 with ⟨g1, p1, v1, l1, n1, rfl⟩ | ⟨g1, rfl⟩ <;> rcases h2 with ⟨g2, p2, v2, l2, n2, rfl⟩ | ⟨g2, rfl⟩
  · have b1 : ∀ b, b ∈ (foot.getD j ([], [])).1 ∨ b ∈ namesP p2 → applyP p1 s.h b = s.h b := fun b hb => applyP_not _ _ _ fun hm => a1 b (n1 ▸ hm) (by
      rw [List.mem_append]
      rcases hb with h | h
      · exact .inl h
      · exact .inr (n2 ▸ h))
    have b2 : ∀ b, b ∈ (foot.getD i ([], [])).1 ∨ b ∈ namesP p1 → applyP p2 s.h b = s.h b := fun b hb => applyP_not _ _ _ fun hm => a2 b (n2 ▸ hm) (by
      rw [List.mem_append]
      rcases hb with h | h
      · exact .inl h
      · exact .inr (n1 ▸ h))
    refine ⟨⟨updD s.t oj.dst v2, applyP p2 s.h, s.d⟩, ⟨oj, hoj, .inl ⟨guardU_congr g2 fun x hx => (r1 v1 x (.inr hx)).symm, p2, v2, l2.congr (fun x hx => (r1 v1 x (.inl hx)).symm) (fun b hb => (b1 b hb).symm) rfl, n2, rfl⟩⟩,
      ⟨oi, hoi, .inl ⟨guardU_congr g1 fun x hx => r2 v2 x (.inr hx), p1, v1, l1.congr (fun x hx => r2 v2 x (.inl hx)) (fun b hb => b2 b hb) rfl, n1, ?_⟩⟩⟩
    simp only [hcomm]
    rw [applyP_comm p2 p1 s.h fun b hb hb' => a2 b (n2 ▸ hb) (by rw [List.mem_append]; exact .inr (n1 ▸ hb'))]
  · refine ⟨⟨updD s.t oj.dst (.tup []), s.h, s.d⟩, ⟨oj, hoj, .inr ⟨guardU_congr g2 fun x hx => (r1 v1 x (.inr hx)).symm, rfl⟩⟩,
      ⟨oi, hoi, .inl ⟨guardU_congr g1 fun x hx => r2 (.tup []) x (.inr hx), p1, v1, l1.congr (fun x hx => r2 (.tup []) x (.inl hx)) (fun b hb => rfl) rfl, n1, ?_⟩⟩⟩
    simp only [hcomm]
  · refine ⟨⟨updD s.t oj.dst v2, applyP p2 s.h, s.d⟩, ⟨oj, hoj, .inl ⟨guardU_congr g2 fun x hx => (r1 (.tup []) x (.inr hx)).symm, p2, v2, l2.congr (fun x hx => (r1 (.tup []) x (.inl hx)).symm) (fun b hb => rfl) rfl, n2, rfl⟩⟩,
      ⟨oi, hoi, .inr ⟨guardU_congr g1 fun x hx => r2 v2 x (.inr hx), ?_⟩⟩⟩
    simp only [hcomm]
  · refine ⟨⟨updD s.t oj.dst (.tup []), s.h, s.d⟩, ⟨oj, hoj, .inr ⟨guardU_congr g2 fun x hx => (r1 (.tup []) x (.inr hx)).symm, rfl⟩⟩,
      ⟨oi, hoi, .inr ⟨guardU_congr g1 fun x hx => r2 (.tup []) x (.inr hx), ?_⟩⟩⟩
    simp only [hcomm]

theorem blkRel_heap {F : Nat → Prop} {ρ : Nat → Lc} {w w' : World} (he : w'.heap = w.heap) {b : Nat} {x : Blk} (h : blkRel F ρ w b x) : blkRel F ρ w' b x := by
  have hc : ∀ {c : C} {v : Value}, relC F ρ w c v → relC F ρ w' c v := fun {c v} hr => by
    cases c <;> first | exact hr | exact relK_mono (fun _ h => h) (fun k _ => by rw [he]) hr
  cases x with
  | obj cells =>
    obtain ⟨hv, g, e, cs, hg, hh, hj⟩ := h
    exact ⟨hv, g, e, cs, hg, by rw [he]; exact hh, fun j c hc' => let ⟨u, hu, hr⟩ := hj j c hc'; ⟨u, hu, hc hr⟩⟩
  | row e k ver rows =>
    obtain ⟨hv, hk, h⟩ := h
    refine ⟨hv, hk, h.imp id ?_⟩
    rintro ⟨g, cs, hg, hh, h1, h2, h3, hj⟩
    exact ⟨g, cs, hg, by rw [he]; exact hh, h1, h2, h3, fun i row hrow => ⟨(hj i row hrow).1, fun j c hc' => let ⟨u, hu, hr⟩ := (hj i row hrow).2 j c hc'; ⟨u, hu, hc hr⟩⟩⟩

theorem Sim.drew {E : Env} {s : St} {a : Act} {w : World} (S : Sim E s a w) : Sim E s a { w with drawn := w.drawn + 1 } := by
  obtain ⟨F, ρ, S⟩ := S
  refine ⟨F, ρ, S.move (h' := s.h) (w' := { w with drawn := w.drawn + 1 }) ⟨fun _ h => h, fun _ _ => rfl, fun _ _ => .inl rfl, fun _ _ => .inl rfl, ?_, fun b x hb => ⟨x, hb, leB_refl x⟩, fun b g hb hg => .inl ⟨b, hb, hg⟩, fun _ h => .inl h, rfl, rfl, rfl, Nat.le_refl _, fun _ _ _ => rfl⟩ (fun x => .inl ⟨rfl, rfl⟩) rfl rfl⟩
  exact ⟨fun b x hb => blkRel_heap (w := w) (w' := { w with drawn := w.drawn + 1 }) rfl (S.heap.blk b x hb), S.heap.inj, S.heap.notF, S.heap.lt, S.heap.ok, fun g c hg => relK_mono (w := w) (w' := { w with drawn := w.drawn + 1 }) (fun _ h => h) (fun _ _ => rfl) (S.heap.gl g c hg)⟩

/-- A region, drawn. -/
theorem region_draw {P : Program} {ops : Array Oper} {E : Env} {Q : Exit → Act → World → Prop} {id : Nat} {a : Act} {w : World} {s sn : St} (foot : List (List Nat × List Nat)) (hmix : P.follows .mixedOrders = true) (hdown : edgesDown ops = true) (hdst : dstOk ops E.n = true)
    (hok : okSwap ops foot = true) (S : Sim E s a w) (hc : Chain (StepAt P ops foot) (List.range ops.size) s sn) (hQ : ∀ a w, Sim E sn a w → Q .normal a w) : (Code.region id ops true).wp P Q a w :=
  wp_region_swap (stp := StepAt P ops foot) (sim := Sim E) (inv := fun _ => True) hmix hdown (fun _ _ _ _ _ => trivial) (fun i j s s1 s2 hij hj hno _ h1 h2 => step_swap hok i j s s1 s2 hij hj hno h1 h2)
    (fun i s s' a w _ _ S h => sim_step hdst i s s' a w S h) hQ trivial S.drew hc
theorem region_text {P : Program} {ops : Array Oper} {E : Env} {Q : Exit → Act → World → Prop} {id : Nat} {a : Act} {w : World} {s sn : St} (foot : List (List Nat × List Nat)) (hdst : dstOk ops E.n = true)
    (S : Sim E s a w) (hc : Chain (StepAt P ops foot) (List.range ops.size) s sn) (hQ : ∀ a w, Sim E sn a w → Q .normal a w) : (Code.region id ops false).wp P Q a w :=
  wp_region_text (stp := StepAt P ops foot) (sim := Sim E) (inv := fun _ => True) (fun _ _ _ _ _ => trivial) (fun i s s' a w _ _ S h => sim_step hdst i s s' a w S h) hQ trivial S hc
end Go.Proofs.YtnflnbdlgdjfmaaDoor
