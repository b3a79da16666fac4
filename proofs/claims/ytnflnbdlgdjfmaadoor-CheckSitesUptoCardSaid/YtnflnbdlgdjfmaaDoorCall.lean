/-
  Calls; what is meant more weakly; code, walked as states; a function's contract out of its body. Conditions: those typed in each theorem.
-/
import Derived.Test.YtnflnbdlgdjfmaaDoorOp7
import Derived.LoopN
namespace Go.Proofs.YtnflnbdlgdjfmaaDoor
open Go.RowKit
set_option linter.unusedVariables false
set_option linter.unusedSimpArgs false

def ofL : List (Nat × Blk) → Nat → Option Blk
  | [] => fun _ => none
  | (b, x) :: l => upd (ofL l) b (some x)
def namesL (O : List (Nat × Blk)) : List Nat := O.map (·.1)
def patchL (O : List (Nat × Blk)) : List (Nat × Option Blk) := O.map fun p => (p.1, some p.2)

theorem ofL_some : ∀ {O : List (Nat × Blk)} {b : Nat}, b ∈ namesL O ↔ ofL O b ≠ none
  | [], b => by simp [namesL, ofL]
  | (c, x) :: O, b => by
    by_cases h : b = c
    · subst h; simp [namesL, ofL, upd_same]
    · simp only [ofL, upd_ne _ _ h, namesL, List.map_cons, List.mem_cons, h, false_or]
      exact ofL_some

/-- May be called: a Go function with a body. -/
def canCall (P : Program) (f : FuncId) : Bool :=
  match P.funcs[f]? with
  | some fn => !(fn.name == "runtime.NumGoroutine") && fn.body.isSome
  | none => false

/-- A FUNCTION'S CONTRACT: of these arguments, with these blocks handed in, it answers r and leaves the blocks so. -/
def ACalls (P : Program) (f : FuncId) (args : List U) (O : List (Nat × Blk)) (r : U) (O' : List (Nat × Blk)) : Prop :=
  canCall P f = true ∧ ∀ (F : Nat → Prop) (ρ : Nat → Lc) (w : World) (vals : List Value), HRel F ρ (ofL O) w → All2 (fun u v => relU F ρ w u v ∧ okU (ofL O) u) args vals →
    Calls P f vals.toArray w fun e w' => ∃ v F' ρ', e = .returned v ∧ Moves (namesL O) F ρ (ofL O) w F' ρ' (ofL O') w' ∧ relU F' ρ' w' r v ∧ okU (ofL O') r

/-! ### What is meant more weakly -/
/-- Whatever is the one is the other, too. -/
def LeC (c c' : C) : Prop := c = c' ∨ ((∀ (F : Nat → Prop) (w : World) (v : Value), relK F w c v → relK F w c' v) ∧ closedC c = true ∧ closedC c' = true)
theorem LeC.refl (c : C) : LeC c c := .inl rfl
theorem LeC.rel {F : Nat → Prop} {ρ : Nat → Lc} {w : World} {c c' : C} {v : Value} (h : LeC c c') (hr : relC F ρ w c v) : relC F ρ w c' v := by
  rcases h with rfl | ⟨h, h1, h2⟩
  · exact hr
  · exact relC_relK (h F w v (closed_relK h1 hr))
theorem LeC.relK' {F : Nat → Prop} {w : World} {c c' : C} {v : Value} (h : LeC c c') (hr : relK F w c v) : relK F w c' v := by
  rcases h with rfl | ⟨h, h1, h2⟩
  · exact hr
  · exact h F w v hr
theorem LeC.ok {h : Nat → Option Blk} {c c' : C} (hl : LeC c c') (ho : okC h c) : okC h c' := by
  rcases hl with rfl | ⟨_, _, h2⟩
  · exact ho
  · cases c' <;> first | trivial | cases h2
theorem closed_okC {h : Nat → Option Blk} {c : C} (hc : closedC c = true) : okC h c := by cases c <;> first | trivial | cases hc
theorem LeC.trans {a b c : C} (h : LeC a b) (k : LeC b c) : LeC a c := by
  rcases h with rfl | ⟨h, h1, h2⟩
  · exact k
  · rcases k with rfl | ⟨k, k1, k2⟩
    · exact .inr ⟨h, h1, h2⟩
    · exact .inr ⟨fun F w v hr => k F w v (h F w v hr), h1, k2⟩
/-- nil is an empty list. -/
theorem LeC.nil (k : Nat) : LeC .nilsl (slOf k []) := .inr ⟨fun F w v hr => ⟨none, 0, hr, Nat.zero_le _, Nat.zero_le _, fun i hi => absurd hi (Nat.not_lt_zero _)⟩, rfl, rfl⟩
theorem LeC.any {c : C} (h : closedC c = true) : LeC c .any := .inr ⟨fun F w v hr => relK_one hr, h, rfl⟩
def LeRows (rows rows' : List (List C)) : Prop := All2 (All2 LeC) rows rows'
theorem leRow_at {l l' : List C} (h : All2 LeC l l') {F : Nat → Prop} {w : World} {u : Value} (j : Nat) (hu : relK F w (rowF l j) u) : relK F w (rowF l' j) u := by
  cases hj : l[j]? with
  | some c =>
    obtain ⟨c', h1, h2⟩ := h.get j c hj
    have e1 : rowF l j = c := by simp [rowF, hj]
    have e2 : rowF l' j = c' := by simp [rowF, h1]
    rw [e1] at hu
    rw [e2]
    exact h2.relK' hu
  | none =>
    have h1 : l'[j]? = none := by
      rw [List.getElem?_eq_none_iff] at hj ⊢
      rw [← h.length]; exact hj
    have e1 : rowF l j = .any := by simp [rowF, hj]
    have e2 : rowF l' j = .any := by simp [rowF, h1]
    rw [e2]; rw [e1] at hu; exact hu
theorem leRows_at {rows rows' : List (List C)} (h : LeRows rows rows') {F : Nat → Prop} {w : World} {u : Value} (i j : Nat) (hu : relK F w (rowF (rows.getD i []) j) u) : relK F w (rowF (rows'.getD i []) j) u := by
  rw [List.getD_eq_getElem?_getD] at hu ⊢
  cases hi : rows[i]? with
  | some row =>
    obtain ⟨row', h1, h2⟩ := All2.get h i row hi
    rw [hi] at hu
    rw [h1]
    exact leRow_at h2 j hu
  | none =>
    have h1 : rows'[i]? = none := by
      rw [List.getElem?_eq_none_iff] at hi ⊢
      rw [← All2.length h]; exact hi
    rw [hi] at hu
    rw [h1]
    exact hu
theorem LeC.sl {k : Nat} {rows rows' : List (List C)} (h : LeRows rows rows') : LeC (slOf k rows) (slOf k rows') :=
  .inr ⟨fun F w v ⟨a, cap, h1, h2, h3, h4⟩ => ⟨a, cap, by rw [← All2.length h]; exact h1, by rw [← All2.length h]; exact h2, by rw [← All2.length h]; exact h3, fun i hi => by
    obtain ⟨g, o, ha, hF, hj⟩ := h4 i (by rw [All2.length h]; exact hi)
    refine ⟨g, o, ha, hF, fun j hjk => ?_⟩
    obtain ⟨u, hu, hr⟩ := hj j hjk
    exact ⟨u, hu, leRows_at h i j hr⟩⟩, rfl, rfl⟩
theorem LeC.slF {k : Nat} {rows rows' : List (List C)} (h : LeRows rows rows') : LeC (slFOf k rows) (slOf k rows') :=
  .inr ⟨fun F w v ⟨a, h1, h3, h4⟩ => ⟨a, rows.length, by rw [← All2.length h]; exact h1, by rw [← All2.length h]; exact Nat.le_refl _, by rw [← All2.length h]; exact h3, fun i hi => by
    obtain ⟨g, o, ha, hF, hj⟩ := h4 i (by rw [All2.length h]; exact hi)
    refine ⟨g, o, ha, hF, fun j hjk => ?_⟩
    obtain ⟨u, hu, hr⟩ := hj j hjk
    exact ⟨u, hu, leRows_at h i j hr⟩⟩, rfl, rfl⟩
theorem LeC.fp {cells cells' : List C} (h : All2 LeC cells cells') : LeC (fpo cells 0) (fpo cells' 0) :=
  .inr ⟨fun F w v ⟨g, o, h1, h2, h4⟩ => ⟨g, o, h1, h2, fun j hj => by
    obtain ⟨u, hu, hr⟩ := h4 j (by rw [h.length]; exact hj)
    exact ⟨u, hu, leRow_at h (0 + j) hr⟩⟩, rfl, rfl⟩
theorem leRow_refl : ∀ l : List C, All2 LeC l l
  | [] => trivial
  | c :: l => ⟨.refl c, leRow_refl l⟩
theorem LeRows.refl : ∀ rows : List (List C), LeRows rows rows
  | [] => trivial
  | r :: rows => ⟨leRow_refl r, LeRows.refl rows⟩

def LeU1 : U → U → Prop
  | .one c, .one c' => LeC c c'
  | .agg l, .agg l' => All2 LeC l l'
  | _, .any => True
  | _, _ => False
def LeU : U → U → Prop
  | .tup l, .tup l' => All2 LeU1 l l'
  | .tup _, .any => True
  | u, u' => LeU1 u u'
theorem LeU1.rel {F : Nat → Prop} {ρ : Nat → Lc} {w : World} {u u' : U} {v : Value} (h : LeU1 u u') (hr : relU1 F ρ w u v) : relU1 F ρ w u' v := by
  cases u <;> cases u' <;> simp only [LeU1] at h <;> first | trivial | exact h.elim | skip
  · exact h.rel hr
  · obtain ⟨vs, hv, ha⟩ := hr
    refine ⟨vs, hv, All2.of (h.length.symm.trans ha.length) fun i c' v hc hv => ?_⟩
    obtain ⟨c, h1, h2⟩ := h.get' i c' hc
    obtain ⟨v', h3, h4⟩ := ha.get i c h1
    rw [hv] at h3; cases h3
    exact h2.rel h4
theorem LeU1.ok {h : Nat → Option Blk} {u u' : U} (hl : LeU1 u u') (ho : okU1 h u) : okU1 h u' := by
  cases u <;> cases u' <;> simp only [LeU1] at hl <;> first | trivial | exact hl.elim | skip
  · exact hl.ok ho
  · intro c' hc
    obtain ⟨j, hj, hje⟩ := List.getElem_of_mem hc
    obtain ⟨c, h1, h2⟩ := hl.get' j c' (by rw [List.getElem?_eq_getElem hj, hje])
    exact h2.ok (ho c (List.mem_of_getElem? h1))
theorem LeU.rel {F : Nat → Prop} {ρ : Nat → Lc} {w : World} {u u' : U} {v : Value} (h : LeU u u') (hr : relU F ρ w u v) : relU F ρ w u' v := by
  cases u <;> cases u' <;> simp only [LeU, LeU1] at h <;> first | trivial | exact h.elim | skip
  · exact h.rel hr
  · exact LeU1.rel (u := .agg _) (u' := .agg _) h hr
  · obtain ⟨vs, hv, ha⟩ := hr
    refine ⟨vs, hv, All2.of (h.length.symm.trans ha.length) fun i c' v hc hv => ?_⟩
    obtain ⟨c, h1, h2⟩ := h.get' i c' hc
    obtain ⟨v', h3, h4⟩ := ha.get i c h1
    rw [hv] at h3; cases h3
    exact h2.rel h4
theorem LeU.ok {h : Nat → Option Blk} {u u' : U} (hl : LeU u u') (ho : okU h u) : okU h u' := by
  cases u <;> cases u' <;> simp only [LeU, LeU1] at hl <;> first | trivial | exact hl.elim | skip
  · exact hl.ok ho
  · exact LeU1.ok (u := .agg _) (u' := .agg _) hl ho
  · intro c' hc
    obtain ⟨j, hj, hje⟩ := List.getElem_of_mem hc
    obtain ⟨c, h1, h2⟩ := hl.get' j c' (by rw [List.getElem?_eq_getElem hj, hje])
    exact h2.ok (ho c (List.mem_of_getElem? h1))
theorem LeU1.refl (u : U) (h : ∀ l, u ≠ .tup l) : LeU1 u u := by
  cases u <;> simp only [LeU1]
  · exact .refl _
  · exact leRow_refl _
  · exact absurd rfl (h _)
theorem LeU.one {c c' : C} (h : LeC c c') : LeU (.one c) (.one c') := h
theorem LeU.agg {l l' : List C} (h : All2 LeC l l') : LeU (.agg l) (.agg l') := h

/-! ### The call -/
theorem relC_congr {F : Nat → Prop} {ρ ρ' : Nat → Lc} {h : Nat → Option Blk} {w : World} {c : C} {v : Value} (hr : relC F ρ w c v) (ho : okC h c) (he : ∀ c, h c ≠ none → ρ' c = ρ c) : relC F ρ' w c v := by
  cases c with
  | ptr b o =>
    obtain ⟨cells, hb⟩ := ho
    have e := he b (by rw [hb]; simp)
    exact ⟨hr.1, by rw [e]; exact hr.2⟩
  | eptr b ver k i o =>
    obtain ⟨_, _, _, _, hb, _⟩ := ho
    have e := he b (by rw [hb]; simp)
    exact ⟨hr.1, by rw [e]; exact hr.2⟩
  | own b ver n =>
    obtain ⟨_, _, _, _, hb, _⟩ := ho
    have e := he b (by rw [hb]; simp)
    exact ⟨hr.1, by rw [e]; exact hr.2⟩
  | _ => exact hr
theorem blkRel_congr {F : Nat → Prop} {ρ ρ' : Nat → Lc} {h : Nat → Option Blk} {w : World} {b : Nat} {x : Blk} (hB : blkRel F ρ w b x) (hO : okBlk h x) (hb : ρ' b = ρ b) (he : ∀ c, h c ≠ none → ρ' c = ρ c) : blkRel F ρ' w b x := by
  have hc : ∀ {c : C} {v : Value}, okC h c → relC F ρ w c v → relC F ρ' w c v := fun ho hr => relC_congr hr ho he
  cases x with
  | obj cells =>
    obtain ⟨hv, g, e, cs, h1, h2, hj⟩ := hB
    refine ⟨by rw [hb]; exact hv, g, e, cs, by rw [hb]; exact h1, h2, fun j c hcj => ?_⟩
    obtain ⟨u, hu, hr⟩ := hj j c hcj
    exact ⟨u, hu, hc (hO c (List.mem_of_getElem? hcj)) hr⟩
  | row e k v rows =>
    obtain ⟨hv, hk, hr⟩ := hB
    refine ⟨by rw [hb]; exact hv, hk, ?_⟩
    rw [hb]
    refine hr.imp id ?_
    rintro ⟨g, cs, h1, h2, h3, h4, h5, hj⟩
    refine ⟨g, cs, h1, h2, h3, h4, h5, fun i row hi => ⟨(hj i row hi).1, fun j c hcj => ?_⟩⟩
    obtain ⟨u, hu, hr⟩ := (hj i row hi).2 j c hcj
    exact ⟨u, hu, hc (hO row (List.mem_of_getElem? hi) c (List.mem_of_getElem? hcj)) hr⟩
theorem relU_congr {F : Nat → Prop} {ρ ρ' : Nat → Lc} {h : Nat → Option Blk} {w : World} {u : U} {v : Value} (hr : relU F ρ w u v) (ho : okU h u) (he : ∀ c, h c ≠ none → ρ' c = ρ c) : relU F ρ' w u v := by
  have hc : ∀ {c : C} {v : Value}, okC h c → relC F ρ w c v → relC F ρ' w c v := fun ho hr => relC_congr hr ho he
  have h1 : ∀ {u : U} {v : Value}, okU1 h u → relU1 F ρ w u v → relU1 F ρ' w u v := fun {u v} ho hr => by
    cases u with
    | any => trivial
    | one c => exact hc ho hr
    | agg l => obtain ⟨vs, hv, ha⟩ := hr; exact ⟨vs, hv, ha.mono fun c hcm v => hc (ho c hcm)⟩
    | tup l => exact hr.elim
  cases u with
  | tup l => obtain ⟨vs, hv, ha⟩ := hr; exact ⟨vs, hv, ha.mono fun u hu v => h1 (ho u hu)⟩
  | any => trivial
  | one c => exact hc ho hr
  | agg l => exact h1 (u := .agg l) ho hr

theorem applyP_patchL : ∀ (O : List (Nat × Blk)) (h : Nat → Option Blk) (b : Nat), (namesL O).Nodup → applyP (patchL O) h b = (if b ∈ namesL O then ofL O b else h b)
  | [], h, b, _ => by simp [patchL, applyP, namesL]
  | (c, x) :: O, h, b, hnd => by
    have hnd' : c ∉ namesL O ∧ (namesL O).Nodup := by simpa [namesL] using hnd
    show applyP (patchL O) (upd h c (some x)) b = _
    rw [applyP_patchL O _ b hnd'.2]
    by_cases hbc : b = c
    · subst hbc
      rw [if_neg hnd'.1, upd_same, if_pos (by simp [namesL])]
      simp [ofL, upd_same]
    · rw [upd_ne _ _ hbc]
      by_cases hb : b ∈ namesL O
      · rw [if_pos hb, if_pos (by simp only [namesL, List.map_cons, List.mem_cons]; exact .inr hb)]
        simp [ofL, upd_ne _ _ hbc]
      · rw [if_neg hb, if_neg (by simp only [namesL, List.map_cons, List.mem_cons, not_or]; exact ⟨hbc, hb⟩)]

/-- A callee moves its own part of the heap: the caller's heap moves. -/
theorem moves_frame {d : List Nat} {F F' : Nat → Prop} {ρ ρ' : Nat → Lc} {h : Nat → Option Blk} {w w' : World} {O O' : List (Nat × Blk)} (H : HRel F ρ h w) (hO : ∀ b ∈ namesL O, h b = ofL O b) (hn : namesL O' = namesL O) (hnd : (namesL O).Nodup)
    (M : Moves (namesL O) F ρ (ofL O) w F' ρ' (ofL O') w') : ∃ ρ'', Moves d F ρ h w F' ρ'' (applyP (patchL O') h) w' ∧ (∀ b, ofL O' b ≠ none → ρ'' b = ρ' b) := by
  let ρ'' : Nat → Lc := fun b => if b ∈ namesL O then ρ' b else ρ b
  have hr1 : ∀ b, b ∈ namesL O → ρ'' b = ρ' b := fun b hb => if_pos hb
  have hr2 : ∀ b, b ∉ namesL O → ρ'' b = ρ b := fun b hb => if_neg hb
  have hh : ∀ b, applyP (patchL O') h b = if b ∈ namesL O then ofL O' b else h b := fun b => by rw [applyP_patchL O' h b (by rw [hn]; exact hnd), hn]
  have hO'n : ∀ b, ofL O' b ≠ none → b ∈ namesL O := fun b hb => by rw [← hn]; exact ofL_some.2 hb
  have hs : ∀ b, ρ'' b = ρ b ∨ (ρ b).v < (ρ'' b).v := fun b => by
    by_cases hb : b ∈ namesL O
    · rw [hr1 b hb]; exact M.stbd b hb
    · rw [hr2 b hb]; exact .inl rfl
  have same := M.same
  have hne : ∀ b, b ∈ namesL O → h b ≠ none := fun b hb => by rw [hO b hb]; exact ofL_some.1 hb
  have le : ∀ b x, h b = some x → ∃ x', applyP (patchL O') h b = some x' ∧ leB x x' := fun b x hx => by
    by_cases hb : b ∈ namesL O
    · rw [hO b hb] at hx
      obtain ⟨x', h1, h2⟩ := M.le b x hx
      exact ⟨x', by rw [hh, if_pos hb]; exact h1, h2⟩
    · exact ⟨x, by rw [hh, if_neg hb]; exact hx, leB_refl x⟩
  have okO' : ∀ c, okC (ofL O') c → okC (applyP (patchL O') h) c := fun c hc => by
    have key : ∀ b x, ofL O' b = some x → applyP (patchL O') h b = some x := fun b x hx => by rw [hh, if_pos (hO'n b (by rw [hx]; simp))]; exact hx
    cases c with
    | ptr b o => obtain ⟨cells, hb⟩ := hc; exact ⟨cells, key b _ hb⟩
    | eptr b v k i o => obtain ⟨e, k, v', rows, hb, hle⟩ := hc; exact ⟨e, k, v', rows, key b _ hb, hle⟩
    | own b v n => obtain ⟨e, k, v', rows, hb, hle⟩ := hc; exact ⟨e, k, v', rows, key b _ hb, hle⟩
    | _ => trivial
  refine ⟨ρ'', ⟨M.sub, same, fun b _ => hs b, fun b _ => hs b, ⟨fun b x hx => ?_, fun b b' g hb hb' hg hg' => ?_, fun b g hb hg => ?_, M.heap.lt, fun b x hx => ?_, M.heap.gl⟩, le, fun b g hb hg => ?_, fun k hk => (M.Fnew k hk).imp id (.imp id fun ⟨b, hb, hg⟩ => ⟨b, hne b (ofL_some.2 hb), hg⟩), M.os, M.tape, M.output, M.size, fun k hk hno => M.kept k hk fun b hb => ?_⟩, fun b hb => hr1 b (hO'n b hb)⟩
  · rw [hh] at hx
    by_cases hb : b ∈ namesL O
    · rw [if_pos hb] at hx
      exact blkRel_congr (M.heap.blk b x hx) (M.heap.ok b x hx) (hr1 b hb) fun c hc => hr1 c (hO'n c hc)
    · rw [if_neg hb] at hx
      refine blkRel_move H M.sub same (fun c _ => hs c) hx (hr2 b hb) fun g hg => M.kept g (H.glt (by rw [hx]; simp) hg) fun c hc hgc => ?_
      have hcn : c ∈ namesL O := ofL_some.2 hc
      have := H.inj b c g (by rw [hx]; simp) (hne c hcn) hg hgc
      subst this
      exact hb hcn
  · rw [hh] at hb hb'
    have key : ∀ b b', b ∈ namesL O → b' ∉ namesL O → ofL O' b ≠ none → h b' ≠ none → (ρ' b).g = some g → (ρ b').g = some g → False := fun b b' hbn hbn' h1 h2 h3 h4 => by
      rcases M.own b g h1 h3 with ⟨b0, h5, h6⟩ | h5
      · have hb0 : b0 ∈ namesL O := ofL_some.2 h5
        have := H.inj b0 b' g (hne b0 hb0) h2 h6 h4
        subst this
        exact hbn' hb0
      · have := H.glt h2 h4
        omega
    by_cases h1 : b ∈ namesL O <;> by_cases h2 : b' ∈ namesL O
    · rw [if_pos h1] at hb; rw [if_pos h2] at hb'; rw [hr1 b h1] at hg; rw [hr1 b' h2] at hg'
      exact M.heap.inj b b' g hb hb' hg hg'
    · rw [if_pos h1] at hb; rw [if_neg h2] at hb'; rw [hr1 b h1] at hg; rw [hr2 b' h2] at hg'
      exact (key b b' h1 h2 hb hb' hg hg').elim
    · rw [if_neg h1] at hb; rw [if_pos h2] at hb'; rw [hr2 b h1] at hg; rw [hr1 b' h2] at hg'
      exact (key b' b h2 h1 hb' hb hg' hg).elim
    · rw [if_neg h1] at hb; rw [if_neg h2] at hb'; rw [hr2 b h1] at hg; rw [hr2 b' h2] at hg'
      exact H.inj b b' g hb hb' hg hg'
  · rw [hh] at hb
    by_cases h1 : b ∈ namesL O
    · rw [if_pos h1] at hb; rw [hr1 b h1] at hg
      exact M.heap.notF b g hb hg
    · rw [if_neg h1] at hb; rw [hr2 b h1] at hg
      intro hf
      rcases M.Fnew g hf with h2 | h2 | ⟨b0, h2, h3⟩
      · exact H.notF b g hb hg h2
      · have := H.glt hb hg; omega
      · have hb0 : b0 ∈ namesL O := ofL_some.2 h2
        have := H.inj b b0 g hb (hne b0 hb0) hg h3
        subst this
        exact h1 hb0
  · rw [hh] at hx
    by_cases hb : b ∈ namesL O
    · rw [if_pos hb] at hx
      have := M.heap.ok b x hx
      cases x with
      | obj cells => exact fun c hc => okO' c (this c hc)
      | row e k v rows => exact fun r hr c hc => okO' c (this r hr c hc)
    · rw [if_neg hb] at hx
      exact okBlk_move le (H.ok b x hx)
  · rw [hh] at hb
    by_cases h1 : b ∈ namesL O
    · rw [if_pos h1] at hb; rw [hr1 b h1] at hg
      rcases M.own b g hb hg with ⟨b0, h5, h6⟩ | h5
      · exact .inl ⟨b0, hne b0 (ofL_some.2 h5), h6⟩
      · exact .inr h5
    · rw [if_neg h1] at hb; rw [hr2 b h1] at hg
      exact .inl ⟨b, hb, hg⟩
  · exact hno b (by have := ofL_some.2 hb; exact hne b this)

/-- The blocks handed on name only each other. -/
def OkL (O : List (Nat × Blk)) : Prop := ∀ b x, ofL O b = some x → okBlk (ofL O) x

theorem hrel_part {F : Nat → Prop} {ρ : Nat → Lc} {h : Nat → Option Blk} {w : World} {O : List (Nat × Blk)} (H : HRel F ρ h w) (hO : ∀ b ∈ namesL O, h b = ofL O b) (hok : OkL O) : HRel F ρ (ofL O) w :=
  have key : ∀ b, ofL O b ≠ none → h b = ofL O b := fun b hb => hO b (ofL_some.2 hb)
  ⟨fun b x hx => H.blk b x (by rw [key b (by rw [hx]; simp)]; exact hx), fun b b' g hb hb' => H.inj b b' g (by rw [key b hb]; exact hb) (by rw [key b' hb']; exact hb'), fun b g hb => H.notF b g (by rw [key b hb]; exact hb), H.lt, hok, H.gl⟩

section
variable {P : Program} {s : St} {dst : Option Tmp} {rt : TypeId} {pos : String} {after : Array Edge} {guard : Option (Nat × Bool)}
theorem loc_call {f : FuncId} {fo : Operand} {args : Array Operand} {ats : Array TypeId} {us us' : List U} {O O' : List (Nat × Blk)} {r : U} (hf : opU s.t fo = .one (.fn f)) (hus : args.toList.map (opU s.t) = us) (hle : All2 LeU us us') (hc : ACalls P f us' O r O')
    (hO : ∀ b ∈ namesL O, s.h b = ofL O b) (hn : namesL O' = namesL O) (hnd : (namesL O).Nodup) (hok : OkL O) (hua : ∀ u ∈ us', okU (ofL O) u) :
    LocOp P ⟨dst, .call ⟨.value fo, args, ats⟩, rt, pos, after, guard⟩ s [] (patchL O') r := by
  intro F ρ h w a Q H hR hx
  have hnp : namesP (patchL O') = namesL O' := by simp [namesP, patchL, namesL]
  have hO : ∀ b ∈ namesL O, h b = ofL O b := fun b hb => (hR b (.inr (by rw [hnp, hn]; exact hb))).trans (hO b hb)
  have hx := opU_rel H hx
  have hfo := (hx fo (by simp [Op.operands, Call.operands])).1
  rw [hf] at hfo
  have hfo : a.eval fo = .func (.func f) #[] #[] := hfo
  obtain ⟨hcan, hc⟩ := hc
  have hex : (execOp a.eval (⟨dst, .call ⟨.value fo, args, ats⟩, rt, pos, after, guard⟩ : Oper)).run P w = .ok (.enter f (args.map a.eval)) w := by
    unfold canCall at hcan
    split at hcan
    · rename_i fn hfn
      simp only [Bool.and_eq_true, Bool.not_eq_true', beq_eq_false_iff_ne] at hcan
      have hb' : ¬ fn.body = none := fun h => by simp [h] at hcan
      generalize a.eval = ev at *
      simp [execOp, resolve, Deferred.ofValue, invoke, callFunc, hfo, hfn, hcan.1, hb']
    · cases hcan
  unfold Oper.wp
  rw [hex]
  simp only [Oper.upon]
  have hargs : All2 (fun u v => relU F ρ w u v ∧ okU (ofL O) u) us' (args.toList.map a.eval) := by
    have h1 : ∀ (xs : List Operand), (∀ x ∈ xs, relU F ρ w (opU s.t x) (a.eval x)) → ∀ us', All2 LeU (xs.map (opU s.t)) us' → (∀ u ∈ us', okU (ofL O) u) → All2 (fun u v => relU F ρ w u v ∧ okU (ofL O) u) us' (xs.map a.eval) := by
      intro xs
      induction xs with
      | nil => intro _ us' h1 h2; cases us' with | nil => trivial | cons => exact h1.elim
      | cons x xs ih =>
        intro hx us' h1 h2
        cases us' with
        | nil => exact h1.elim
        | cons u us' => exact ⟨⟨h1.1.rel (hx x (List.mem_cons_self ..)), h2 u (List.mem_cons_self ..)⟩, ih (fun y hy => hx y (List.mem_cons_of_mem _ hy)) us' h1.2 fun v hv => h2 v (List.mem_cons_of_mem _ hv)⟩
    exact h1 _ (fun x hxm => (hx x (by simp [Op.operands, Call.operands]; exact .inr (by simpa using hxm))).1) _ (by rw [hus]; exact hle) hua
  have hcalls := hc F ρ w (args.toList.map a.eval) (hrel_part H hO hok) hargs
  rw [show (args.toList.map a.eval).toArray = args.map a.eval by apply Array.ext'; simp] at hcalls
  refine hcalls.mono ?_
  rintro e w' ⟨v, F', ρ', rfl, M, hr, hro⟩
  obtain ⟨ρ'', M', he⟩ := moves_frame (d := s.d) H hO hn hnd M
  refine ⟨v, F', ρ'', rfl, M', relU_congr hr hro he, ?_⟩
  have hh : ∀ b x, ofL O' b = some x → ∃ x', applyP (patchL O') h b = some x' ∧ leB x x' := fun b x hx => ⟨x, by
    rw [applyP_patchL O' h b (by rw [hn]; exact hnd), if_pos (ofL_some.2 (by rw [hx]; simp))]; exact hx, leB_refl x⟩
  exact okU_move hh hro
/-- A call that is handed no block. -/
theorem loc_callQ {f : FuncId} {fo : Operand} {args : Array Operand} {ats : Array TypeId} {us us' : List U} {r : U} (hf : opU s.t fo = .one (.fn f)) (hus : args.toList.map (opU s.t) = us) (hle : All2 LeU us us') (hc : ACalls P f us' [] r []) (hua : ∀ u ∈ us', okU (ofL []) u) :
    LocOp P ⟨dst, .call ⟨.value fo, args, ats⟩, rt, pos, after, guard⟩ s [] [] r :=
  loc_call hf hus hle hc (fun b hb => by simp [namesL] at hb) rfl (by simp [namesL]) (fun b x hx => by simp [ofL] at hx) hua
end
end Go.Proofs.YtnflnbdlgdjfmaaDoor
