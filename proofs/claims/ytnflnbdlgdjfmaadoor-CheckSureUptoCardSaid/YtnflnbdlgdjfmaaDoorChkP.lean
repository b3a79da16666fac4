/-
  What the checker's walk keeps: types are right, counting. Conditions: none.
-/
import Derived.Test.YtnflnbdlgdjfmaaDoorChkC
namespace Go.Proofs.YtnflnbdlgdjfmaaDoor
set_option linter.unusedVariables false
set_option linter.unusedSimpArgs false

/-- A type of the four kinds; a function's has two parts, no other has any. -/
inductive Right : Ty → Prop
  | base {k : Int} (h : k = 0 ∨ k = 1 ∨ k = 2) : Right (.mk k [])
  | fn {a b : Ty} (ha : Right a) (hb : Right b) : Right (.mk 3 [a, b])
theorem Right.two {a : Ty} (h : Right a) (hk : a.k = 3) : a.l.length = 2 := by
  cases h with
  | base h => simp at hk; omega
  | fn _ _ => rfl
theorem Right.len {a : Ty} (h : Right a) : a.l.length ≤ 2 := by cases h <;> simp
theorem Right.part {a : Ty} (h : Right a) : ∀ t ∈ a.l, Right t := by
  cases h with
  | base h => intro t ht; cases ht
  | fn ha hb =>
    intro t ht
    rcases List.mem_cons.1 ht with rfl | ht
    · exact ha
    · rcases List.mem_cons.1 ht with rfl | ht
      · exact hb
      · cases ht
theorem Right.thin {a : Ty} (h : Right a) : Thin a := by
  induction h with
  | base h => exact .mk _ _ (by simp) fun t ht => by cases ht
  | fn ha hb iha ihb =>
    exact .mk _ _ (by simp) fun t ht => by
      rcases List.mem_cons.1 ht with rfl | ht
      · exact iha
      · rcases List.mem_cons.1 ht with rfl | ht
        · exact ihb
        · cases ht
theorem Right.any : Right .any := .base (.inl rfl)
theorem Right.num : Right .num := .base (.inr (.inl rfl))
theorem Right.truth : Right .truth := .base (.inr (.inr rfl))
theorem Right.to {a b : Ty} (ha : Right a) (hb : Right b) : Right (.to a b) := .fn ha hb
theorem Right.ground {a : Ty} (h : Right a) : Right a.ground := by
  cases h with
  | base h => rcases h with rfl | rfl | rfl <;> exact .base (by simp)
  | fn _ _ => exact .to .any .any
theorem good_right : ∀ {d : Nat} {a : Ty}, a.good d = true → Right a
  | 0, a, h => by simp [Ty.good] at h
  | d + 1, .mk k l, h => by
    simp only [Ty.good, Bool.and_eq_true, decide_eq_true_eq] at h
    obtain ⟨⟨h1, h2⟩, h⟩ := h
    split at h
    · rename_i hk
      have : l = [] := by simpa using h
      subst this
      have hk : k ≠ 3 := by simpa using hk
      exact .base (by omega)
    · rename_i hk
      have hk : k = 3 := by simpa using hk
      subst hk
      split at h
      · simp only [Bool.and_eq_true] at h
        exact .to (good_right h.1) (good_right h.2)
      · cases h
theorem right_join {a b : Ty} (ha : Right a) (hb : Right b) : Right (a.join b) := by
  induction ha generalizing b with
  | base h =>
    cases hb with
    | base h' =>
      simp only [Ty.join]
      split
      · simp only [joinL]; exact .base h
      · exact .any
    | fn _ _ => simp [Ty.join]; exact .any
  | fn h1 h2 ih1 ih2 =>
    cases hb with
    | base h' => simp [Ty.join]; exact .any
    | fn h1' h2' => simp only [Ty.join, joinL]; exact .fn (ih1 h1') (ih2 h2')
theorem same_eq : ∀ {a b : Ty}, a.same b = true → a = b := fun {a} => Ty.ind (p := fun a => ∀ {b : Ty}, a.same b = true → a = b) (fun k l ih b h => by
  obtain ⟨k', l'⟩ := b
  simp only [Ty.same, Bool.and_eq_true, beq_iff_eq] at h
  obtain ⟨rfl, h⟩ := h
  congr 1
  induction l generalizing l' with
  | nil => cases l' with
    | nil => rfl
    | cons b m => simp [sameL] at h
  | cons a l ihl => cases l' with
    | nil => simp [sameL] at h
    | cons b m =>
      simp only [sameL, Bool.and_eq_true] at h
      rw [ih a (List.mem_cons_self ..) h.1, ihl (fun t ht => ih t (List.mem_cons_of_mem _ ht)) m h.2]) a

theorem walkL_drop {l : List Tm} {i : Nat} (h : i < l.length) (env : List Ty) (m : Int) :
    walkL (l.drop i) env m = match walkT l[i] env m with | none => none | some (x, k) => (walkL (l.drop (i + 1)) env (m + l[i].nodes)).map (⟨x, k, m⟩ :: ·) := by
  rw [List.drop_eq_getElem_cons h]; simp only [walkL]; rfl
theorem walkML_drop {l : List Tm} {i : Nat} (h : i < l.length) (env : List Ty) (m : Int) :
    walkML (l.drop i) env m = match walkT l[i] env m with | none => walkM l[i] env m | some _ => walkML (l.drop (i + 1)) env (m + l[i].nodes) := by
  rw [List.drop_eq_getElem_cons h]; simp only [walkML]; rfl
theorem walkT_eta (a : Tm) (env : List Ty) (m : Int) : walkT a env m =
    if a.k == 1 then some (a, env.getD (env.length - 1 - a.n.toNat) .any)
    else if a.k == 2 then some (a, .num)
    else if a.k == 3 then some (a, .truth)
    else match walkL a.l (if a.k == 7 then env ++ [a.t] else env) (m + 1) with
      | none => none
      | some ks => match wants a ks with
        | none => none
        | some (ws, out) => (casts ks ws).map fun l' => (.mk a.k a.n a.t a.f l', out) := by cases a; simp only [walkT, Tm.k, Tm.n, Tm.t, Tm.f, Tm.l]; rfl
theorem walkM_eta (a : Tm) (env : List Ty) (m : Int) : walkM a env m = if a.k == 1 || a.k == 2 || a.k == 3 then m + 1 else walkML a.l (if a.k == 7 then env ++ [a.t] else env) (m + 1) := by cases a; simp only [walkM, Tm.k, Tm.n, Tm.t, Tm.f, Tm.l]; rfl
theorem walkL_length : ∀ {l : List Tm} {env : List Ty} {m : Int} {ks : List Kid}, walkL l env m = some ks → ks.length = l.length
  | [], env, m, ks, h => by simp only [walkL] at h; cases h; rfl
  | a :: l, env, m, ks, h => by
    simp only [walkL] at h
    split at h
    · cases h
    · cases hl : walkL l env (m + a.nodes) with
      | none => rw [hl] at h; cases h
      | some q => rw [hl] at h; cases h; simp [walkL_length hl]
/-- All has been counted, if it is not refused. -/
theorem walkML_some : ∀ {l : List Tm} {env : List Ty} {m : Int} {ks : List Kid}, walkL l env m = some ks → walkML l env m = m + nodesL l
  | [], env, m, ks, h => by simp [walkML, nodesL]
  | a :: l, env, m, ks, h => by
    simp only [walkL] at h
    simp only [walkML]
    split at h
    · cases h
    · rename_i x k hx
      rw [hx]
      cases hl : walkL l env (m + a.nodes) with
      | none => rw [hl] at h; cases h
      | some q => simp only [walkML_some hl, nodesL]; omega
theorem fit_leaf {a : Tm} {ar ow : Int} (hf : a.fit ar ow = true) (hk : a.k = 1 ∨ a.k = 2 ∨ a.k = 3) : a.l = [] := by
  simp only [Tm.fit, Bool.and_eq_true, beq_iff_eq] at hf
  have := hf.1.1.1.2
  rcases hk with h | h | h <;> (rw [h] at this; simpa [arity] using this)
theorem walkM_some {a : Tm} {env : List Ty} {m : Int} {q : Tm × Ty} {ar ow : Int} (hf : a.fit ar ow = true) (h : walkT a env m = some q) : walkM a env m = m + a.nodes := by
  rw [walkT_eta] at h
  rw [walkM_eta, nodes_eta]
  by_cases h1 : a.k = 1
  · rw [fit_leaf hf (.inl h1)]; simp [h1, nodesL]
  by_cases h2 : a.k = 2
  · rw [fit_leaf hf (.inr (.inl h2))]; simp [h2, nodesL]
  by_cases h3 : a.k = 3
  · rw [fit_leaf hf (.inr (.inr h3))]; simp [h3, nodesL]
  rw [if_neg (by simpa using h1), if_neg (by simpa using h2), if_neg (by simpa using h3)] at h
  rw [if_neg (by simp [h1, h2, h3])]
  split at h
  · cases h
  · rename_i ks hk
    rw [walkML_some hk]; omega
theorem wants_right {t : Tm} {ks : List Kid} {ws : List Ty} {out : Ty} (ht : t.k = 7 ∨ t.k = 9 → Right t.t) (hk : ∀ x ∈ ks, Right x.k) (h : wants t ks = some (ws, out)) : Right out := by
  unfold wants at h
  split at h
  · cases h; exact .num
  split at h
  · cases h; exact .truth
  split at h
  · split at h
    · split at h
      · cases h; exact right_join (hk _ (by simp)) (hk _ (by simp))
      · cases h
    · cases h
  split at h
  · rename_i h7
    split at h
    · cases h; exact .to (ht (.inl (by simpa using h7))) (hk _ (by simp))
    · cases h
  split at h
  · split at h
    · rename_i f _
      dsimp only at h
      have hg : Right (if f.k.k == 0 then (Ty.mk 3 []).ground else f.k) := by
        split
        · exact .to .any .any
        · exact hk _ (by simp)
      generalize (if f.k.k == 0 then (Ty.mk 3 []).ground else f.k) = g at h hg
      split at h
      · split at h
        · rename_i a b hl
          cases h
          exact hg.part _ (by rw [hl]; simp)
        · cases h
      · cases h
    · cases h
  split at h
  · rename_i h9; cases h; exact ht (.inr (by simpa using h9))
  · cases h
theorem goodL_mem : ∀ {l : List Tm} {ar ow : Int}, goodL l ar ow = true → ∀ t ∈ l, t.good ar ow = true
  | [], _, _, _, _, h => by cases h
  | a :: l, ar, ow, h, t, ht => by
    simp only [goodL, Bool.and_eq_true] at h
    rcases List.mem_cons.1 ht with rfl | ht
    · exact h.1
    · exact goodL_mem h.2 t ht
theorem fit_right {t : Tm} {ar ow : Int} (h : t.fit ar ow = true) : t.k = 7 ∨ t.k = 9 → Right t.t := fun hk => by
  simp only [Tm.fit, Bool.and_eq_true] at h
  have h := h.1.2
  rw [if_pos (by simpa using hk)] at h
  exact good_right h
theorem walkL_right : ∀ {l : List Tm} {env : List Ty} {m : Int} {ks : List Kid}, (∀ t ∈ l, ∀ m x k, walkT t env m = some (x, k) → Right k) → walkL l env m = some ks → ∀ x ∈ ks, Right x.k
  | [], env, m, ks, ih, h => by simp only [walkL] at h; cases h; intro x hx; cases hx
  | a :: l, env, m, ks, ih, h => by
    simp only [walkL] at h
    split at h
    · cases h
    · rename_i x k hx
      cases hl : walkL l env (m + a.nodes) with
      | none => rw [hl] at h; cases h
      | some q =>
        rw [hl] at h; cases h
        intro y hy
        rcases List.mem_cons.1 hy with rfl | hy
        · exact ih a (List.mem_cons_self ..) _ _ _ hx
        · exact walkL_right (fun t ht => ih t (List.mem_cons_of_mem _ ht)) hl y hy
theorem env_right {a : Tm} {env : List Ty} (hf : a.k = 7 ∨ a.k = 9 → Right a.t) (he : ∀ t ∈ env, Right t) : ∀ t ∈ (if a.k == 7 then env ++ [a.t] else env), Right t := by
  split
  · rename_i h7
    intro t ht
    rcases List.mem_append.1 ht with ht | ht
    · exact he t ht
    · rw [List.mem_singleton.1 ht]; exact hf (.inl (by simpa using h7))
  · exact he
theorem env_len (a : Tm) (env : List Ty) : (((if a.k == 7 then env ++ [a.t] else env).length : Nat) : Int) = if a.k == 7 then (env.length : Int) + 1 else env.length := by
  split <;> simp
/-- What a term's type is, is right. -/
theorem walk_right : ∀ (a : Tm) (env : List Ty) (m : Int) (x : Tm) (k : Ty), a.good 0 env.length = true → (∀ t ∈ env, Right t) → walkT a env m = some (x, k) → Right k := fun a => by
  induction a using Tm.ind' with
  | h a ih =>
  intro env m x k hg he h
  rw [goodT_eta, Bool.and_eq_true] at hg
  rw [walkT_eta] at h
  split at h
  · cases h
    rw [List.getD_eq_getElem?_getD]
    cases hx : env[env.length - 1 - a.n.toNat]? with
    | none => exact .any
    | some t => exact he _ (List.mem_of_getElem? hx)
  split at h
  · cases h; exact .num
  split at h
  · cases h; exact .truth
  split at h
  · cases h
  · rename_i ks hk
    have hr := walkL_right (fun t ht m x k hw => ih t ht _ m x k (by rw [env_len]; exact goodL_mem hg.2 t ht) (env_right (fit_right hg.1) he) hw) hk
    split at h
    · cases h
    · rename_i ws out hw
      cases hc : casts ks ws with
      | none => rw [hc] at h; cases h
      | some l' => rw [hc] at h; cases h; exact wants_right (fit_right hg.1) hr hw
theorem casts1 {x : Kid} {w : Ty} {ws : List Ty} {l' : List Tm} (h : casts [x] (w :: ws) = some l') : ∃ y, l' = [y] ∧ x.to w = some y := by
  simp only [casts] at h
  split at h
  · cases h
  · rename_i y hy; simp only [Option.map_some] at h; cases h; exact ⟨y, rfl, hy⟩
theorem casts_cons {x : Kid} {xs : List Kid} {w : Ty} {ws : List Ty} {l' : List Tm} (h : casts (x :: xs) (w :: ws) = some l') : ∃ y l, l' = y :: l ∧ x.to w = some y ∧ casts xs ws = some l := by
  simp only [casts] at h
  split at h
  · cases h
  · rename_i y hy
    cases hc : casts xs ws with
    | none => rw [hc] at h; cases h
    | some l => rw [hc] at h; cases h; exact ⟨y, l, rfl, hy, rfl⟩
theorem walkL_cons {a : Tm} {l : List Tm} {env : List Ty} {m : Int} {ks : List Kid} (h : walkL (a :: l) env m = some ks) : ∃ x k ks', ks = ⟨x, k, m⟩ :: ks' ∧ walkT a env m = some (x, k) ∧ walkL l env (m + a.nodes) = some ks' := by
  simp only [walkL] at h
  split at h
  · cases h
  · rename_i x k hx
    cases hl : walkL l env (m + a.nodes) with
    | none => rw [hl] at h; cases h
    | some q => rw [hl] at h; cases h; exact ⟨x, k, q, rfl, hx, rfl⟩
theorem walkL_nil {env : List Ty} {m : Int} {ks : List Kid} (h : walkL [] env m = some ks) : ks = [] := by simp only [walkL] at h; cases h; rfl
theorem len1 {α : Type} {l : List α} (h : l.length = 1) : ∃ x, l = [x] := by
  match l, h with
  | [x], _ => exact ⟨x, rfl⟩
theorem len2 {α : Type} {l : List α} (h : l.length = 2) : ∃ x y, l = [x, y] := by
  match l, h with
  | [x, y], _ => exact ⟨x, y, rfl⟩
theorem len3 {α : Type} {l : List α} (h : l.length = 3) : ∃ x y z, l = [x, y, z] := by
  match l, h with
  | [x, y, z], _ => exact ⟨x, y, z, rfl⟩
/-- What is good, by its kind. -/
theorem good_cases {a : Tm} {ar ow : Int} (h : a.good ar ow = true) :
    (a.k = 1 ∧ a.l = [] ∧ 0 ≤ a.n ∧ a.n - ow < ar ∧ a.t = .any) ∨ (a.k = 2 ∧ a.l = [] ∧ inB a.n = true ∧ a.t = .any) ∨ (a.k = 3 ∧ a.l = [] ∧ (a.n = 0 ∨ a.n = 1) ∧ a.t = .any) ∨
    ((a.k = 4 ∨ a.k = 5 ∨ a.k = 8) ∧ a.n = 0 ∧ a.t = .any ∧ ∃ x y, a.l = [x, y] ∧ x.good ar ow = true ∧ y.good ar ow = true) ∨
    (a.k = 6 ∧ a.n = 0 ∧ a.t = .any ∧ ∃ x y z, a.l = [x, y, z] ∧ x.good ar ow = true ∧ y.good ar ow = true ∧ z.good ar ow = true) ∨
    (a.k = 7 ∧ a.n = 0 ∧ a.t.good 4 = true ∧ ∃ x, a.l = [x] ∧ x.good ar (ow + 1) = true) ∨ (a.k = 9 ∧ a.n = 0 ∧ a.t.good 4 = true ∧ ∃ x, a.l = [x] ∧ x.good ar ow = true) := by
  rw [goodT_eta, Bool.and_eq_true] at h
  obtain ⟨hf, hl⟩ := h
  simp only [Tm.fit, Bool.and_eq_true, Bool.not_eq_true', decide_eq_false_iff_not] at hf
  obtain ⟨⟨⟨⟨⟨h1, h9⟩, har⟩, hff⟩, ht⟩, hn⟩ := hf
  have hL : ∀ n : Nat, ((a.l.length : Int) == n) = true → a.l.length = n := fun n h => by rw [beq_iff_eq] at h; omega
  have any : ∀ {t : Ty}, t.same .any = true → t = .any := fun h => same_eq h
  have cases9 : a.k = 1 ∨ a.k = 2 ∨ a.k = 3 ∨ a.k = 4 ∨ a.k = 5 ∨ a.k = 6 ∨ a.k = 7 ∨ a.k = 8 ∨ a.k = 9 := by omega
  rcases cases9 with e | e | e | e | e | e | e | e | e <;> simp only [e, Tm.num] at har ht hn hl
  · exact .inl ⟨e, List.eq_nil_of_length_eq_zero (hL 0 har), by simpa using (And.left (by simpa using hn)), by simpa using (And.right (by simpa using hn)), any ht⟩
  · exact .inr (.inl ⟨e, List.eq_nil_of_length_eq_zero (hL 0 har), by rw [inB_iff]; simpa using hn, any ht⟩)
  · exact .inr (.inr (.inl ⟨e, List.eq_nil_of_length_eq_zero (hL 0 har), by simpa using hn, any ht⟩))
  · obtain ⟨x, y, e2⟩ := len2 (hL 2 har)
    rw [e2] at hl; simp [goodL] at hl
    exact .inr (.inr (.inr (.inl ⟨.inl e, by simpa using hn, any ht, x, y, e2, hl.1, hl.2⟩)))
  · obtain ⟨x, y, e2⟩ := len2 (hL 2 har)
    rw [e2] at hl; simp [goodL] at hl
    exact .inr (.inr (.inr (.inl ⟨.inr (.inl e), by simpa using hn, any ht, x, y, e2, hl.1, hl.2⟩)))
  · obtain ⟨x, y, z, e2⟩ := len3 (hL 3 har)
    rw [e2] at hl; simp [goodL] at hl
    exact .inr (.inr (.inr (.inr (.inl ⟨e, by simpa using hn, any ht, x, y, z, e2, hl.1, hl.2.1, hl.2.2⟩))))
  · obtain ⟨x, e2⟩ := len1 (hL 1 har)
    rw [e2] at hl; simp [goodL] at hl
    exact .inr (.inr (.inr (.inr (.inr (.inl ⟨e, by simpa using hn, ht, x, e2, hl⟩)))))
  · obtain ⟨x, y, e2⟩ := len2 (hL 2 har)
    rw [e2] at hl; simp [goodL] at hl
    exact .inr (.inr (.inr (.inl ⟨.inr (.inr e), by simpa using hn, any ht, x, y, e2, hl.1, hl.2⟩)))
  · obtain ⟨x, e2⟩ := len1 (hL 1 har)
    rw [e2] at hl; simp [goodL] at hl
    exact .inr (.inr (.inr (.inr (.inr (.inr ⟨e, by simpa using hn, ht, x, e2, hl⟩)))))

theorem walkT_node {a : Tm} {env : List Ty} {m : Int} {x : Tm} {k : Ty} (h1 : a.k ≠ 1) (h2 : a.k ≠ 2) (h3 : a.k ≠ 3) (h : walkT a env m = some (x, k)) :
    ∃ ks ws l', walkL a.l (if a.k == 7 then env ++ [a.t] else env) (m + 1) = some ks ∧ wants a ks = some (ws, k) ∧ casts ks ws = some l' ∧ x = .mk a.k a.n a.t a.f l' := by
  rw [walkT_eta, if_neg (by simpa using h1), if_neg (by simpa using h2), if_neg (by simpa using h3)] at h
  split at h
  · cases h
  rename_i ks hks
  split at h
  · cases h
  rename_i ws out hw
  cases hc : casts ks ws with
  | none => rw [hc] at h; cases h
  | some l' =>
    rw [hc] at h; simp only [Option.map_some, Option.some.injEq, Prod.mk.injEq] at h
    obtain ⟨rfl, rfl⟩ := h
    exact ⟨ks, ws, l', hks, hw, hc, rfl⟩

theorem same_refl : ∀ a : Ty, a.same a = true := Ty.ind fun k l ih => by
  simp only [Ty.same, beq_self_eq_true, Bool.true_and]
  induction l with
  | nil => rfl
  | cons a l ihl => simp only [sameL, ih a (List.mem_cons_self ..), ihl fun t ht => ih t (List.mem_cons_of_mem _ ht), Bool.and_self]
theorem same_iff {a b : Ty} : a.same b = true ↔ a = b := ⟨same_eq, fun h => by subst h; exact same_refl a⟩
end Go.Proofs.YtnflnbdlgdjfmaaDoor
