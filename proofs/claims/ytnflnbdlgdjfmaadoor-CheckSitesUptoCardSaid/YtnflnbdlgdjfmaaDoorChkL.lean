/-
  Who says less is not refused for it. Conditions: those typed in each theorem.
-/
import Derived.Test.YtnflnbdlgdjfmaaDoorRunL
import Derived.Test.YtnflnbdlgdjfmaaDoorChkE
namespace Go.Proofs.YtnflnbdlgdjfmaaDoor
set_option linter.unusedVariables false
set_option linter.unusedSimpArgs false

theorem fits_base {k k' : Int} : (Ty.mk k []).fits (.mk k' []) = true ↔ k = 0 ∨ k' = 0 ∨ k = k' := by
  simp [Ty.fits, fitsL]
  omega
theorem finer_base {k k' : Int} : (Ty.mk k []).finer (.mk k' []) = true ↔ k' = 0 ∨ k = k' := by
  simp [Ty.finer, finerL]
theorem fits_bf {k : Int} {a b : Ty} (h : k ≠ 3) : (Ty.mk k []).fits (.mk 3 [a, b]) = true ↔ k = 0 := by simp [Ty.fits, fitsL]
theorem fits_fb {k : Int} {a b : Ty} (h : k ≠ 3) : (Ty.mk 3 [a, b]).fits (.mk k []) = true ↔ k = 0 := by simp [Ty.fits, fitsL]
theorem finer_bf {k : Int} {a b : Ty} (h : k ≠ 3) : (Ty.mk k []).finer (.mk 3 [a, b]) = true ↔ False := by simp [Ty.finer, finerL]
theorem finer_fb {k : Int} {a b : Ty} (h : k ≠ 3) : (Ty.mk 3 [a, b]).finer (.mk k []) = true ↔ k = 0 := by simp [Ty.finer, finerL]
/-- What fits fits what says less. -/
theorem fits_mono {k w k' w' : Ty} (hk : Right k) (hw : Right w) (hk' : Right k') (hw' : Right w') (h : k.fits w = true) (h1 : k.finer k' = true) (h2 : w.finer w' = true) : k'.fits w' = true := by
  induction hk generalizing w k' w' with
  | base b =>
    cases hk' with
    | fn _ _ => exact absurd h1 (by rw [finer_bf (by omega)]; exact id)
    | base b' =>
      rw [finer_base] at h1
      cases hw' with
      | fn _ _ =>
        cases hw with
        | base b2 => exact absurd h2 (by rw [finer_bf (by omega)]; exact id)
        | fn _ _ => rw [fits_bf (by omega)] at h ⊢; omega
      | base b3 =>
        cases hw with
        | base b2 => rw [fits_base] at h ⊢; rw [finer_base] at h2; omega
        | fn _ _ => rw [finer_fb (by omega)] at h2; rw [fits_base]; omega
  | fn ha hb iha ihb =>
    cases hk' with
    | base b' =>
      rw [finer_fb (by omega)] at h1
      subst h1
      exact any_fits _
    | fn c d =>
      cases hw' with
      | base b3 =>
        cases hw with
        | base b2 => rw [fits_fb (by omega)] at h; rw [finer_base] at h2; rw [fits_fb (by omega)]; omega
        | fn _ _ => rw [finer_fb (by omega)] at h2; rw [fits_fb (by omega)]; exact h2
      | fn c' d' =>
        cases hw with
        | base b2 => exact absurd h2 (by rw [finer_bf (by omega)]; exact id)
        | fn a2 b2 =>
          rw [fits_to, Bool.and_eq_true] at h ⊢
          rw [finer_fn, Bool.and_eq_true] at h1 h2
          exact ⟨iha a2 c c' h.1 h1.1 h2.1, ihb b2 d d' h.2 h1.2 h2.2⟩
theorem join_fn {a b c d : Ty} : (Ty.mk 3 [a, b]).join (.mk 3 [c, d]) = .mk 3 [a.join c, b.join d] := by simp [Ty.join, joinL]
theorem join_base {k k' : Int} : (Ty.mk k []).join (.mk k' []) = if k = k' then .mk k [] else .any := by
  by_cases h : k = k' <;> simp [Ty.join, joinL, h, Ty.any]
theorem join_bf {k : Int} {a b : Ty} : (Ty.mk k []).join (.mk 3 [a, b]) = .any := by simp [Ty.join, Ty.any]
theorem join_fb {k : Int} {a b : Ty} : (Ty.mk 3 [a, b]).join (.mk k []) = .any := by simp [Ty.join, Ty.any]
/-- What both say says less, if each says less. -/
theorem join_mono {a b a' b' : Ty} (ha : Right a) (hb : Right b) (ha' : Right a') (hb' : Right b') (h1 : a.finer a' = true) (h2 : b.finer b' = true) : (a.join b).finer (a'.join b') = true := by
  induction ha generalizing b a' b' with
  | base p =>
    cases ha' with
    | fn _ _ => exact absurd h1 (by rw [finer_bf (by omega)]; exact id)
    | base p' =>
      rw [finer_base] at h1
      cases hb' with
      | fn _ _ => rw [join_bf]; exact finer_any _
      | base q' =>
        rw [join_base]
        split
        · rename_i e
          subst e
          cases hb with
          | base q =>
            rw [finer_base] at h2
            rw [join_base]
            split
            · rw [finer_base]; omega
            · rw [Ty.any, finer_base]; omega
          | fn _ _ =>
            rw [finer_fb (by omega)] at h2
            subst h2
            exact finer_any _
        · exact finer_any _
  | fn p1 p2 ih1 ih2 =>
    cases ha' with
    | base p' =>
      rw [finer_fb (by omega)] at h1
      subst h1
      cases hb' with
      | base q' =>
        rw [join_base]
        split
        · exact finer_any _
        · exact finer_any _
      | fn _ _ => rw [join_bf]; exact finer_any _
    | fn c d =>
      cases hb' with
      | base q' => rw [join_fb]; exact finer_any _
      | fn c' d' =>
        cases hb with
        | base q => exact absurd h2 (by rw [finer_bf (by omega)]; exact id)
        | fn e f =>
          rw [finer_fn, Bool.and_eq_true] at h1 h2
          rw [join_fn, join_fn, finer_fn, Bool.and_eq_true]
          exact ⟨ih1 e c c' h1.1 h2.1, ih2 f d d' h1.2 h2.2⟩

/-- A term, and one that says less. -/
inductive TPr : Tm → Tm → Prop
  | mk {k n : Int} {t t' f : Ty} {l l' : List Tm} (ht : t = t' ∨ (t' = .any ∧ (k = 7 ∨ k = 9))) (hl : l.length = l'.length) (h : ∀ (i : Nat) (a b : Tm), l[i]? = some a → l'[i]? = some b → TPr a b) : TPr (.mk k n t f l) (.mk k n t' f l')
theorem TPr.parts {k n k' n' : Int} {t t' f f' : Ty} {l l' : List Tm} (h : TPr (.mk k n t f l) (.mk k' n' t' f' l')) : k' = k ∧ n' = n ∧ f' = f ∧ (t = t' ∨ (t' = .any ∧ (k = 7 ∨ k = 9))) ∧ l.length = l'.length ∧ ∀ (i : Nat) (a b : Tm), l[i]? = some a → l'[i]? = some b → TPr a b := by
  cases h with
  | mk ht hl h => exact ⟨rfl, rfl, rfl, ht, hl, h⟩
theorem TPr.refl : ∀ t : Tm, TPr t t := fun t => by
  induction t using Tm.ind' with
  | h a ih =>
  obtain ⟨k, n, t, f, l⟩ := a
  exact .mk (.inl rfl) rfl fun i a b h1 h2 => by rw [h1] at h2; cases h2; exact ih a (List.mem_of_getElem? h1)
theorem loose_pr : ∀ (a : Tm) (j : Int), TPr a (looseT a j).1 := fun a => by
  induction a using Tm.ind' with
  | h a ih =>
  intro j
  obtain ⟨k, n, t, f, l⟩ := a
  have hL : ∀ (l : List Tm) (j n : Int), (∀ x ∈ l, ∀ j, TPr x (looseT x j).1) → ∀ (i : Nat) (a b : Tm), l[i]? = some a → (looseL l j n).1[i]? = some b → TPr a b := by
    intro l
    induction l with
    | nil => intro j n _ i a b h; simp at h
    | cons x l ihl =>
      intro j n h i a b h1 h2
      simp only [looseL] at h2
      cases i with
      | zero => simp at h1 h2; subst h1 h2; exact h x (List.mem_cons_self ..) _
      | succ i => exact ihl _ _ (fun y hy => h y (List.mem_cons_of_mem _ hy)) i a b (by simpa using h1) (by simpa using h2)
  simp only [looseT]
  refine .mk ?_ (looseL_length ..).symm (hL l _ _ fun x hx j => ih x hx j)
  split
  · rename_i h
    simp at h
    exact .inr ⟨rfl, h.1⟩
  · exact .inl rfl
theorem nodesL_pr : ∀ {l l' : List Tm}, l.length = l'.length → (∀ (i : Nat) (a b : Tm), l[i]? = some a → l'[i]? = some b → a.nodes = b.nodes) → nodesL l = nodesL l'
  | [], [], _, _ => rfl
  | a :: l, b :: l', hl, h => by
    simp only [nodesL]
    rw [h 0 a b rfl rfl, nodesL_pr (l := l) (l' := l') (by simpa using hl) fun i a b h1 h2 => h (i + 1) a b (by simpa using h1) (by simpa using h2)]
  | [], _ :: _, h, _ => by simp at h
  | _ :: _, [], h, _ => by simp at h
theorem TPr.nodes {a b : Tm} (h : TPr a b) : a.nodes = b.nodes := by
  induction h with
  | mk _ hl _ ih => simp only [Tm.nodes]; rw [nodesL_pr hl ih]
theorem goodL_pr : ∀ {l l' : List Tm} {ar ow : Int}, l.length = l'.length → (∀ (i : Nat) (a b : Tm), l[i]? = some a → l'[i]? = some b → a.good ar ow = true → b.good ar ow = true) → goodL l ar ow = true → goodL l' ar ow = true
  | [], [], _, _, _, _, _ => rfl
  | a :: l, b :: l', ar, ow, hl, h, hg => by
    simp only [goodL, Bool.and_eq_true] at hg ⊢
    exact ⟨h 0 a b rfl rfl hg.1, goodL_pr (by simpa using hl) (fun i a b h1 h2 => h (i + 1) a b (by simpa using h1) (by simpa using h2)) hg.2⟩
  | [], _ :: _, _, _, h, _, _ => by simp at h
  | _ :: _, [], _, _, h, _, _ => by simp at h
theorem TPr.good {a b : Tm} (h : TPr a b) : ∀ {ar ow : Int}, a.good ar ow = true → b.good ar ow = true := by
  induction h with
  | mk ht hl _ ih =>
    rename_i k n t t' f l l' _
    intro ar ow hg
    rw [goodT_eta, Bool.and_eq_true] at hg ⊢
    simp only [Tm.k_mk, Tm.l_mk] at hg ⊢
    refine ⟨?_, goodL_pr hl (fun i a b h1 h2 h3 => ih i a b h1 h2 h3) hg.2⟩
    have hf := hg.1
    rcases ht with rfl | ⟨rfl, hk⟩
    · simp only [Tm.fit, Tm.k_mk, Tm.l_mk, Tm.f_mk, Tm.t_mk, Tm.num, Tm.n_mk] at hf ⊢
      rw [← hl]; exact hf
    · have any4 : Ty.any.good 4 = true := rfl
      rcases hk with rfl | rfl
      · simp [Tm.fit, Tm.num, any4] at hf ⊢
        rw [← hl]
        simp_all
      · simp [Tm.fit, Tm.num, any4] at hf ⊢
        rw [← hl]
        simp_all

theorem kid_lt {Γ Γ' : List Ty} {p : Bool} {x y x2 : Tm} {k k' w w' : Ty} {n n' : Int} (h : LT p Γ Γ' x k y k') (hk : Right k) (hk' : Right k') (hw : Right w) (hw' : Right w') (hww : w.finer w' = true) (hx : (Kid.mk x k n).to w = some x2) :
    ∃ y2 q, (Kid.mk y k' n').to w' = some y2 ∧ LT q Γ Γ' x2 w y2 w' := by
  unfold Kid.to at hx ⊢
  simp only at hx ⊢
  split at hx
  · rename_i hs
    have hs' := fits_mono hk hw hk' hw' hs h.finer hww
    rw [if_pos hs']
    cases hx
    unfold asT
    by_cases h1 : k.same w = true <;> by_cases h2 : k'.same w' = true
    · rw [if_pos h1, if_pos h2]
      have := same_eq h1; subst this
      have := same_eq h2; subst this
      exact ⟨_, p, rfl, h⟩
    · rw [if_pos h1, if_neg h2]
      have := same_eq h1; subst this
      exact ⟨_, _, rfl, .castR hk hw' hk' hs' hww h⟩
    · rw [if_neg h1, if_pos h2]
      have := same_eq h2; subst this
      exact ⟨_, _, rfl, .castL hk' hw hk hs hww h⟩
    · rw [if_neg h1, if_neg h2]
      exact ⟨_, _, rfl, .castB hw hk hs hw' hk' hs' hww h⟩
  · cases hx
theorem casts_some {x : Kid} {xs : List Kid} {w : Ty} {ws : List Ty} {y : Tm} {l : List Tm} (h1 : x.to w = some y) (h2 : casts xs ws = some l) : casts (x :: xs) (w :: ws) = some (y :: l) := by
  simp only [casts, h1, h2]; rfl
theorem walkL_some {a : Tm} {l : List Tm} {env : List Ty} {m : Int} {x : Tm} {k : Ty} {ks : List Kid} (h1 : walkT a env m = some (x, k)) (h2 : walkL l env (m + a.nodes) = some ks) : walkL (a :: l) env m = some (⟨x, k, m⟩ :: ks) := by
  simp only [walkL, h1, h2]; rfl
theorem walkT_of {a : Tm} {env : List Ty} {m : Int} {k : Ty} {ks : List Kid} {ws : List Ty} {l' : List Tm} (h1 : a.k ≠ 1) (h2 : a.k ≠ 2) (h3 : a.k ≠ 3) (hks : walkL a.l (if a.k == 7 then env ++ [a.t] else env) (m + 1) = some ks) (hw : wants a ks = some (ws, k)) (hc : casts ks ws = some l') :
    walkT a env m = some (.mk a.k a.n a.t a.f l', k) := by
  rw [walkT_eta, if_neg (by simpa using h1), if_neg (by simpa using h2), if_neg (by simpa using h3), hks]
  simp only [hw, hc]; rfl
structure EnvP (env env' : List Ty) : Prop where
  hl : env.length = env'.length
  r : ∀ t ∈ env, Right t
  r' : ∀ t ∈ env', Right t
  h : ∀ (i : Nat) (a b : Ty), env[i]? = some a → env'[i]? = some b → a.finer b = true
theorem EnvP.snoc {env env' : List Ty} {t t' : Ty} (h : EnvP env env') (ht : Right t) (ht' : Right t') (hf : t.finer t' = true) : EnvP (env ++ [t]) (env' ++ [t']) where
  hl := by simp [h.hl]
  r := fun u hu => by
    rcases List.mem_append.1 hu with hu | hu
    · exact h.r u hu
    · rw [List.mem_singleton.1 hu]; exact ht
  r' := fun u hu => by
    rcases List.mem_append.1 hu with hu | hu
    · exact h.r' u hu
    · rw [List.mem_singleton.1 hu]; exact ht'
  h := fun i a b h1 h2 => by
    by_cases hi : i < env.length
    · rw [List.getElem?_append_left hi] at h1
      rw [List.getElem?_append_left (by rw [← h.hl]; exact hi)] at h2
      exact h.h i a b h1 h2
    · rw [List.getElem?_append_right (by omega)] at h1
      rw [List.getElem?_append_right (by rw [← h.hl]; omega), ← h.hl] at h2
      have : i - env.length = 0 := by
        have := (List.getElem?_eq_some_iff.1 h1).1
        simp at this; omega
      rw [this] at h1 h2
      simp at h1 h2
      subst h1 h2
      exact hf
/-- WHO SAYS LESS IS NOT REFUSED FOR IT; what it is says less, too. -/
theorem walk_lt : ∀ (a b : Tm) (env env' : List Ty) (m : Int) (x : Tm) (k : Ty), TPr a b → a.good 0 env.length = true → EnvP env env' → walkT a env m = some (x, k) →
    ∃ y k' p, walkT b env' m = some (y, k') ∧ LT p env.reverse env'.reverse x k y k' ∧ Right k ∧ Right k' := fun a => by
  induction a using Tm.ind' with
  | h a ih =>
  intro b env env' m x k hp hg he h
  have hnodes := hp.nodes
  obtain ⟨ak, an, t, f, al⟩ := a
  obtain ⟨bk, bn, t', f', bl⟩ := b
  obtain ⟨rfl, rfl, rfl, ht, hl, hparts⟩ := hp.parts
  rcases good_cases hg with ⟨e, el, hn, hn2, _⟩ | ⟨e, el, hn, _⟩ | ⟨e, el, hn, _⟩ | ⟨e, _, et, p, q, el, gp, gq⟩ | ⟨e, _, et, p, q, s, el, gp, gq, gs⟩ | ⟨e, _, ht4, p, el, gp⟩ | ⟨e, _, ht4, p, el, gp⟩ <;> simp only [Tm.k_mk, Tm.n_mk, Tm.t_mk, Tm.f_mk, Tm.l_mk] at e el
  · subst e el
    have : bl = [] := List.eq_nil_of_length_eq_zero hl.symm
    subst this
    rw [walkT_eta] at h; simp at h
    obtain ⟨rfl, rfl⟩ := h
    simp only [Tm.n_mk] at hn hn2
    have hlt : env.length - 1 - bn.toNat < env.length := by omega
    have hlt' : env.length - 1 - bn.toNat < env'.length := by rw [← he.hl]; exact hlt
    have hget : env[env.length - 1 - bn.toNat]? = some env[env.length - 1 - bn.toNat] := List.getElem?_eq_getElem hlt
    have hget' : env'[env.length - 1 - bn.toNat]? = some env'[env.length - 1 - bn.toNat] := List.getElem?_eq_getElem hlt'
    rw [hget]
    refine ⟨.mk 1 bn t' f' [], env'[env.length - 1 - bn.toNat], true, by rw [walkT_eta]; simp [← he.hl, hget'], .ref hn ?_ ?_ (he.h _ _ _ hget hget'), he.r _ (List.getElem_mem hlt), he.r' _ (List.getElem_mem hlt')⟩
    · rw [List.getElem?_reverse (by omega), hget]; rfl
    · rw [List.getElem?_reverse (by rw [← he.hl]; omega), ← he.hl, hget']
  · subst e el
    have : bl = [] := List.eq_nil_of_length_eq_zero hl.symm
    subst this
    rw [walkT_eta] at h; simp at h; obtain ⟨rfl, rfl⟩ := h
    exact ⟨.mk 2 bn t' f' [], .num, true, by rw [walkT_eta]; simp, .lit hn, .num, .num⟩
  · subst e el
    have : bl = [] := List.eq_nil_of_length_eq_zero hl.symm
    subst this
    rw [walkT_eta] at h; simp at h; obtain ⟨rfl, rfl⟩ := h
    exact ⟨.mk 3 bn t' f' [], .truth, true, by rw [walkT_eta]; simp, .says hn, .truth, .truth⟩
  · obtain ⟨ks, ws, l', hks, hw, hc, rfl⟩ := walkT_node (by simp; omega) (by simp; omega) (by simp; omega) h
    rw [if_neg (by simp; omega)] at hks
    subst el
    obtain ⟨p', q', rfl⟩ := len2 hl.symm
    have hp1 := hparts 0 p p' rfl rfl
    have hp2 := hparts 1 q q' rfl rfl
    simp only [Tm.k_mk, Tm.n_mk, Tm.t_mk, Tm.f_mk, Tm.l_mk] at *
    obtain ⟨x1, k1, ks1, rfl, w1, hks⟩ := walkL_cons hks
    obtain ⟨x2, k2, ks2, rfl, w2, hks⟩ := walkL_cons hks
    obtain rfl := walkL_nil hks
    obtain ⟨y1, k1', p1, w1', t1, r1, r1'⟩ := ih p (by simp) p' env env' _ x1 k1 hp1 gp he w1
    obtain ⟨y2, k2', p2, w2', t2, r2, r2'⟩ := ih q (by simp) q' env env' _ x2 k2 hp2 gq he w2
    have hks' : walkL [p', q'] env' (m + 1) = some [⟨y1, k1', m + 1⟩, ⟨y2, k2', m + 1 + p.nodes⟩] := by
      refine walkL_some w1' ?_
      rw [← hp1.nodes]
      exact walkL_some w2' (by simp [walkL])
    have fin : ∀ {ws' : List Ty} {k' : Ty} {l2 : List Tm}, wants (.mk bk bn t' f' [p', q']) [⟨y1, k1', m + 1⟩, ⟨y2, k2', m + 1 + p.nodes⟩] = some (ws', k') → casts [⟨y1, k1', m + 1⟩, ⟨y2, k2', m + 1 + p.nodes⟩] ws' = some l2 → walkT (.mk bk bn t' f' [p', q']) env' m = some (.mk bk bn t' f' l2, k') := fun h1 h2 =>
      walkT_of (by simp; omega) (by simp; omega) (by simp; omega) (by rw [if_neg (by simp; omega)]; exact hks') h1 h2
    rcases e with rfl | rfl | rfl
    · simp [wants] at hw
      obtain ⟨rfl, rfl⟩ := hw
      obtain ⟨z1, l1, rfl, c1, hc⟩ := casts_cons hc
      obtain ⟨z2, rfl, c2⟩ := casts1 hc
      obtain ⟨u1, q1, d1, s1⟩ := kid_lt t1 r1 r1' .num .num (finer_refl _) c1
      obtain ⟨u2, q2, d2, s2⟩ := kid_lt t2 r2 r2' .num .num (finer_refl _) c2
      exact ⟨_, _, true, fin (by simp [wants]; rfl) (casts_some d1 (casts_some d2 (by simp [casts]))), .add s1 s2, .num, .num⟩
    · simp [wants] at hw
      obtain ⟨rfl, rfl⟩ := hw
      obtain ⟨z1, l1, rfl, c1, hc⟩ := casts_cons hc
      obtain ⟨z2, rfl, c2⟩ := casts1 hc
      obtain ⟨u1, q1, d1, s1⟩ := kid_lt t1 r1 r1' .num .num (finer_refl _) c1
      obtain ⟨u2, q2, d2, s2⟩ := kid_lt t2 r2 r2' .num .num (finer_refl _) c2
      exact ⟨_, _, true, fin (by simp [wants]; rfl) (casts_some d1 (casts_some d2 (by simp [casts]))), .less s1 s2, .truth, .truth⟩
    · have hgr : ∀ {k : Ty}, Right k → Right (if k.k = 0 then (Ty.mk 3 []).ground else k) := fun h => by
        split
        · exact .to .any .any
        · exact h
      have hg1 := hgr r1
      have hg1' := hgr r1'
      have hg0' : (if k1'.k = 0 then (Ty.mk 3 []).ground else k1').k ≠ 0 := by
        split
        · simp [Ty.ground, Ty.to]
        · assumption
      have hgf : (if k1.k = 0 then (Ty.mk 3 []).ground else k1).k = 3 → (if k1.k = 0 then (Ty.mk 3 []).ground else k1).finer (if k1'.k = 0 then (Ty.mk 3 []).ground else k1') = true := fun h3 => by
        have hf := t1.finer
        by_cases a0 : k1.k = 0
        · have := any_finer r1 r1' a0 hf
          subst this
          rw [if_pos a0, if_pos (by rfl)]; exact finer_refl _
        · rw [if_neg a0] at h3 ⊢
          split
          · obtain ⟨_, _, rfl, _, _⟩ := right_fn r1 h3
            show (Ty.mk 3 [_, _]).finer (.mk 3 [.any, .any]) = true
            rw [finer_fn, finer_any, finer_any]; rfl
          · exact hf
      simp [wants] at hw
      have hw' : ∀ {a b : Ty}, (if k1'.k = 0 then (Ty.mk 3 []).ground else k1') = .mk 3 [a, b] → wants (.mk 8 bn t' f' [p', q']) [⟨y1, k1', m + 1⟩, ⟨y2, k2', m + 1 + p.nodes⟩] = some ([.mk 3 [a, b], a], b) := fun {a b} h => by
        simp [wants, h]
      generalize (if k1.k = 0 then (Ty.mk 3 []).ground else k1) = g at hw hg1 hgf
      generalize (if k1'.k = 0 then (Ty.mk 3 []).ground else k1') = g' at hg1' hg0' hgf hw'
      obtain ⟨h3, hw⟩ := hw
      obtain ⟨a, b, rfl, ra, rb⟩ := right_fn hg1 h3
      have hgf := hgf rfl
      cases hg1' with
      | base hb => exact absurd hgf (by
          rcases hb with rfl | rfl | rfl
          · exact absurd rfl hg0'
          · simp [Ty.finer]
          · simp [Ty.finer])
      | fn ra' rb' =>
        simp at hw
        obtain ⟨rfl, rfl⟩ := hw
        obtain ⟨z1, l1, rfl, c1, hc⟩ := casts_cons hc
        obtain ⟨z2, rfl, c2⟩ := casts1 hc
        have hgf2 := hgf
        rw [finer_fn, Bool.and_eq_true] at hgf2
        obtain ⟨u1, q1, d1, s1⟩ := kid_lt t1 r1 r1' (.fn ra rb) (.fn ra' rb') hgf c1
        obtain ⟨u2, q2, d2, s2⟩ := kid_lt t2 r2 r2' ra ra' hgf2.1 c2
        exact ⟨_, _, true, fin (hw' rfl) (casts_some d1 (casts_some d2 (by simp [casts]))), .call s1 s2, rb, rb'⟩
  · subst e
    obtain ⟨ks, ws, l', hks, hw, hc, rfl⟩ := walkT_node (by simp) (by simp) (by simp) h
    subst el
    simp at hks
    obtain ⟨p', q', s', rfl⟩ := len3 hl.symm
    have hp1 := hparts 0 p p' rfl rfl
    have hp2 := hparts 1 q q' rfl rfl
    have hp3 := hparts 2 s s' rfl rfl
    simp only [Tm.k_mk, Tm.n_mk, Tm.t_mk, Tm.f_mk, Tm.l_mk] at *
    obtain ⟨x1, k1, ks1, rfl, w1, hks⟩ := walkL_cons hks
    obtain ⟨x2, k2, ks2, rfl, w2, hks⟩ := walkL_cons hks
    obtain ⟨x3, k3, ks3, rfl, w3, hks⟩ := walkL_cons hks
    obtain rfl := walkL_nil hks
    obtain ⟨y1, k1', p1, w1', t1, r1, r1'⟩ := ih p (by simp) p' env env' _ x1 k1 hp1 gp he w1
    obtain ⟨y2, k2', p2, w2', t2, r2, r2'⟩ := ih q (by simp) q' env env' _ x2 k2 hp2 gq he w2
    obtain ⟨y3, k3', p3, w3', t3, r3, r3'⟩ := ih s (by simp) s' env env' _ x3 k3 hp3 gs he w3
    have hks' : walkL [p', q', s'] env' (m + 1) = some [⟨y1, k1', m + 1⟩, ⟨y2, k2', m + 1 + p.nodes⟩, ⟨y3, k3', m + 1 + p.nodes + q.nodes⟩] := by
      refine walkL_some w1' ?_
      rw [← hp1.nodes]
      refine walkL_some w2' ?_
      rw [← hp2.nodes]
      exact walkL_some w3' (by simp [walkL])
    simp [wants] at hw
    obtain ⟨hf, rfl, rfl⟩ := hw
    obtain ⟨z1, l1, rfl, c1, hc⟩ := casts_cons hc
    obtain ⟨z2, l2, rfl, c2, hc⟩ := casts_cons hc
    obtain ⟨z3, rfl, c3⟩ := casts1 hc
    have hf' := fits_mono r2 r3 r2' r3' hf t2.finer t3.finer
    have hj := join_mono r2 r3 r2' r3' t2.finer t3.finer
    have rj := right_join r2 r3
    have rj' := right_join r2' r3'
    obtain ⟨u1, q1, d1, s1⟩ := kid_lt t1 r1 r1' .truth .truth (finer_refl _) c1
    obtain ⟨u2, q2, d2, s2⟩ := kid_lt t2 r2 r2' rj rj' hj c2
    obtain ⟨u3, q3, d3, s3⟩ := kid_lt t3 r3 r3' rj rj' hj c3
    exact ⟨_, _, true, walkT_of (a := .mk 6 bn t' f' [p', q', s']) (by simp) (by simp) (by simp) (by simpa using hks') (by simp [wants, hf']; rfl) (casts_some d1 (casts_some d2 (casts_some d3 (by simp [casts])))), .ife s1 s2 s3, rj, rj'⟩
  · subst e
    obtain ⟨ks, ws, l', hks, hw, hc, rfl⟩ := walkT_node (by simp) (by simp) (by simp) h
    subst el
    simp at hks
    obtain ⟨p', rfl⟩ := len1 hl.symm
    have hp1 := hparts 0 p p' rfl rfl
    have rt : Right t := good_right ht4
    have rt' : Right t' := by
      rcases ht with rfl | ⟨rfl, _⟩
      · exact rt
      · exact .any
    have hft : t.finer t' = true := by
      rcases ht with rfl | ⟨rfl, _⟩
      · exact finer_refl _
      · exact finer_any _
    simp only [Tm.k_mk, Tm.n_mk, Tm.t_mk, Tm.f_mk, Tm.l_mk] at *
    obtain ⟨x1, k1, ks1, rfl, w1, hks⟩ := walkL_cons hks
    obtain rfl := walkL_nil hks
    obtain ⟨y1, k1', p1, w1', t1, r1, r1'⟩ := ih p (by simp) p' (env ++ [t]) (env' ++ [t']) _ x1 k1 hp1 (by simpa using gp) (he.snoc rt rt' hft) w1
    simp [wants] at hw
    obtain ⟨rfl, rfl⟩ := hw
    obtain ⟨z1, rfl, c1⟩ := casts1 hc
    obtain ⟨u1, q1, d1, s1⟩ := kid_lt t1 r1 r1' r1 r1' t1.finer c1
    rw [List.reverse_append, List.reverse_singleton, List.singleton_append, List.reverse_append, List.reverse_singleton, List.singleton_append] at s1
    exact ⟨_, _, true, walkT_of (a := .mk 7 bn t' f' [p']) (ks := [⟨y1, k1', m + 1⟩]) (by simp) (by simp) (by simp) (by simpa using walkL_some (ks := []) w1' (by simp [walkL])) (by simp [wants]; rfl) (casts_some d1 (by simp [casts])), .fn rt rt' r1 r1' hft s1, .to rt r1, .to rt' r1'⟩
  · subst e
    obtain ⟨ks, ws, l', hks, hw, hc, rfl⟩ := walkT_node (by simp) (by simp) (by simp) h
    subst el
    simp at hks
    obtain ⟨p', rfl⟩ := len1 hl.symm
    have hp1 := hparts 0 p p' rfl rfl
    have rt : Right t := good_right ht4
    have rt' : Right t' := by
      rcases ht with rfl | ⟨rfl, _⟩
      · exact rt
      · exact .any
    have hft : t.finer t' = true := by
      rcases ht with rfl | ⟨rfl, _⟩
      · exact finer_refl _
      · exact finer_any _
    simp only [Tm.k_mk, Tm.n_mk, Tm.t_mk, Tm.f_mk, Tm.l_mk] at *
    obtain ⟨x1, k1, ks1, rfl, w1, hks⟩ := walkL_cons hks
    obtain rfl := walkL_nil hks
    obtain ⟨y1, k1', p1, w1', t1, r1, r1'⟩ := ih p (by simp) p' env env' _ x1 k1 hp1 gp he w1
    simp [wants] at hw
    obtain ⟨rfl, rfl⟩ := hw
    obtain ⟨z1, rfl, c1⟩ := casts1 hc
    obtain ⟨u1, q1, d1, s1⟩ := kid_lt t1 r1 r1' rt rt' hft c1
    exact ⟨_, _, true, walkT_of (a := .mk 9 bn t' f' [p']) (ks := [⟨y1, k1', m + 1⟩]) (by simp) (by simp) (by simp) (by simpa using walkL_some (ks := []) w1' (by simp [walkL])) (by simp [wants]; rfl) (casts_some d1 (by simp [casts])), .as s1, rt, rt'⟩
end Go.Proofs.YtnflnbdlgdjfmaaDoor
