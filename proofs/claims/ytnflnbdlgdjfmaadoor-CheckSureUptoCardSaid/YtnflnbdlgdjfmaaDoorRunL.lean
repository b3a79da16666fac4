/-
  Who says less comes to the same, as long as nobody is blamed. Conditions: those typed in each theorem.
-/
import Derived.Test.YtnflnbdlgdjfmaaDoorRunE
namespace Go.Proofs.YtnflnbdlgdjfmaaDoor
set_option linter.unusedVariables false
set_option linter.unusedSimpArgs false

theorem finer_trans : ∀ {a b c : Ty}, Right a → Right b → Right c → a.finer b = true → b.finer c = true → a.finer c = true := by
  intro a b c ha
  induction ha generalizing b c with
  | base h =>
    intro hb hc h1 h2
    cases hc with
    | base h' =>
      cases hb with
      | base h'' =>
        simp [Ty.finer, finerL] at h1 h2 ⊢
        omega
      | fn _ _ => simp [Ty.finer, finerL] at h1
    | fn _ _ =>
      cases hb with
      | base h'' => simp [Ty.finer, finerL] at h2
      | fn _ _ => simp [Ty.finer, finerL] at h1
  | fn ha1 ha2 ih1 ih2 =>
    intro hb hc h1 h2
    cases hc with
    | base h' =>
      cases hb with
      | base h'' =>
        simp [Ty.finer, finerL] at h1 h2 ⊢
        rcases h2 with h2 | h2
        · exact h2
        · omega
      | fn _ _ => simp [Ty.finer, finerL] at h2 ⊢; exact h2
    | fn hc1 hc2 =>
      cases hb with
      | base h'' => simp [Ty.finer, finerL] at h2
      | fn hb1 hb2 =>
        rw [finer_fn, Bool.and_eq_true] at *
        exact ⟨ih1 hb1 hc1 h1.1 h2.1, ih2 hb2 hc2 h1.2 h2.2⟩
theorem finer_kind {a b : Ty} (h : a.finer b = true) (h0 : b.k ≠ 0) : a.k = b.k := by
  rw [finer_eta] at h
  simp [h0] at h
  exact h.1
theorem plain_right {g : Ty} (h : Plain g) : Right g := by
  rcases h with rfl | rfl | rfl
  · exact .num
  · exact .truth
  · exact .to .any .any
theorem plain_ground {g : Ty} (h : Plain g) : g.k ≠ 0 ∧ ∀ t : Ty, t.k = g.k → t.ground = g := by
  rcases h with rfl | rfl | rfl
  · exact ⟨by decide, fun t ht => by unfold Ty.ground; rw [ht]; rfl⟩
  · exact ⟨by decide, fun t ht => by unfold Ty.ground; rw [ht]; rfl⟩
  · exact ⟨by decide, fun t ht => by unfold Ty.ground; rw [ht]; rfl⟩
theorem ground_plain {t : Ty} (ht : Right t) (h0 : t.k ≠ 0) : Plain t.ground := by
  cases ht with
  | base hb =>
    rcases hb with rfl | rfl | rfl
    · exact absurd rfl h0
    · exact .inl rfl
    · exact .inr (.inl rfl)
  | fn _ _ => exact .inr (.inr rfl)

/-- A term with its casts, and one that says less; false: the last that was done is a cast of the one that says less. -/
inductive LT : Bool → List Ty → List Ty → Tm → Ty → Tm → Ty → Prop
  | ref {Γ Γ' : List Ty} {n : Int} {t f t' f' τ τ' : Ty} (h0 : 0 ≤ n) (h : Γ[n.toNat]? = some τ) (h' : Γ'[n.toNat]? = some τ') (hf : τ.finer τ' = true) : LT true Γ Γ' (.mk 1 n t f []) τ (.mk 1 n t' f' []) τ'
  | lit {Γ Γ' : List Ty} {n : Int} {t f t' f' : Ty} (h : inB n = true) : LT true Γ Γ' (.mk 2 n t f []) .num (.mk 2 n t' f' []) .num
  | says {Γ Γ' : List Ty} {n : Int} {t f t' f' : Ty} (h : n = 0 ∨ n = 1) : LT true Γ Γ' (.mk 3 n t f []) .truth (.mk 3 n t' f' []) .truth
  | add {Γ Γ' : List Ty} {n n' : Int} {t f t' f' : Ty} {a b a' b' : Tm} {p q : Bool} (ha : LT p Γ Γ' a .num a' .num) (hb : LT q Γ Γ' b .num b' .num) : LT true Γ Γ' (.mk 4 n t f [a, b]) .num (.mk 4 n' t' f' [a', b']) .num
  | less {Γ Γ' : List Ty} {n n' : Int} {t f t' f' : Ty} {a b a' b' : Tm} {p q : Bool} (ha : LT p Γ Γ' a .num a' .num) (hb : LT q Γ Γ' b .num b' .num) : LT true Γ Γ' (.mk 5 n t f [a, b]) .truth (.mk 5 n' t' f' [a', b']) .truth
  | ife {Γ Γ' : List Ty} {n n' : Int} {t f t' f' τ τ' : Ty} {a b c a' b' c' : Tm} {p q s : Bool} (ha : LT p Γ Γ' a .truth a' .truth) (hb : LT q Γ Γ' b τ b' τ') (hc : LT s Γ Γ' c τ c' τ') : LT true Γ Γ' (.mk 6 n t f [a, b, c]) τ (.mk 6 n' t' f' [a', b', c']) τ'
  | fn {Γ Γ' : List Ty} {n n' : Int} {t f t' f' τ τ' : Ty} {b b' : Tm} {p : Bool} (hr : Right t) (hr' : Right t') (hq : Right τ) (hq' : Right τ') (ht : t.finer t' = true) (h : LT p (t :: Γ) (t' :: Γ') b τ b' τ') : LT true Γ Γ' (.mk 7 n t f [b]) (.to t τ) (.mk 7 n' t' f' [b']) (.to t' τ')
  | call {Γ Γ' : List Ty} {n n' : Int} {t f t' f' σ τ σ' τ' : Ty} {a b a' b' : Tm} {p q : Bool} (ha : LT p Γ Γ' a (.to σ τ) a' (.to σ' τ')) (hb : LT q Γ Γ' b σ b' σ') : LT true Γ Γ' (.mk 8 n t f [a, b]) τ (.mk 8 n' t' f' [a', b']) τ'
  | as {Γ Γ' : List Ty} {n n' : Int} {t f t' f' : Ty} {b b' : Tm} {p : Bool} (h : LT p Γ Γ' b t b' t') : LT true Γ Γ' (.mk 9 n t f [b]) t (.mk 9 n' t' f' [b']) t'
  | castL {Γ Γ' : List Ty} {n : Int} {t f τ' : Ty} {b b' : Tm} {p : Bool} (hr : Right τ') (ht : Right t) (hf : Right f) (hs : f.fits t = true) (hft : t.finer τ' = true) (h : LT p Γ Γ' b f b' τ') : LT true Γ Γ' (.mk 10 n t f [b]) t b' τ'
  | castR {Γ Γ' : List Ty} {n : Int} {t f τ : Ty} {b b' : Tm} {p : Bool} (hr : Right τ) (ht : Right t) (hf : Right f) (hs : f.fits t = true) (hft : τ.finer t = true) (h : LT p Γ Γ' b τ b' f) : LT false Γ Γ' b τ (.mk 10 n t f [b']) t
  | castB {Γ Γ' : List Ty} {n n' : Int} {t f t' f' : Ty} {b b' : Tm} {p : Bool} (ht : Right t) (hf : Right f) (hs : f.fits t = true) (ht' : Right t') (hf' : Right f') (hs' : f'.fits t' = true) (hft : t.finer t' = true) (h : LT p Γ Γ' b f b' f') : LT true Γ Γ' (.mk 10 n t f [b]) t (.mk 10 n' t' f' [b']) t'
theorem LT.left {p : Bool} {Γ Γ' : List Ty} {x y : Tm} {τ τ' : Ty} (h : LT p Γ Γ' x τ y τ') : HT Γ x τ := by
  induction h with
  | ref h0 h _ _ => exact .ref h0 h
  | lit h => exact .lit h
  | says h => exact .says h
  | add _ _ iha ihb => exact .add iha ihb
  | less _ _ iha ihb => exact .less iha ihb
  | ife _ _ _ iha ihb ihc => exact .ife iha ihb ihc
  | fn _ _ _ _ _ _ ih => exact .fn ih
  | call _ _ iha ihb => exact .call iha ihb
  | as _ ih => exact .as ih
  | castL _ ht hf hs _ _ ih => exact .cast ht hf hs ih
  | castR _ _ _ _ _ _ ih => exact ih
  | castB ht hf hs _ _ _ _ _ ih => exact .cast ht hf hs ih
theorem LT.right {p : Bool} {Γ Γ' : List Ty} {x y : Tm} {τ τ' : Ty} (h : LT p Γ Γ' x τ y τ') : HT Γ' y τ' := by
  induction h with
  | ref h0 _ h _ => exact .ref h0 h
  | lit h => exact .lit h
  | says h => exact .says h
  | add _ _ iha ihb => exact .add iha ihb
  | less _ _ iha ihb => exact .less iha ihb
  | ife _ _ _ iha ihb ihc => exact .ife iha ihb ihc
  | fn _ _ _ _ _ _ ih => exact .fn ih
  | call _ _ iha ihb => exact .call iha ihb
  | as _ ih => exact .as ih
  | castL _ _ _ _ _ _ ih => exact ih
  | castR _ ht hf hs _ _ ih => exact .cast ht hf hs ih
  | castB _ _ _ ht hf hs _ _ ih => exact .cast ht hf hs ih
theorem LT.finer {p : Bool} {Γ Γ' : List Ty} {x y : Tm} {τ τ' : Ty} (h : LT p Γ Γ' x τ y τ') : τ.finer τ' = true := by
  induction h with
  | ref _ _ _ hf => exact hf
  | lit h => exact finer_refl _
  | says h => exact finer_refl _
  | add _ _ iha ihb => exact finer_refl _
  | less _ _ iha ihb => exact finer_refl _
  | ife _ _ _ iha ihb ihc => exact ihb
  | fn _ _ _ _ ht _ ih => rw [Ty.to, Ty.to, finer_fn, ht, ih]; rfl
  | call _ _ iha ihb => rw [Ty.to, Ty.to, finer_fn, Bool.and_eq_true] at iha; exact iha.2
  | as _ ih => exact ih
  | castL _ _ _ _ hft _ ih => exact hft
  | castR _ _ _ _ hft _ ih => exact hft
  | castB _ _ _ _ _ _ hft _ ih => exact hft

/-- A value, and one that says less. -/
inductive LV : Bool → V → Ty → V → Ty → Prop
  | num {n : Int} : LV true (.num n) .num (.num n) .num
  | tru {n : Int} : LV true (.tru n) .truth (.tru n) .truth
  | clo {b b' : Tm} {env env' : List V} {Γ Γ' : List Ty} {σ σ' τ τ' : Ty} {p : Bool} {pf : Nat → Bool} (r0 : Right σ) (r1 : Right τ) (r0' : Right σ') (r1' : Right τ') (hl : Γ.length ≤ env.length) (hl' : Γ'.length ≤ env'.length) (hs : σ.finer σ' = true)
      (he : ∀ (i : Nat) (v v' : V) (ρ ρ' : Ty), env[i]? = some v → env'[i]? = some v' → Γ[i]? = some ρ → Γ'[i]? = some ρ' → LV (pf i) v ρ v' ρ')
      (hv : ∀ (i : Nat) (v : V) (ρ : Ty), env[i]? = some v → Γ[i]? = some ρ → VT v ρ) (hv' : ∀ (i : Nat) (v : V) (ρ : Ty), env'[i]? = some v → Γ'[i]? = some ρ → VT v ρ)
      (hb : LT p (σ :: Γ) (σ' :: Γ') b τ b' τ') : LV true (.clo b env) (.to σ τ) (.clo b' env') (.to σ' τ')
  | wrapL {p : Bool} {v v' : V} {f0 f1 t0 t1 τ' : Ty} {at' : Int} {back : Bool} (h0 : Right f0) (h1 : Right f1) (h2 : Right t0) (h3 : Right t1) (g0 : f0.fits t0 = true) (g1 : f1.fits t1 = true) (hft : (Ty.mk 3 [t0, t1]).finer τ' = true) (h : LV p v (.mk 3 [f0, f1]) v' τ') :
      LV true (.wrap v (.mk 3 [f0, f1]) (.mk 3 [t0, t1]) at' back) (.mk 3 [t0, t1]) v' τ'
  | tagL {p : Bool} {v v' : V} {g : Ty} (hg : Plain g) (h : LV p v g v' .any) : LV true (.tag v g) .any v' .any
  | wrapR {p : Bool} {v v' : V} {f0 f1 t0 t1 τ : Ty} {at' : Int} {back : Bool} (h0 : Right f0) (h1 : Right f1) (h2 : Right t0) (h3 : Right t1) (g0 : f0.fits t0 = true) (g1 : f1.fits t1 = true) (hft : τ.finer (Ty.mk 3 [t0, t1]) = true) (h : LV p v τ v' (.mk 3 [f0, f1])) :
      LV false v τ (.wrap v' (.mk 3 [f0, f1]) (.mk 3 [t0, t1]) at' back) (.mk 3 [t0, t1])
  | wrapB {p : Bool} {v v' : V} {f0 f1 t0 t1 f0' f1' t0' t1' : Ty} {at' at'' : Int} {back back' : Bool} (h0 : Right f0) (h1 : Right f1) (h2 : Right t0) (h3 : Right t1) (g0 : f0.fits t0 = true) (g1 : f1.fits t1 = true)
      (h0' : Right f0') (h1' : Right f1') (h2' : Right t0') (h3' : Right t1') (g0' : f0'.fits t0' = true) (g1' : f1'.fits t1' = true) (hft : (Ty.mk 3 [t0, t1]).finer (.mk 3 [t0', t1']) = true) (h : LV p v (.mk 3 [f0, f1]) v' (.mk 3 [f0', f1'])) :
      LV true (.wrap v (.mk 3 [f0, f1]) (.mk 3 [t0, t1]) at' back) (.mk 3 [t0, t1]) (.wrap v' (.mk 3 [f0', f1']) (.mk 3 [t0', t1']) at'' back') (.mk 3 [t0', t1'])
  | tagR {p : Bool} {v v' : V} {g τ : Ty} (hg : Plain g) (h : LV p v τ v' g) : LV false v τ (.tag v' g) .any
theorem LV.left {p : Bool} {v v' : V} {τ τ' : Ty} (h : LV p v τ v' τ') : VT v τ := by
  induction h with
  | num => exact .num
  | tru => exact .tru
  | clo _ _ _ _ hl _ _ _ hv _ hb _ => exact .clo hl hv hb.left
  | wrapL h0 h1 h2 h3 g0 g1 _ _ ih => exact .wrap h0 h1 h2 h3 g0 g1 ih
  | tagL hg _ ih => exact .tag hg ih
  | wrapR _ _ _ _ _ _ _ _ ih => exact ih
  | tagR _ _ ih => exact ih
  | wrapB h0 h1 h2 h3 g0 g1 _ _ _ _ _ _ _ _ ih => exact .wrap h0 h1 h2 h3 g0 g1 ih
theorem LV.right {p : Bool} {v v' : V} {τ τ' : Ty} (h : LV p v τ v' τ') : VT v' τ' := by
  induction h with
  | num => exact .num
  | tru => exact .tru
  | clo _ _ _ _ _ hl _ _ _ hv hb _ => exact .clo hl hv hb.right
  | wrapL _ _ _ _ _ _ _ _ ih => exact ih
  | tagL _ _ ih => exact ih
  | wrapR h0 h1 h2 h3 g0 g1 _ _ ih => exact .wrap h0 h1 h2 h3 g0 g1 ih
  | tagR hg _ ih => exact .tag hg ih
  | wrapB _ _ _ _ _ _ h0 h1 h2 h3 g0 g1 _ _ ih => exact .wrap h0 h1 h2 h3 g0 g1 ih
theorem LV.finer {p : Bool} {v v' : V} {τ τ' : Ty} (h : LV p v τ v' τ') : τ.finer τ' = true := by
  induction h with
  | num => exact finer_refl _
  | tru => exact finer_refl _
  | clo _ _ _ _ _ _ hs _ _ _ hb _ => rw [Ty.to, Ty.to, finer_fn, hs, hb.finer]; rfl
  | wrapL _ _ _ _ _ _ hft _ _ => exact hft
  | tagL _ _ _ => exact finer_refl _
  | wrapR _ _ _ _ _ _ hft _ _ => exact hft
  | tagR _ _ _ => exact finer_any _
  | wrapB _ _ _ _ _ _ _ _ _ _ _ _ hft _ _ => exact hft
/-- What is seen is the same. -/
theorem LV.seen {p : Bool} {v v' : V} {τ τ' : Ty} (h : LV p v τ v' τ') : v.seen = v'.seen := by
  have key : ∀ {v : V} {a b : Ty}, VT v (.mk 3 [a, b]) → v.seen = ⟨3, 0, false⟩ := fun h => by
    cases h <;> rfl
  induction h with
  | num => rfl
  | tru => rfl
  | clo _ _ _ _ _ _ _ _ _ _ _ _ => rfl
  | wrapL _ _ _ _ _ _ _ h ih => rw [← ih, key h.left]; rfl
  | tagL _ _ ih => exact ih
  | wrapR _ _ _ _ _ _ _ h ih => rw [ih, key h.right]; rfl
  | tagR _ _ ih => exact ih
  | wrapB _ _ _ _ _ _ _ _ _ _ _ _ _ _ _ => rfl

theorem lv_wrapL {p : Bool} {v v' : V} {f t τ' : Ty} {n : Int} {b : Bool} (hf : Right f) (ht : Right t) (h1 : f.k = 3) (h2 : t.k = 3) (hs : f.fits t = true) (hft : t.finer τ' = true) (h : LV p v f v' τ') : LV true (.wrap v f t n b) t v' τ' := by
  obtain ⟨_, _, rfl, a, b⟩ := right_fn hf h1
  obtain ⟨_, _, rfl, c, d⟩ := right_fn ht h2
  rw [fits_to, Bool.and_eq_true] at hs
  exact .wrapL a b c d hs.1 hs.2 hft h
theorem lv_wrapR {p : Bool} {v v' : V} {f t τ : Ty} {n : Int} {b : Bool} (hf : Right f) (ht : Right t) (h1 : f.k = 3) (h2 : t.k = 3) (hs : f.fits t = true) (hft : τ.finer t = true) (h : LV p v τ v' f) : LV false v τ (.wrap v' f t n b) t := by
  obtain ⟨_, _, rfl, a, b⟩ := right_fn hf h1
  obtain ⟨_, _, rfl, c, d⟩ := right_fn ht h2
  rw [fits_to, Bool.and_eq_true] at hs
  exact .wrapR a b c d hs.1 hs.2 hft h
theorem fits_ground {t : Ty} (ht : Right t) : t.fits t.ground = true ∧ t.ground.fits t = true := by
  have : t.fits t.ground = true := by
    cases ht with
    | base h => rw [right_base (.base h) (by simp; omega)]; simp [Ty.fits, fitsL]
    | fn _ _ => rw [ground_fn, fits_to, fits_any, fits_any]; rfl
  exact ⟨this, by rw [fits_comm]; exact this⟩
/-- A function's kind, where one says less. -/
theorem lv_tag {p : Bool} {v v' : V} {τ τ' : Ty} (h : LV p v τ v' τ') : ∀ u g, v' = .tag u g → τ.k ≠ 0 → ∃ q, LV q v τ u g ∧ Plain g := by
  induction h with
  | num => intro u g h; cases h
  | tru => intro u g h; cases h
  | clo _ _ _ _ _ _ _ _ _ _ _ _ => intro u g h; cases h
  | wrapL h0 h1 h2 h3 g0 g1 hft h ih =>
    rename_i f0 f1 t0 t1 τ' at' back
    intro u g he _
    obtain ⟨q, hq, hg⟩ := ih u g he (by simp)
    have hk : g.k = 3 := (finer_kind hq.finer (plain_ground hg).1).symm
    have hge : g = .mk 3 [.any, .any] := ((plain_ground hg).2 (.mk 3 [f0, f1]) hk.symm).symm
    exact ⟨true, .wrapL h0 h1 h2 h3 g0 g1 (by rw [hge, finer_fn, finer_any, finer_any]; rfl) hq, hg⟩
  | tagL _ _ _ => intro u g _ h; exact absurd rfl h
  | wrapR _ _ _ _ _ _ _ _ _ => intro u g h; cases h
  | wrapB _ _ _ _ _ _ _ _ _ _ _ _ _ _ _ => intro u g h; cases h
  | tagR hg h _ => intro u g he _; cases he; exact ⟨_, h, hg⟩
/-- A tagged value, where one says less. -/
theorem lv_tagL {p : Bool} {v v' : V} {τ τ' : Ty} (h : LV p v τ v' τ') : ∀ u g, v = .tag u g → Plain g ∧ ∃ q, LV q u g v' .any := by
  have no : ∀ {p : Bool} {u v' : V} {g g' : Ty}, LV p (.tag u g) τ v' g' → VT (.tag u g) τ := fun h => h.left
  induction h with
  | num => intro u g h; cases h
  | tru => intro u g h; cases h
  | clo _ _ _ _ _ _ _ _ _ _ _ _ => intro u g h; cases h
  | wrapL _ _ _ _ _ _ _ _ _ => intro u g h; cases h
  | wrapB _ _ _ _ _ _ _ _ _ _ _ _ _ _ _ => intro u g h; cases h
  | tagL hg h _ => intro u g he; cases he; exact ⟨hg, _, h⟩
  | wrapR _ _ _ _ _ _ hft h _ =>
    intro u g he; subst he
    have := h.left
    cases this with
    | tag _ _ => simp [Ty.any, Ty.finer] at hft
  | tagR hg h _ =>
    intro u g he; subst he
    have h1 := h.left
    cases h1 with
    | tag _ _ =>
      have := h.finer
      have := any_finer .any (plain_right hg) rfl this
      subst this
      exact absurd rfl (plain_ground hg).1
/-- A cast of what says more. -/
theorem castV_L {p : Bool} {v v' u : V} {f t τ' : Ty} {n : Int} {b : Bool} (hf : Right f) (ht : Right t) (hr' : Right τ') (hs : f.fits t = true) (hft : t.finer τ' = true) (h : LV p v f v' τ') (hc : castV v f t n b = .inl u) : ∃ q, LV q u t v' τ' := by
  unfold castV at hc
  split at hc
  · rename_i h1; cases hc; have := same_eq h1; subst this; exact ⟨p, h⟩
  split at hc
  · rename_i hk
    cases hc
    simp only [Bool.and_eq_true, beq_iff_eq] at hk
    exact ⟨true, lv_wrapL hf ht hk.1 hk.2 hs hft h⟩
  split at hc
  · rename_i h1 h2 h0
    cases hc
    have := right_zero ht (by simpa using h0)
    subst this
    have := any_finer .any hr' rfl hft
    subst this
    have hfk : f.k ≠ 0 := fun e => by have := right_zero hf e; subst this; exact h1 rfl
    split
    · rename_i hg
      have hg := same_eq hg
      exact ⟨true, .tagL (by rw [← hg, hg]; exact ground_plain hf hfk) (by rw [← hg]; exact h)⟩
    · rename_i hg
      have h3 : f.k = 3 := Decidable.byContradiction fun h3 => hg (by rw [right_base hf h3]; exact same_refl f)
      exact ⟨true, .tagL (ground_plain hf hfk) (lv_wrapL hf hf.ground h3 (by rw [ground_k]; exact h3) (fits_ground hf).1 (finer_any _) h)⟩
  split at hc
  · rename_i h0
    have := right_zero hf (by simpa using h0)
    subst this
    have := any_finer .any hr' rfl h.finer
    subst this
    split at hc
    · obtain ⟨hg, q, h⟩ := lv_tagL h _ _ rfl
      split at hc
      · rename_i hgt
        have hgt := same_eq hgt
        split at hc
        · rename_i he
          have he := same_eq he
          cases hc
          rw [hgt, he] at h
          exact ⟨q, h⟩
        · split at hc
          · rename_i h3
            have h3 : t.k = 3 := by simpa using h3
            cases hc
            rw [hgt] at h
            exact ⟨true, lv_wrapL ht.ground ht (by rw [ground_k]; exact h3) h3 (fits_ground ht).2 (finer_any _) h⟩
          · cases hc
      · cases hc
    · cases hc
  · cases hc
/-- A cast of what says less is not blamed. -/
theorem castV_R {p : Bool} {v v' : V} {f t τ : Ty} {n : Int} {b : Bool} (hf : Right f) (ht : Right t) (hr : Right τ) (hs : f.fits t = true) (hft : τ.finer t = true) (h : LV p v τ v' f) : ∃ u q, castV v' f t n b = .inl u ∧ LV q v τ u t := by
  unfold castV
  by_cases h1 : f.same t = true
  · rw [if_pos h1]; have := same_eq h1; subst this; exact ⟨v', p, rfl, h⟩
  rw [if_neg h1]
  by_cases hk : (f.k == 3 && t.k == 3) = true
  · rw [if_pos hk]
    simp only [Bool.and_eq_true, beq_iff_eq] at hk
    exact ⟨_, false, rfl, lv_wrapR hf ht hk.1 hk.2 hs hft h⟩
  rw [if_neg hk]
  by_cases h0 : (t.k == 0) = true
  · rw [if_pos h0]
    have := right_zero ht (by simpa using h0)
    subst this
    have hfk : f.k ≠ 0 := fun e => by have := right_zero hf e; subst this; exact h1 rfl
    refine ⟨_, false, rfl, .tagR (ground_plain hf hfk) (p := if f.same f.ground then p else false) ?_⟩
    split
    · rename_i hg; have hg := same_eq hg; rw [← hg]; exact h
    · rename_i hg
      have h3 : f.k = 3 := Decidable.byContradiction fun h3 => hg (by rw [right_base hf h3]; exact same_refl f)
      exact lv_wrapR hf hf.ground h3 (by rw [ground_k]; exact h3) (fits_ground hf).1 (finer_trans hr hf hf.ground h.finer (finer_ground hf)) h
  rw [if_neg h0]
  have ht0 : t.k ≠ 0 := by simpa using h0
  have hτ : τ.k = t.k := finer_kind hft ht0
  by_cases hf0 : (f.k == 0) = true
  · rw [if_pos hf0]
    have := right_zero hf (by simpa using hf0)
    subst this
    obtain ⟨u, g, rfl, _, _⟩ := vt_any h.right
    obtain ⟨q, hq, hg⟩ := lv_tag h u g rfl (by rw [hτ]; exact ht0)
    have hgk : t.k = g.k := by rw [← hτ]; exact finer_kind hq.finer (plain_ground hg).1
    have hge : t.ground = g := (plain_ground hg).2 t hgk
    dsimp only
    rw [if_pos (by rw [hge]; exact same_refl g)]
    by_cases he : t.ground.same t = true
    · rw [if_pos he]
      have he := same_eq he
      exact ⟨u, q, rfl, by rw [← he, hge]; exact hq⟩
    · rw [if_neg he]
      have h3 : t.k = 3 := Decidable.byContradiction fun h3 => he (by rw [right_base ht h3]; exact same_refl t)
      rw [if_pos (by simpa using h3)]
      exact ⟨_, false, rfl, lv_wrapR ht.ground ht (by rw [ground_k]; exact h3) h3 (fits_ground ht).2 hft (by rw [hge]; exact hq)⟩
  · exfalso
    have hf0 : f.k ≠ 0 := by simpa using hf0
    rw [fits_eta] at hs
    simp [hf0, ht0] at hs
    apply h1
    have hfk : f.k ≠ 3 := fun e => hk (by rw [← hs.1, e]; rfl)
    cases hf with
    | fn _ _ => exact absurd rfl hfk
    | base hb =>
      cases ht with
      | fn _ _ => simp at hs hfk; exact absurd hs.1 (by omega)
      | base hb' => simp at hs; rw [hs.1]; exact same_refl _
theorem LV.rl {p : Bool} {v v' : V} {τ τ' : Ty} (h : LV p v τ v' τ') : Right τ := by
  induction h with
  | num => exact .num
  | tru => exact .truth
  | clo r0 r1 _ _ _ _ _ _ _ _ _ _ => exact .to r0 r1
  | wrapL _ _ h2 h3 _ _ _ _ _ => exact .to h2 h3
  | tagL _ _ _ => exact .any
  | wrapR _ _ _ _ _ _ _ _ ih => exact ih
  | tagR _ _ ih => exact ih
  | wrapB _ _ h2 h3 _ _ _ _ _ _ _ _ _ _ _ => exact .to h2 h3
theorem LV.rr {p : Bool} {v v' : V} {τ τ' : Ty} (h : LV p v τ v' τ') : Right τ' := by
  induction h with
  | num => exact .num
  | tru => exact .truth
  | clo _ _ r0 r1 _ _ _ _ _ _ _ _ => exact .to r0 r1
  | wrapL _ _ _ _ _ _ _ _ ih => exact ih
  | tagL _ _ ih => exact ih
  | wrapR _ _ h2 h3 _ _ _ _ _ => exact .to h2 h3
  | tagR _ _ ih => exact .any
  | wrapB _ _ _ _ _ _ _ _ h2 h3 _ _ _ _ _ => exact .to h2 h3
/-- A cast of both. -/
theorem castV_B {p : Bool} {v v' u : V} {f t f' t' : Ty} {n n' : Int} {b b' : Bool} (hf : Right f) (ht : Right t) (hf' : Right f') (ht' : Right t') (hs : f.fits t = true) (hs' : f'.fits t' = true) (hft : t.finer t' = true) (h : LV p v f v' f') (hc : castV v f t n b = .inl u) :
    ∃ u' q, castV v' f' t' n' b' = .inl u' ∧ LV q u t u' t' := by
  by_cases h1 : t.finer f' = true
  · obtain ⟨q, hu⟩ := castV_L hf ht hf' hs h1 h hc
    exact castV_R hf' ht' ht hs' hft hu
  by_cases h2 : f.finer t' = true
  · obtain ⟨u', q, hc', hu'⟩ := castV_R (n := n') (b := b') hf' ht' hf hs' h2 h
    obtain ⟨q', hu⟩ := castV_L hf ht ht' hs hft hu' hc
    exact ⟨u', q', hc', hu⟩
  have hff := h.finer
  have k1 : f'.k ≠ 0 := fun e => h1 (by rw [right_zero hf' e]; exact finer_any _)
  have k2 : t'.k ≠ 0 := fun e => h2 (by rw [right_zero ht' e]; exact finer_any _)
  have e1 := finer_kind hff k1
  have e2 := finer_kind hft k2
  have e3 : f'.k = t'.k := by
    rw [fits_eta] at hs'
    simp [k1, k2] at hs'
    exact hs'.1
  have k3 : f.k = 3 := by
    cases hf with
    | fn _ _ => rfl
    | base hb =>
      exfalso
      cases ht' with
      | fn _ _ => simp at e1 e3 hb; omega
      | base hb' =>
        apply h2
        simp at e1 e3
        simp [Ty.finer, finerL]
        omega
  have n1 : ¬ f.same t = true := fun e => h2 (by have := same_eq e; subst this; exact hft)
  have n2 : ¬ f'.same t' = true := fun e => h1 (by have := same_eq e; subst this; exact hft)
  unfold castV at hc ⊢
  rw [if_neg n1, if_pos (by simp; omega)] at hc
  rw [if_neg n2, if_pos (by simp; omega)]
  cases hc
  obtain ⟨_, _, rfl, a0, a1⟩ := right_fn hf k3
  obtain ⟨_, _, rfl, a2, a3⟩ := right_fn ht (by omega)
  obtain ⟨_, _, rfl, c0, c1⟩ := right_fn hf' (by omega)
  obtain ⟨_, _, rfl, c2, c3⟩ := right_fn ht' (by omega)
  rw [fits_to, Bool.and_eq_true] at hs hs'
  exact ⟨_, true, rfl, .wrapB a0 a1 a2 a3 hs.1 hs.2 c0 c1 c2 c3 hs'.1 hs'.2 hft h⟩

def RL : Res → Ty → Res → Ty → Prop
  | .ok v F, τ, r', τ' => ∃ v' p, r' = .ok v' F ∧ LV p v τ v' τ'
  | .out o, _, r', _ => r' = .out o
structure LE (env env' : List V) (Γ Γ' : List Ty) : Prop where
  hl : Γ.length ≤ env.length
  hl' : Γ'.length ≤ env'.length
  he : ∃ pf : Nat → Bool, ∀ (i : Nat) (v v' : V) (ρ ρ' : Ty), env[i]? = some v → env'[i]? = some v' → Γ[i]? = some ρ → Γ'[i]? = some ρ' → LV (pf i) v ρ v' ρ'
  hv : ∀ (i : Nat) (v : V) (ρ : Ty), env[i]? = some v → Γ[i]? = some ρ → VT v ρ
  hv' : ∀ (i : Nat) (v : V) (ρ : Ty), env'[i]? = some v → Γ'[i]? = some ρ → VT v ρ
theorem LE.cons {env env' : List V} {Γ Γ' : List Ty} {v v' : V} {ρ ρ' : Ty} {p : Bool} (h : LE env env' Γ Γ') (hv : LV p v ρ v' ρ') : LE (v :: env) (v' :: env') (ρ :: Γ) (ρ' :: Γ') where
  hl := by simpa using h.hl
  hl' := by simpa using h.hl'
  he := by
    obtain ⟨pf, hp⟩ := h.he
    refine ⟨fun i => match i with | 0 => p | i + 1 => pf i, fun i u u' σ σ' h1 h2 h3 h4 => ?_⟩
    cases i with
    | zero => simp at h1 h2 h3 h4; subst h1 h2 h3 h4; exact hv
    | succ i => exact hp i u u' σ σ' (by simpa using h1) (by simpa using h2) (by simpa using h3) (by simpa using h4)
  hv := fun i u σ h1 h3 => by
    cases i with
    | zero => simp at h1 h3; subst h1 h3; exact hv.left
    | succ i => exact h.hv i u σ (by simpa using h1) (by simpa using h3)
  hv' := fun i u σ h1 h3 => by
    cases i with
    | zero => simp at h1 h3; subst h1 h3; exact hv.right
    | succ i => exact h.hv' i u σ (by simpa using h1) (by simpa using h3)
theorem RL.castR {r r' : Res} {τ f t : Ty} {n : Int} {y : Tm} {env' : List V} {F : Nat} (hr : Right τ) (ht : Right t) (hf : Right f) (hs : f.fits t = true) (hft : τ.finer t = true) (h1 : Ev (.tm y env') F r') (h2 : RL r τ r' f) : ∃ r', Ev (.tm (.mk 10 n t f [y]) env') F r' ∧ RL r τ r' t := by
  cases r with
  | out o =>
    have h2 : r' = _ := h2
    subst h2
    exact ⟨_, .castO h1, rfl⟩
  | ok v F' =>
    obtain ⟨v', p, rfl, hv⟩ := h2
    obtain ⟨u, q, hc, hu⟩ := castV_R (n := n) (b := false) hf ht hr hs hft hv
    refine ⟨_, .cast h1, ?_⟩
    unfold Go.Proofs.YtnflnbdlgdjfmaaDoor.castR
    rw [hc]
    exact ⟨u, q, rfl, hu⟩
/-- Casts of what says less are carried out. -/
theorem lt_close {Γ Γ' : List Ty} {env' : List V} {F : Nat} {r : Res} {p : Bool} {x y : Tm} {τ τ' : Ty} (h : LT p Γ Γ' x τ y τ') : (∀ y τ', LT true Γ Γ' x τ y τ' → ∃ r', Ev (.tm y env') F r' ∧ RL r τ r' τ') → ∃ r', Ev (.tm y env') F r' ∧ RL r τ r' τ' := by
  induction h with
  | castR hr ht hf hs hft h ih =>
    intro H
    obtain ⟨r', h1, h2⟩ := ih H
    exact RL.castR hr ht hf hs hft h1 h2
  | ref h0 h h' hf => exact fun H => H _ _ (.ref h0 h h' hf)
  | lit h => exact fun H => H _ _ (.lit h)
  | says h => exact fun H => H _ _ (.says h)
  | add ha hb => exact fun H => H _ _ (.add ha hb)
  | less ha hb => exact fun H => H _ _ (.less ha hb)
  | ife ha hb hc => exact fun H => H _ _ (.ife ha hb hc)
  | fn hr hr' hq hq' ht h => exact fun H => H _ _ (.fn hr hr' hq hq' ht h)
  | call ha hb => exact fun H => H _ _ (.call ha hb)
  | as h => exact fun H => H _ _ (.as h)
  | castL hr ht hf hs hft h => exact fun H => H _ _ (.castL hr ht hf hs hft h)
  | castB ht hf hs ht' hf' hs' hft h => exact fun H => H _ _ (.castB ht hf hs ht' hf' hs' hft h)
/-- Wrapped functions that say less are called. -/
theorem lv_close {f x : V} {F : Nat} {r : Res} {T : Ty} {σ τ : Ty} (hT : T = .mk 3 [σ, τ]) {p : Bool} {f' : V} {T' : Ty} (h : LV p f T f' T') : (∀ f' x' σ' τ' q, LV true f T f' (.mk 3 [σ', τ']) → LV q x σ x' σ' → ∃ r', Ev (.ap f' x') F r' ∧ RL r τ r' τ') →
    ∀ x' σ' τ' q, T' = .mk 3 [σ', τ'] → LV q x σ x' σ' → ∃ r', Ev (.ap f' x') F r' ∧ RL r τ r' τ' := by
  induction h with
  | num => cases hT
  | tru => cases hT
  | tagL _ _ _ => cases hT
  | tagR _ _ _ => intro _ _ _ _ _ h; cases h
  | clo r0 r1 r2 r3 hl hl' hs he hv hv' hb _ => intro H x' σ' τ' q h hx; cases h; exact H _ _ _ _ _ (.clo r0 r1 r2 r3 hl hl' hs he hv hv' hb) hx
  | wrapL h0 h1 h2 h3 g0 g1 hft h _ => intro H x' σ' τ' q e hx; subst e; exact H _ _ _ _ _ (.wrapL h0 h1 h2 h3 g0 g1 hft h) hx
  | wrapB h0 h1 h2 h3 g0 g1 h0' h1' h2' h3' g0' g1' hft h _ => intro H x' σ' τ' q e hx; cases e; exact H _ _ _ _ _ (.wrapB h0 h1 h2 h3 g0 g1 h0' h1' h2' h3' g0' g1' hft h) hx
  | wrapR h0 h1 h2 h3 g0 g1 hft h ih =>
    rename_i at' back
    intro H x' σ' τ' q e hx
    cases e
    subst hT
    have hf := h.finer
    rw [finer_fn, Bool.and_eq_true] at hf hft
    obtain ⟨y', q', hc, hy⟩ := castV_R (n := at') (b := !back) h2 h0 hx.rl (by rw [fits_comm]; exact g0) hf.1 hx
    obtain ⟨r', h4, h5⟩ := ih rfl H y' _ _ q' rfl hy
    cases r with
    | out o =>
      have h5 : r' = _ := h5
      subst h5
      exact ⟨_, .wrapP hc h4, rfl⟩
    | ok v F' =>
      obtain ⟨v', p', rfl, hv⟩ := h5
      obtain ⟨u, q2, hc2, hu⟩ := castV_R (n := at') (b := back) h1 h3 hv.rl g1 hft.2 hv
      refine ⟨_, .wrap hc h4, ?_⟩
      unfold castR
      rw [hc2]
      exact ⟨u, q2, rfl, hu⟩

def LC : Cmd → Ty → Cmd → Ty → Prop
  | .tm t env, τ, c', τ' => ∃ Γ Γ' t' env' p, c' = .tm t' env' ∧ LE env env' Γ Γ' ∧ LT p Γ Γ' t τ t' τ'
  | .ap f x, τ, c', τ' => ∃ σ σ' f' x' p q, c' = .ap f' x' ∧ LV p f (.mk 3 [σ, τ]) f' (.mk 3 [σ', τ']) ∧ LV q x σ x' σ'
theorem lv_num {p : Bool} {n : Int} {v' : V} (h : LV p (.num n) .num v' .num) : v' = .num n := by
  have := h.seen
  obtain ⟨m, rfl⟩ := vt_num h.right
  simp [V.seen] at this
  rw [this]
theorem lv_tru {p : Bool} {n : Int} {v' : V} (h : LV p (.tru n) .truth v' .truth) : v' = .tru n := by
  have := h.seen
  obtain ⟨m, rfl⟩ := vt_truth h.right
  simp [V.seen] at this
  rw [this]
/-- WHO SAYS LESS COMES TO THE SAME, AS LONG AS NOBODY IS BLAMED. -/
theorem ev_lt {c : Cmd} {F : Nat} {r : Res} (h : Ev c F r) : Well r → ∀ τ c' τ', LC c τ c' τ' → ∃ r', Ev c' F r' ∧ RL r τ r' τ' := by
  induction h with
  | ref hv =>
    rintro hr τ _ τ' ⟨Γ, Γ', t', env', p, rfl, he, ht⟩
    refine lt_close ht fun y τ' ht => ?_
    cases ht with
    | ref h0 h1 h2 hf =>
      have hlt := Nat.lt_of_lt_of_le (List.getElem?_eq_some_iff.1 h2).1 he.hl'
      have hv' := List.getElem?_eq_getElem hlt
      obtain ⟨pf, hp⟩ := he.he
      exact ⟨_, .ref hv', _, _, rfl, hp _ _ _ _ _ hv hv' h1 h2⟩
  | refS hv => intro hw; exact absurd hw not_stuck
  | lit =>
    rintro hr τ _ τ' ⟨Γ, Γ', t', env', p, rfl, he, ht⟩
    refine lt_close ht fun y τ' ht => ?_
    cases ht with
    | lit h => exact ⟨_, .lit, _, _, rfl, .num⟩
  | says =>
    rintro hr τ _ τ' ⟨Γ, Γ', t', env', p, rfl, he, ht⟩
    refine lt_close ht fun y τ' ht => ?_
    cases ht with
    | says h => exact ⟨_, .says, _, _, rfl, .tru⟩
  | fn =>
    rintro hr τ _ τ' ⟨Γ, Γ', t', env', p, rfl, he, ht⟩
    refine lt_close ht fun y τ' ht => ?_
    cases ht with
    | fn r0 r0' r1 r1' hf h =>
      obtain ⟨pf, hp⟩ := he.he
      exact ⟨_, .fn, _, true, rfl, .clo r0 r1 r0' r1' he.hl he.hl' hf hp he.hv he.hv' h⟩
  | as _ ih =>
    rintro hr τ _ τ' ⟨Γ, Γ', t', env', p, rfl, he, ht⟩
    refine lt_close ht fun y τ' ht => ?_
    cases ht with
    | as h =>
      obtain ⟨r', h1, h2⟩ := ih hr _ _ _ ⟨Γ, Γ', _, env', _, rfl, he, h⟩
      exact ⟨r', .as h1, h2⟩
  | castO _ ih =>
    rintro hr τ _ τ' ⟨Γ, Γ', t', env', p, rfl, he, ht⟩
    refine lt_close ht fun y τ' ht => ?_
    cases ht with
    | castL _ _ _ _ _ h =>
      obtain ⟨r', h1, h2⟩ := ih hr _ _ _ ⟨Γ, Γ', _, env', _, rfl, he, h⟩
      exact ⟨r', h1, h2⟩
    | castB _ _ _ _ _ _ _ h =>
      obtain ⟨r', h1, h2⟩ := ih hr _ _ _ ⟨Γ, Γ', _, env', _, rfl, he, h⟩
      have h2 : r' = _ := h2
      subst h2
      exact ⟨_, .castO h1, rfl⟩
  | cast _ ih =>
    rintro hr τ _ τ' ⟨Γ, Γ', t', env', p, rfl, he, ht⟩
    refine lt_close ht fun y τ' ht => ?_
    cases ht with
    | castL hr' h6 hf hs hft h =>
      obtain ⟨r', h1, v', q, rfl, hv⟩ := ih well_ok _ _ _ ⟨Γ, Γ', _, env', _, rfl, he, h⟩
      obtain ⟨u, h3, h4⟩ := well_cast hr
      obtain ⟨q', hu⟩ := castV_L hf h6 hr' hs hft hv h3
      exact ⟨_, h1, by rw [h4]; exact ⟨v', q', rfl, hu⟩⟩
    | castB h6 hf hs h6' hf' hs' hft h =>
      obtain ⟨r', h1, v', q, rfl, hv⟩ := ih well_ok _ _ _ ⟨Γ, Γ', _, env', _, rfl, he, h⟩
      obtain ⟨u, h3, h4⟩ := well_cast hr
      obtain ⟨u', q', hc', hu⟩ := castV_B hf h6 hf' h6' hs hs' hft hv h3
      refine ⟨_, .cast h1, ?_⟩
      rw [h4, castR, hc']
      exact ⟨u', q', rfl, hu⟩
  | ifO _ ih =>
    rintro hr τ _ τ' ⟨Γ, Γ', t', env', p, rfl, he, ht⟩
    refine lt_close ht fun y τ' ht => ?_
    cases ht with
    | ife ha hb hc =>
      obtain ⟨r', h1, h2⟩ := ih hr _ _ _ ⟨Γ, Γ', _, env', _, rfl, he, ha⟩
      have h2 : r' = _ := h2
      subst h2
      exact ⟨_, .ifO h1, rfl⟩
  | ifS _ hv ih => intro hw; exact absurd hw not_stuck
  | ifT _ _ ih1 ih2 =>
    rintro hr τ _ τ' ⟨Γ, Γ', t', env', p, rfl, he, ht⟩
    refine lt_close ht fun y τ' ht => ?_
    cases ht with
    | ife ha hb hc =>
      obtain ⟨r', h1, v', q, rfl, hv⟩ := ih1 well_ok _ _ _ ⟨Γ, Γ', _, env', _, rfl, he, ha⟩
      obtain rfl := lv_tru hv
      obtain ⟨r', h3, h4⟩ := ih2 hr _ _ _ ⟨Γ, Γ', _, env', _, rfl, he, hb⟩
      exact ⟨_, .ifT h1 h3, h4⟩
  | ifF _ _ ih1 ih2 =>
    rintro hr τ _ τ' ⟨Γ, Γ', t', env', p, rfl, he, ht⟩
    refine lt_close ht fun y τ' ht => ?_
    cases ht with
    | ife ha hb hc =>
      obtain ⟨r', h1, v', q, rfl, hv⟩ := ih1 well_ok _ _ _ ⟨Γ, Γ', _, env', _, rfl, he, ha⟩
      obtain rfl := lv_tru hv
      obtain ⟨r', h3, h4⟩ := ih2 hr _ _ _ ⟨Γ, Γ', _, env', _, rfl, he, hc⟩
      exact ⟨_, .ifF h1 h3, h4⟩
  | binO hk _ ih =>
    rintro hr τ _ τ' ⟨Γ, Γ', t', env', p, rfl, he, ht⟩
    refine lt_close ht fun y τ' ht => ?_
    cases ht with
    | add ha hb =>
      obtain ⟨r', h1, h2⟩ := ih hr _ _ _ ⟨Γ, Γ', _, env', _, rfl, he, ha⟩
      have h2 : r' = _ := h2
      subst h2
      exact ⟨_, .binO hk h1, rfl⟩
    | less ha hb =>
      obtain ⟨r', h1, h2⟩ := ih hr _ _ _ ⟨Γ, Γ', _, env', _, rfl, he, ha⟩
      have h2 : r' = _ := h2
      subst h2
      exact ⟨_, .binO hk h1, rfl⟩
    | call ha hb =>
      obtain ⟨r', h1, h2⟩ := ih hr _ _ _ ⟨Γ, Γ', _, env', _, rfl, he, ha⟩
      have h2 : r' = _ := h2
      subst h2
      exact ⟨_, .binO hk h1, rfl⟩
  | binP hk _ _ ih1 ih2 =>
    rintro hr τ _ τ' ⟨Γ, Γ', t', env', p, rfl, he, ht⟩
    refine lt_close ht fun y τ' ht => ?_
    cases ht with
    | add ha hb =>
      obtain ⟨r', h1, v', q, rfl, hv⟩ := ih1 well_ok _ _ _ ⟨Γ, Γ', _, env', _, rfl, he, ha⟩
      obtain ⟨r', h3, h2⟩ := ih2 hr _ _ _ ⟨Γ, Γ', _, env', _, rfl, he, hb⟩
      have h2 : r' = _ := h2
      subst h2
      exact ⟨_, .binP hk h1 h3, rfl⟩
    | less ha hb =>
      obtain ⟨r', h1, v', q, rfl, hv⟩ := ih1 well_ok _ _ _ ⟨Γ, Γ', _, env', _, rfl, he, ha⟩
      obtain ⟨r', h3, h2⟩ := ih2 hr _ _ _ ⟨Γ, Γ', _, env', _, rfl, he, hb⟩
      have h2 : r' = _ := h2
      subst h2
      exact ⟨_, .binP hk h1 h3, rfl⟩
    | call ha hb =>
      obtain ⟨r', h1, v', q, rfl, hv⟩ := ih1 well_ok _ _ _ ⟨Γ, Γ', _, env', _, rfl, he, ha⟩
      obtain ⟨r', h3, h2⟩ := ih2 hr _ _ _ ⟨Γ, Γ', _, env', _, rfl, he, hb⟩
      have h2 : r' = _ := h2
      subst h2
      exact ⟨_, .binP hk h1 h3, rfl⟩
  | twoV hk _ _ h2 ih1 ih2 =>
    rintro hr τ _ τ' ⟨Γ, Γ', t', env', p, rfl, he, ht⟩
    refine lt_close ht fun y τ' ht => ?_
    cases ht with
    | add ha hb =>
      obtain ⟨r', h1, v', q, rfl, hv⟩ := ih1 well_ok _ _ _ ⟨Γ, Γ', _, env', _, rfl, he, ha⟩
      obtain ⟨r', h3, w', q', rfl, hw⟩ := ih2 well_ok _ _ _ ⟨Γ, Γ', _, env', _, rfl, he, hb⟩
      obtain ⟨n, rfl⟩ := vt_num hv.left
      obtain ⟨m, rfl⟩ := vt_num hw.left
      obtain rfl := lv_num hv
      obtain rfl := lv_num hw
      refine ⟨_, .twoV hk h1 h3 h2, _, true, rfl, ?_⟩
      simp only [twoV] at h2
      split at h2
      · cases h2; exact .num
      · cases h2
    | less ha hb =>
      obtain ⟨r', h1, v', q, rfl, hv⟩ := ih1 well_ok _ _ _ ⟨Γ, Γ', _, env', _, rfl, he, ha⟩
      obtain ⟨r', h3, w', q', rfl, hw⟩ := ih2 well_ok _ _ _ ⟨Γ, Γ', _, env', _, rfl, he, hb⟩
      obtain ⟨n, rfl⟩ := vt_num hv.left
      obtain ⟨m, rfl⟩ := vt_num hw.left
      obtain rfl := lv_num hv
      obtain rfl := lv_num hw
      refine ⟨_, .twoV hk h1 h3 h2, _, true, rfl, ?_⟩
      simp only [twoV] at h2
      split at h2
      · cases h2; exact .tru
      · cases h2
    | call _ _ => omega
  | twoO hk _ _ h2 ih1 ih2 => intro hw; rw [twoV_out h2] at hw; exact absurd hw not_stuck
  | call _ _ _ ih1 ih2 ih3 =>
    rintro hr τ _ τ' ⟨Γ, Γ', t', env', p, rfl, he, ht⟩
    refine lt_close ht fun y τ' ht => ?_
    cases ht with
    | call ha hb =>
      obtain ⟨r', h1, v', q, rfl, hv⟩ := ih1 well_ok _ _ _ ⟨Γ, Γ', _, env', _, rfl, he, ha⟩
      obtain ⟨r', h3, w', q', rfl, hw⟩ := ih2 well_ok _ _ _ ⟨Γ, Γ', _, env', _, rfl, he, hb⟩
      obtain ⟨r', h5, h6⟩ := ih3 hr _ _ _ ⟨_, _, v', w', q, q', rfl, hv, hw⟩
      exact ⟨_, .call h1 h3 h5, h6⟩
  | clo0 =>
    rintro hr τ _ τ' ⟨σ, σ', f', x', p, q, rfl, hf, hx⟩
    refine lv_close rfl hf (fun f' x' σ' τ' q hf hx => ?_) x' σ' τ' q rfl hx
    cases hf with
    | clo r0 r1 r2 r3 hl hl' hs he hv hv' hb => exact ⟨_, .clo0, rfl⟩
  | clo _ ih =>
    rintro hr τ _ τ' ⟨σ, σ', f', x', p, q, rfl, hf, hx⟩
    refine lv_close rfl hf (fun f' x' σ' τ' q hf hx => ?_) x' σ' τ' q rfl hx
    cases hf with
    | clo r0 r1 r2 r3 hl hl' hs he hv hv' hb =>
      obtain ⟨r', h1, h2⟩ := ih hr _ _ _ ⟨_, _, _, _, _, rfl, LE.cons ⟨hl, hl', ⟨_, he⟩, hv, hv'⟩ hx, hb⟩
      exact ⟨_, .clo h1, h2⟩
  | wrapO hc =>
    intro hr
    have := hr _ rfl
    subst this
    exact absurd hc castV_fuel
  | wrapP hc _ ih =>
    rintro hr τ _ τ' ⟨σ, σ', f', x', p, q, rfl, hf, hx⟩
    refine lv_close rfl hf (fun f' x' σ' τ' q hf hx => ?_) x' σ' τ' q rfl hx
    cases hf with
    | wrapL h0 h1 h2 h3 g0 g1 hft h =>
      have hff := h.finer
      rw [finer_fn, Bool.and_eq_true] at hff hft
      obtain ⟨q', hy⟩ := castV_L h2 h0 hx.rr (by rw [fits_comm]; exact g0) hff.1 hx hc
      obtain ⟨r', h4, h5⟩ := ih hr _ _ _ ⟨_, _, f', x', _, _, rfl, h, hy⟩
      exact ⟨r', h4, h5⟩
    | wrapB h0 h1 h2 h3 g0 g1 h0' h1' h2' h3' g0' g1' hft h =>
      have hff := h.finer
      rw [finer_fn, Bool.and_eq_true] at hff hft
      obtain ⟨y', q', hc', hy⟩ := castV_B h2 h0 h2' h0' (by rw [fits_comm]; exact g0) (by rw [fits_comm]; exact g0') hff.1 hx hc
      obtain ⟨r', h4, h5⟩ := ih hr _ _ _ ⟨_, _, _, y', _, _, rfl, h, hy⟩
      have h5 : r' = _ := h5
      subst h5
      exact ⟨_, .wrapP hc' h4, rfl⟩
  | wrap hc _ ih =>
    rintro hr τ _ τ' ⟨σ, σ', f', x', p, q, rfl, hf, hx⟩
    refine lv_close rfl hf (fun f' x' σ' τ' q hf hx => ?_) x' σ' τ' q rfl hx
    cases hf with
    | wrapL h0 h1 h2 h3 g0 g1 hft h =>
      have hff := h.finer
      rw [finer_fn, Bool.and_eq_true] at hff hft
      obtain ⟨q', hy⟩ := castV_L h2 h0 hx.rr (by rw [fits_comm]; exact g0) hff.1 hx hc
      obtain ⟨r', h4, v', q2, rfl, hv⟩ := ih well_ok _ _ _ ⟨_, _, f', x', _, _, rfl, h, hy⟩
      obtain ⟨u, h5, h6⟩ := well_cast hr
      obtain ⟨q3, hu⟩ := castV_L h1 h3 hv.rr g1 hft.2 hv h5
      exact ⟨_, h4, by rw [h6]; exact ⟨v', q3, rfl, hu⟩⟩
    | wrapB h0 h1 h2 h3 g0 g1 h0' h1' h2' h3' g0' g1' hft h =>
      have hff := h.finer
      rw [finer_fn, Bool.and_eq_true] at hff hft
      obtain ⟨y', q', hc', hy⟩ := castV_B h2 h0 h2' h0' (by rw [fits_comm]; exact g0) (by rw [fits_comm]; exact g0') hff.1 hx hc
      obtain ⟨r', h4, v', q2, rfl, hv⟩ := ih well_ok _ _ _ ⟨_, _, _, y', _, _, rfl, h, hy⟩
      obtain ⟨u, h5, h6⟩ := well_cast hr
      obtain ⟨u', q3, hc2, hu⟩ := castV_B h1 h3 h1' h3' g1 g1' hft.2 hv h5
      refine ⟨_, .wrap hc' h4, ?_⟩
      rw [h6, castR, hc2]
      exact ⟨u', q3, rfl, hu⟩
  | apN => intro hw; exact absurd hw not_stuck
  | apT => intro hw; exact absurd hw not_stuck
  | apG => intro hw; exact absurd hw not_stuck
/-- Who says less is told the same. -/
theorem looser {p : Bool} {x y : Tm} {τ τ' : Ty} {F : Nat} {r : Res} (ht : LT p [] [] x τ y τ') (h : Ev (.tm x []) F r) (hb : r.told.kind ≠ 4) : ∃ r', Ev (.tm y []) F r' ∧ r'.told = r.told := by
  have hrt := ev_rt h τ ⟨[], ⟨Nat.le_refl _, fun i v ρ h => by simp at h⟩, ht.left⟩
  have hw : Well r := fun o ho => by
    subst ho
    rcases hrt with rfl | ⟨n, b, rfl⟩
    · rfl
    · exact absurd rfl hb
  obtain ⟨r', h1, h2⟩ := ev_lt h hw _ _ _ ⟨[], [], y, [], p, rfl, ⟨Nat.le_refl _, Nat.le_refl _, ⟨fun _ => true, fun i v v' ρ ρ' h => by simp at h⟩, fun i v ρ h => by simp at h, fun i v ρ h => by simp at h⟩, ht⟩
  refine ⟨r', h1, ?_⟩
  cases r with
  | ok v F' =>
    obtain ⟨v', q, rfl, h3⟩ := h2
    exact h3.seen.symm
  | out o => rw [show r' = _ from h2]
end Go.Proofs.YtnflnbdlgdjfmaaDoor
