/-
  What has a type never gets stuck, and comes to what its type says. Conditions: those typed in each theorem.
-/
import Derived.Test.YtnflnbdlgdjfmaaDoorRunT
namespace Go.Proofs.YtnflnbdlgdjfmaaDoor
set_option linter.unusedVariables false
set_option linter.unusedSimpArgs false

/-- A term with its casts, and its type; the inmost first. -/
inductive HT : List Ty → Tm → Ty → Prop
  | ref {Γ : List Ty} {n : Int} {t f τ : Ty} (h0 : 0 ≤ n) (h : Γ[n.toNat]? = some τ) : HT Γ (.mk 1 n t f []) τ
  | lit {Γ : List Ty} {n : Int} {t f : Ty} (h : inB n = true) : HT Γ (.mk 2 n t f []) .num
  | says {Γ : List Ty} {n : Int} {t f : Ty} (h : n = 0 ∨ n = 1) : HT Γ (.mk 3 n t f []) .truth
  | add {Γ : List Ty} {n : Int} {t f : Ty} {a b : Tm} (ha : HT Γ a .num) (hb : HT Γ b .num) : HT Γ (.mk 4 n t f [a, b]) .num
  | less {Γ : List Ty} {n : Int} {t f : Ty} {a b : Tm} (ha : HT Γ a .num) (hb : HT Γ b .num) : HT Γ (.mk 5 n t f [a, b]) .truth
  | ife {Γ : List Ty} {n : Int} {t f τ : Ty} {a b c : Tm} (ha : HT Γ a .truth) (hb : HT Γ b τ) (hc : HT Γ c τ) : HT Γ (.mk 6 n t f [a, b, c]) τ
  | fn {Γ : List Ty} {n : Int} {t f τ : Ty} {b : Tm} (h : HT (t :: Γ) b τ) : HT Γ (.mk 7 n t f [b]) (.to t τ)
  | call {Γ : List Ty} {n : Int} {t f σ τ : Ty} {a b : Tm} (ha : HT Γ a (.to σ τ)) (hb : HT Γ b σ) : HT Γ (.mk 8 n t f [a, b]) τ
  | as {Γ : List Ty} {n : Int} {t f : Ty} {b : Tm} (h : HT Γ b t) : HT Γ (.mk 9 n t f [b]) t
  | cast {Γ : List Ty} {n : Int} {t f : Ty} {b : Tm} (ht : Right t) (hf : Right f) (hs : f.fits t = true) (h : HT Γ b f) : HT Γ (.mk 10 n t f [b]) t
theorem HT.wf {Γ : List Ty} {t : Tm} {τ : Ty} (h : HT Γ t τ) : WfT t := by
  induction h with
  | ref h0 h => exact .ref h0
  | lit h => exact .lit h
  | says h => exact .says h
  | add _ _ iha ihb => exact .bin (.inl rfl) iha ihb
  | less _ _ iha ihb => exact .bin (.inr (.inl rfl)) iha ihb
  | ife _ _ _ iha ihb ihc => exact .ife iha ihb ihc
  | fn _ ih => exact .fn ih
  | call _ _ iha ihb => exact .bin (.inr (.inr rfl)) iha ihb
  | as _ ih => exact .as ih
  | cast ht hf _ _ ih => exact .cast ht hf ih

/-- A type that says nothing of parts. -/
def Plain (g : Ty) : Prop := g = .num ∨ g = .truth ∨ g = .to .any .any
/-- A value of a type. -/
inductive VT : V → Ty → Prop
  | num {n : Int} : VT (.num n) .num
  | tru {n : Int} : VT (.tru n) .truth
  | clo {b : Tm} {env : List V} {Γ : List Ty} {σ τ : Ty} (hl : Γ.length ≤ env.length) (he : ∀ (i : Nat) (v : V) (ρ : Ty), env[i]? = some v → Γ[i]? = some ρ → VT v ρ) (hb : HT (σ :: Γ) b τ) : VT (.clo b env) (.to σ τ)
  | wrap {v : V} {f0 f1 t0 t1 : Ty} {at' : Int} {back : Bool} (h0 : Right f0) (h1 : Right f1) (h2 : Right t0) (h3 : Right t1) (g0 : f0.fits t0 = true) (g1 : f1.fits t1 = true) (hv : VT v (.to f0 f1)) : VT (.wrap v (.mk 3 [f0, f1]) (.mk 3 [t0, t1]) at' back) (.to t0 t1)
  | tag {v : V} {g : Ty} (hg : Plain g) (hv : VT v g) : VT (.tag v g) .any
theorem vt_any {v : V} (h : VT v .any) : ∃ u g, v = .tag u g ∧ Plain g ∧ VT u g := by
  cases h with
  | tag hg hv => exact ⟨_, _, rfl, hg, hv⟩
theorem vt_num {v : V} (h : VT v .num) : ∃ n, v = .num n := by
  cases h with
  | num => exact ⟨_, rfl⟩
theorem vt_truth {v : V} (h : VT v .truth) : ∃ n, v = .tru n := by
  cases h with
  | tru => exact ⟨_, rfl⟩

theorem fits_comm : ∀ {a b : Ty}, a.fits b = b.fits a := fun {a} => Ty.ind (p := fun a => ∀ {b : Ty}, a.fits b = b.fits a) (fun k l ih b => by
  obtain ⟨k', l'⟩ := b
  have hL : ∀ (l m : List Ty), (∀ t ∈ l, ∀ {b : Ty}, t.fits b = b.fits t) → fitsL l m = fitsL m l := by
    intro l
    induction l with
    | nil => intro m _; cases m <;> simp [fitsL]
    | cons a l ihl =>
      intro m h
      cases m with
      | nil => simp [fitsL]
      | cons b m => simp only [fitsL]; rw [h a (List.mem_cons_self ..), ihl m fun t ht => h t (List.mem_cons_of_mem _ ht)]
  simp only [Ty.fits]
  rw [hL l l' ih, show (k == k') = (k' == k) from Bool.beq_comm]
  cases (k == 0) <;> cases (k' == 0) <;> rfl) a
theorem fits_to {a b c d : Ty} : (Ty.mk 3 [a, b]).fits (.mk 3 [c, d]) = (a.fits c && b.fits d) := by simp [Ty.fits, fitsL]
theorem fits_any (a : Ty) : a.fits .any = true := by cases a; simp [Ty.any, Ty.fits]
theorem any_fits (a : Ty) : Ty.any.fits a = true := by rw [fits_comm]; exact fits_any a
theorem ground_fn {a b : Ty} : (Ty.mk 3 [a, b]).ground = .mk 3 [.any, .any] := rfl

theorem castV_vt {v : V} {f t : Ty} {at' : Int} {back : Bool} (hv : VT v f) (hf : Right f) (ht : Right t) (hs : f.fits t = true) :
    (∃ u, castV v f t at' back = .inl u ∧ VT u t) ∨ castV v f t at' back = .inr (.blame at' back) := by
  unfold castV
  by_cases h1 : f.same t = true
  · rw [if_pos h1]; have := same_eq h1; subst this; exact .inl ⟨v, rfl, hv⟩
  rw [if_neg h1]
  cases hf with
  | fn ha hb =>
    rename_i f0 f1
    cases ht with
    | fn hc hd =>
      rw [if_pos (by rfl)]
      rw [fits_to, Bool.and_eq_true] at hs
      exact .inl ⟨_, rfl, .wrap ha hb hc hd hs.1 hs.2 hv⟩
    | base hk =>
      rcases hk with rfl | rfl | rfl
      · rw [if_neg (by simp), if_pos (by rfl)]
        refine .inl ⟨_, rfl, .tag (.inr (.inr rfl)) ?_⟩
        rw [ground_fn]
        split
        · rename_i h; have := same_eq h; rw [← this]; exact hv
        · exact .wrap ha hb .any .any (fits_any _) (fits_any _) hv
      · simp [Ty.fits] at hs
      · simp [Ty.fits] at hs
  | base hk =>
    cases ht with
    | fn hc hd =>
      rcases hk with rfl | rfl | rfl
      · rw [if_neg (by simp), if_neg (by simp), if_pos (by rfl)]
        obtain ⟨u, g, rfl, hg, hu⟩ := vt_any hv
        dsimp only
        rw [ground_fn]
        split
        · rename_i h
          have := same_eq h
          subst this
          split
          · rename_i h; have := same_eq h; rw [← this]; exact .inl ⟨_, rfl, hu⟩
          · rw [if_pos (by rfl)]
            exact .inl ⟨_, rfl, .wrap .any .any hc hd (any_fits _) (any_fits _) hu⟩
        · exact .inr rfl
      · simp [Ty.fits] at hs
      · simp [Ty.fits] at hs
    | base hk' =>
      rename_i k k'
      by_cases h0 : k' = 0
      · subst h0
        rcases hk with rfl | rfl | rfl
        · exact absurd rfl h1
        · rw [if_neg (by simp), if_pos (by rfl)]
          refine .inl ⟨_, rfl, .tag (.inl rfl) ?_⟩
          rw [if_pos (by decide)]; exact hv
        · rw [if_neg (by simp), if_pos (by rfl)]
          refine .inl ⟨_, rfl, .tag (.inr (.inl rfl)) ?_⟩
          rw [if_pos (by decide)]; exact hv
      · rw [if_neg (by simp; omega), if_neg (by simpa using h0)]
        by_cases hk0 : k = 0
        · subst hk0
          rw [if_pos (by rfl)]
          obtain ⟨u, g, rfl, hg, hu⟩ := vt_any hv
          dsimp only
          have e : (Ty.mk k' []).ground = .mk k' [] := right_base (.base hk') (by simp; omega)
          rw [e]
          split
          · rename_i h
            have := same_eq h
            subst this
            rw [if_pos (same_refl _)]
            exact .inl ⟨_, rfl, hu⟩
          · exact .inr rfl
        · exfalso
          simp [Ty.fits, fitsL, h0, hk0] at hs
          subst hs
          exact h1 (same_refl _)

/-- What has a type, in a scope of such. -/
def EnvT (env : List V) (Γ : List Ty) : Prop := Γ.length ≤ env.length ∧ ∀ (i : Nat) (v : V) (ρ : Ty), env[i]? = some v → Γ[i]? = some ρ → VT v ρ
theorem EnvT.cons {env : List V} {Γ : List Ty} {v : V} {τ : Ty} (h : EnvT env Γ) (hv : VT v τ) : EnvT (v :: env) (τ :: Γ) :=
  ⟨by simpa using h.1, fun i u ρ h1 h2 => by
    cases i with
    | zero => simp at h1 h2; subst h1; subst h2; exact hv
    | succ i => exact h.2 i u ρ (by simpa using h1) (by simpa using h2)⟩
def CT : Cmd → Ty → Prop
  | .tm t env, τ => ∃ Γ, EnvT env Γ ∧ HT Γ t τ
  | .ap f x, τ => ∃ σ, VT f (.to σ τ) ∧ VT x σ
def RT : Res → Ty → Prop
  | .ok v _, τ => VT v τ
  | .out o, _ => o = .fuel ∨ ∃ n b, o = .blame n b
theorem castR_rt {v : V} {f t : Ty} {at' : Int} {back : Bool} {F : Nat} (hv : VT v f) (hf : Right f) (ht : Right t) (hs : f.fits t = true) : RT (castR v f t at' back F) t := by
  unfold castR
  rcases castV_vt (at' := at') (back := back) hv hf ht hs with ⟨u, h1, h2⟩ | h1
  · rw [h1]; exact h2
  · rw [h1]; exact .inr ⟨_, _, rfl⟩
theorem ev_rt {c : Cmd} {F : Nat} {r : Res} (h : Ev c F r) : ∀ τ, CT c τ → RT r τ := by
  induction h with
  | ref hv => rintro τ ⟨Γ, he, ht⟩; cases ht with | ref h0 h => exact he.2 _ _ _ hv h
  | refS hv =>
    rintro τ ⟨Γ, he, ht⟩
    cases ht with
    | ref h0 h =>
      have h1 := (List.getElem?_eq_some_iff.1 h).1
      have h2 := List.getElem?_eq_none_iff.1 hv
      have := he.1
      omega
  | lit => rintro τ ⟨Γ, he, ht⟩; cases ht; exact .num
  | says => rintro τ ⟨Γ, he, ht⟩; cases ht; exact .tru
  | fn => rintro τ ⟨Γ, he, ht⟩; cases ht with | fn h => exact .clo he.1 he.2 h
  | as _ ih => rintro τ ⟨Γ, he, ht⟩; cases ht with | as h => exact ih _ ⟨Γ, he, h⟩
  | castO _ ih => rintro τ ⟨Γ, he, ht⟩; cases ht with | cast _ _ _ h => (have := ih _ ⟨Γ, he, h⟩; exact this)
  | cast _ ih => rintro τ ⟨Γ, he, ht⟩; cases ht with | cast ht hf hs h => exact castR_rt (ih _ ⟨Γ, he, h⟩) hf ht hs
  | ifO _ ih =>
    rintro τ ⟨Γ, he, ht⟩
    cases ht with
    | ife ha _ _ => exact ih .truth ⟨Γ, he, ha⟩
  | ifS _ hv ih =>
    rintro τ ⟨Γ, he, ht⟩
    cases ht with
    | ife ha _ _ =>
      obtain ⟨n, rfl⟩ := vt_truth (ih .truth ⟨Γ, he, ha⟩)
      exact absurd rfl (hv n)
  | ifT _ _ ih1 ih2 => rintro τ ⟨Γ, he, ht⟩; cases ht with | ife _ hb _ => exact ih2 _ ⟨Γ, he, hb⟩
  | ifF _ _ ih1 ih2 => rintro τ ⟨Γ, he, ht⟩; cases ht with | ife _ _ hc => exact ih2 _ ⟨Γ, he, hc⟩
  | binO hk _ ih =>
    rintro τ ⟨Γ, he, ht⟩
    cases ht with
    | add ha _ => exact ih .num ⟨Γ, he, ha⟩
    | less ha _ => exact ih .num ⟨Γ, he, ha⟩
    | call ha _ => (have := ih _ ⟨Γ, he, ha⟩; exact this)
  | binP hk _ _ ih1 ih2 =>
    rintro τ ⟨Γ, he, ht⟩
    cases ht with
    | add _ hb => exact ih2 .num ⟨Γ, he, hb⟩
    | less _ hb => exact ih2 .num ⟨Γ, he, hb⟩
    | call _ hb => (have := ih2 _ ⟨Γ, he, hb⟩; exact this)
  | twoV hk _ _ h2 ih1 ih2 =>
    rintro τ ⟨Γ, he, ht⟩
    cases ht with
    | add ha hb =>
      obtain ⟨n, rfl⟩ := vt_num (ih1 .num ⟨Γ, he, ha⟩)
      obtain ⟨m, rfl⟩ := vt_num (ih2 .num ⟨Γ, he, hb⟩)
      simp only [twoV] at h2
      split at h2
      · cases h2; exact .num
      · cases h2
    | less ha hb =>
      obtain ⟨n, rfl⟩ := vt_num (ih1 .num ⟨Γ, he, ha⟩)
      obtain ⟨m, rfl⟩ := vt_num (ih2 .num ⟨Γ, he, hb⟩)
      simp only [twoV] at h2
      split at h2
      · cases h2; exact .tru
      · cases h2
    | call _ _ => omega
  | twoO hk _ _ h2 ih1 ih2 =>
    rintro τ ⟨Γ, he, ht⟩
    cases ht with
    | add ha hb =>
      obtain ⟨n, rfl⟩ := vt_num (ih1 .num ⟨Γ, he, ha⟩)
      obtain ⟨m, rfl⟩ := vt_num (ih2 .num ⟨Γ, he, hb⟩)
      simp only [twoV] at h2
      split at h2 <;> cases h2
    | less ha hb =>
      obtain ⟨n, rfl⟩ := vt_num (ih1 .num ⟨Γ, he, ha⟩)
      obtain ⟨m, rfl⟩ := vt_num (ih2 .num ⟨Γ, he, hb⟩)
      simp only [twoV] at h2
      split at h2 <;> cases h2
    | call _ _ => omega
  | call _ _ _ ih1 ih2 ih3 => rintro τ ⟨Γ, he, ht⟩; cases ht with | call ha hb => exact ih3 τ ⟨_, ih1 _ ⟨Γ, he, ha⟩, ih2 _ ⟨Γ, he, hb⟩⟩
  | clo0 => rintro τ _; exact .inl rfl
  | clo _ ih => rintro τ ⟨σ, hf, hx⟩; cases hf with | clo hl he hb => exact ih _ ⟨_, EnvT.cons ⟨hl, he⟩ hx, hb⟩
  | wrapO hc =>
    rintro τ ⟨σ, hf, hx⟩
    cases hf with
    | wrap h0 h1 h2 h3 g0 g1 hv =>
      rcases castV_vt hx h2 h0 (fits_comm ▸ g0) with ⟨u, h4, _⟩ | h4
      · rw [hc] at h4; cases h4
      · rw [hc] at h4; cases h4; exact .inr ⟨_, _, rfl⟩
  | wrapP hc _ ih =>
    rintro τ ⟨σ, hf, hx⟩
    cases hf with
    | wrap h0 h1 h2 h3 g0 g1 hv =>
      rcases castV_vt hx h2 h0 (fits_comm ▸ g0) with ⟨u, h4, h5⟩ | h4
      · rw [hc] at h4; cases h4; (have := ih _ ⟨_, hv, h5⟩; exact this)
      · rw [hc] at h4; cases h4
  | wrap hc _ ih =>
    rintro τ ⟨σ, hf, hx⟩
    cases hf with
    | wrap h0 h1 h2 h3 g0 g1 hv =>
      rcases castV_vt hx h2 h0 (fits_comm ▸ g0) with ⟨u, h4, h5⟩ | h4
      · rw [hc] at h4; cases h4; exact castR_rt (ih _ ⟨_, hv, h5⟩) h1 h3 g1
      · rw [hc] at h4; cases h4
  | apN => rintro τ ⟨σ, hf, hx⟩; cases hf
  | apT => rintro τ ⟨σ, hf, hx⟩; cases hf
  | apG => rintro τ ⟨σ, hf, hx⟩; cases hf
theorem seen_kind {v : V} {τ : Ty} (h : VT v τ) : 1 ≤ v.seen.kind ∧ v.seen.kind ≤ 3 ∧ (τ.k ≠ 0 → v.seen.kind = τ.k) := by
  induction h with
  | num => exact ⟨by simp [V.seen], by simp [V.seen], fun _ => rfl⟩
  | tru => exact ⟨by simp [V.seen], by simp [V.seen], fun _ => rfl⟩
  | clo _ _ _ _ => exact ⟨by simp [V.seen], by simp [V.seen], fun _ => rfl⟩
  | wrap _ _ _ _ _ _ _ _ => exact ⟨by simp [V.seen], by simp [V.seen], fun _ => rfl⟩
  | tag _ _ ih => exact ⟨ih.1, ih.2.1, fun h => absurd rfl h⟩
/-- WHAT HAS A TYPE NEVER GETS STUCK. -/
theorem never {t : Tm} {τ : Ty} {F : Nat} {r : Res} (ht : HT [] t τ) (h : Ev (.tm t []) F r) : 1 ≤ r.told.kind ∧ r.told.kind < 6 ∧ (τ.k = 0 ∨ 3 < r.told.kind ∨ r.told.kind = τ.k) := by
  have := ev_rt h τ ⟨[], ⟨Nat.le_refl _, fun i v ρ h => by simp at h⟩, ht⟩
  cases r with
  | ok v F =>
    obtain ⟨h1, h2, h3⟩ := seen_kind this
    refine ⟨h1, Int.lt_of_le_of_lt h2 (by decide), ?_⟩
    by_cases hk : τ.k = 0
    · exact .inl hk
    · exact .inr (.inr (h3 hk))
  | out o =>
    rcases this with rfl | ⟨n, b, rfl⟩ <;> exact ⟨by simp [Res.told, Out.fuel, Out.blame], by simp [Res.told, Out.fuel, Out.blame], .inr (.inl (by simp [Res.told, Out.fuel, Out.blame]))⟩
end Go.Proofs.YtnflnbdlgdjfmaaDoor
