/-
  Without casts and types all is as with them, as long as nobody is blamed. Conditions: those typed in each theorem.
-/
import Derived.Test.YtnflnbdlgdjfmaaDoorRunB
import Derived.Test.YtnflnbdlgdjfmaaDoorChkD
namespace Go.Proofs.YtnflnbdlgdjfmaaDoor
set_option linter.unusedVariables false
set_option linter.unusedSimpArgs false

/-- A value, and the same without casts. -/
inductive ER : V → V → Prop
  | num {n : Int} : ER (.num n) (.num n)
  | tru {n : Int} : ER (.tru n) (.tru n)
  | clo {b : Tm} {env env' : List V} (hb : WfT b) (hl : env.length = env'.length) (he : ∀ (i : Nat) (v v' : V), env[i]? = some v → env'[i]? = some v' → ER v v') : ER (.clo b env) (.clo (eraseT b) env')
  | wrap {v v' : V} {f t : Ty} {at' : Int} {back : Bool} (h : ER v v') : ER (.wrap v f t at' back) v'
  | tag {v v' : V} {g : Ty} (h : ER v v') : ER (.tag v g) v'
def EE (env env' : List V) : Prop := env.length = env'.length ∧ ∀ (i : Nat) (v v' : V), env[i]? = some v → env'[i]? = some v' → ER v v'
theorem EE.cons {env env' : List V} {v v' : V} (h : EE env env') (hv : ER v v') : EE (v :: env) (v' :: env') :=
  ⟨by simp [h.1], fun i u u' h1 h2 => by
    cases i with
    | zero => simp at h1 h2; subst h1; subst h2; exact hv
    | succ i => exact h.2 i u u' (by simpa using h1) (by simpa using h2)⟩
theorem castV_er {v v' u : V} {f t : Ty} {n : Int} {b : Bool} (h : castV v f t n b = .inl u) (hv : ER v v') : ER u v' := by
  unfold castV at h
  split at h
  · cases h; exact hv
  split at h
  · cases h; exact .wrap hv
  split at h
  · cases h
    refine .tag ?_
    split
    · exact hv
    · exact .wrap hv
  split at h
  · split at h
    · cases hv with
      | tag hv =>
      split at h
      · split at h
        · cases h; exact hv
        · split at h
          · cases h; exact .wrap hv
          · cases h
      · cases h
    · cases h
  · cases h
theorem seen_er {v v' : V} (h : ER v v') : ∀ {τ : Ty}, VT v τ → v.seen = v'.seen ∧ (∀ a b, τ = .to a b → v'.seen = ⟨3, 0, false⟩) := by
  induction h with
  | num => intro τ ht; cases ht; exact ⟨rfl, fun a b h => by cases h⟩
  | tru => intro τ ht; cases ht; exact ⟨rfl, fun a b h => by cases h⟩
  | clo _ _ _ _ => intro τ ht; exact ⟨rfl, fun a b h => rfl⟩
  | wrap _ ih =>
    intro τ ht
    cases ht with
    | wrap _ _ _ _ _ _ hv =>
      have := (ih hv).2 _ _ rfl
      exact ⟨by rw [this]; rfl, fun a b _ => this⟩
  | tag _ ih =>
    intro τ ht
    cases ht with
    | tag hg hv => exact ⟨(ih hv).1, fun a b h => by cases h⟩

def EC : Cmd → Cmd → Prop
  | .tm t env, c => ∃ env', EE env env' ∧ WfT t ∧ c = .tm (eraseT t) env'
  | .ap f x, c => ∃ f' x', ER f f' ∧ ER x x' ∧ c = .ap f' x'
def ERR : Res → Res → Prop
  | .ok v F, r' => ∃ v', r' = .ok v' F ∧ ER v v'
  | .out o, r' => r' = .out o
/-- Nobody is blamed, nothing stuck. -/
def Well (r : Res) : Prop := ∀ o, r = .out o → o = .fuel
theorem well_ok {v : V} {F : Nat} : Well (.ok v F) := fun o h => by cases h
theorem well_cast {v : V} {f t : Ty} {n : Int} {b : Bool} {F : Nat} (h : Well (castR v f t n b F)) : ∃ u, castV v f t n b = .inl u ∧ castR v f t n b F = .ok u F := by
  unfold castR at *
  cases hc : castV v f t n b with
  | inl u => exact ⟨u, rfl, rfl⟩
  | inr o => rw [hc] at h; have := h o rfl; subst this; exact absurd hc castV_fuel
theorem erase_bin {k n : Int} {t f : Ty} {a b : Tm} (hk : k = 4 ∨ k = 5 ∨ k = 8) : eraseT (.mk k n t f [a, b]) = .mk k n .any .any [eraseT a, eraseT b] := by
  rw [erase_node (by omega) (by omega)]; rfl
theorem erase_if {n : Int} {t f : Ty} {a b c : Tm} : eraseT (.mk 6 n t f [a, b, c]) = .mk 6 n .any .any [eraseT a, eraseT b, eraseT c] := by
  rw [erase_node (by decide) (by decide)]; rfl
theorem not_stuck : ¬ Well (.out .stuck) := fun h => by have := h _ rfl; simp [Out.stuck, Out.fuel] at this
theorem WfT.bin_inv {k n : Int} {t f : Ty} {a b : Tm} (h : WfT (.mk k n t f [a, b])) : WfT a ∧ WfT b := by
  cases h with
  | bin _ ha hb => exact ⟨ha, hb⟩
theorem er_tru {v' : V} {n : Int} (h : ER (.tru n) v') : v' = .tru n := by cases h; rfl
theorem ev_er {c : Cmd} {F : Nat} {r : Res} (h : Ev c F r) : Well r → ∀ c', EC c c' → ∃ r', Ev c' F r' ∧ ERR r r' := by
  induction h with
  | ref hv =>
    rintro _ _ ⟨env', he, hw, rfl⟩
    have hlt := (List.getElem?_eq_some_iff.1 hv).1
    rw [he.1] at hlt
    have hv' := List.getElem?_eq_getElem hlt
    rw [erase_node (by decide) (by decide)]
    exact ⟨_, .ref hv', _, rfl, he.2 _ _ _ hv hv'⟩
  | refS hv => intro hw; exact absurd hw not_stuck
  | lit => rintro _ _ ⟨env', he, hw, rfl⟩; rw [erase_node (by decide) (by decide)]; exact ⟨_, .lit, _, rfl, .num⟩
  | says => rintro _ _ ⟨env', he, hw, rfl⟩; rw [erase_node (by decide) (by decide)]; exact ⟨_, .says, _, rfl, .tru⟩
  | fn =>
    rintro _ _ ⟨env', he, hw, rfl⟩
    rw [erase_node (by decide) (by decide)]
    cases hw with
    | fn hb => exact ⟨_, .fn, _, rfl, .clo hb he.1 he.2⟩
    | bin hk _ _ => omega
  | as _ ih =>
    rintro hr _ ⟨env', he, hw, rfl⟩
    cases hw with
    | as hb => rw [erase_as]; exact ih hr _ ⟨env', he, hb, rfl⟩
    | bin hk _ _ => omega
  | castO _ ih =>
    rintro hr _ ⟨env', he, hw, rfl⟩
    cases hw with
    | cast _ _ hb => rw [erase_cast]; exact ih hr _ ⟨env', he, hb, rfl⟩
    | bin hk _ _ => omega
  | cast _ ih =>
    rintro hr _ ⟨env', he, hw, rfl⟩
    cases hw with
    | cast _ _ hb =>
      rw [erase_cast]
      obtain ⟨u, h1, h2⟩ := well_cast hr
      obtain ⟨r', h3, v', rfl, h4⟩ := ih well_ok _ ⟨env', he, hb, rfl⟩
      exact ⟨_, h3, by rw [h2]; exact ⟨v', rfl, castV_er h1 h4⟩⟩
    | bin hk _ _ => omega
  | ifO _ ih =>
    rintro hr _ ⟨env', he, hw, rfl⟩
    cases hw with
    | ife ha hb hc =>
      rw [erase_if]
      obtain ⟨r', h3, h4⟩ := ih hr _ ⟨env', he, ha, rfl⟩
      have h4 : r' = _ := h4
      subst h4
      exact ⟨_, .ifO h3, rfl⟩
  | ifS _ hv ih => intro hw; exact absurd hw not_stuck
  | ifT _ _ ih1 ih2 =>
    rintro hr _ ⟨env', he, hw, rfl⟩
    cases hw with
    | ife ha hb hc =>
      rw [erase_if]
      obtain ⟨r', h3, v', rfl, h4⟩ := ih1 well_ok _ ⟨env', he, ha, rfl⟩
      obtain rfl := er_tru h4
      obtain ⟨r', h5, h6⟩ := ih2 hr _ ⟨env', he, hb, rfl⟩
      exact ⟨_, .ifT h3 h5, h6⟩
  | ifF _ _ ih1 ih2 =>
    rintro hr _ ⟨env', he, hw, rfl⟩
    cases hw with
    | ife ha hb hc =>
      rw [erase_if]
      obtain ⟨r', h3, v', rfl, h4⟩ := ih1 well_ok _ ⟨env', he, ha, rfl⟩
      obtain rfl := er_tru h4
      obtain ⟨r', h5, h6⟩ := ih2 hr _ ⟨env', he, hc, rfl⟩
      exact ⟨_, .ifF h3 h5, h6⟩
  | binO hk _ ih =>
    rintro hr _ ⟨env', he, hw, rfl⟩
    obtain ⟨ha, hb⟩ := hw.bin_inv
    rw [erase_bin hk]
    obtain ⟨r', h3, h4⟩ := ih hr _ ⟨env', he, ha, rfl⟩
    have h4 : r' = _ := h4
    subst h4
    exact ⟨_, .binO hk h3, rfl⟩
  | binP hk _ _ ih1 ih2 =>
    rintro hr _ ⟨env', he, hw, rfl⟩
    obtain ⟨ha, hb⟩ := hw.bin_inv
    rw [erase_bin hk]
    obtain ⟨r', h3, v', rfl, h4⟩ := ih1 well_ok _ ⟨env', he, ha, rfl⟩
    obtain ⟨r', h5, h6⟩ := ih2 hr _ ⟨env', he, hb, rfl⟩
    have h6 : r' = _ := h6
    subst h6
    exact ⟨_, .binP hk h3 h5, rfl⟩
  | twoV hk _ _ h2 ih1 ih2 =>
    rintro hr _ ⟨env', he, hw, rfl⟩
    obtain ⟨ha, hb⟩ := hw.bin_inv
    rw [erase_bin (hk.imp id .inl)]
    obtain ⟨r', h3, v', rfl, h4⟩ := ih1 well_ok _ ⟨env', he, ha, rfl⟩
    obtain ⟨r', h5, w', rfl, h6⟩ := ih2 well_ok _ ⟨env', he, hb, rfl⟩
    have h2' := h2
    unfold twoV at h2
    split at h2
    · cases h4; cases h6
      refine ⟨_, .twoV hk h3 h5 h2', _, rfl, ?_⟩
      split at h2
      · simp only [Option.some.injEq, Sum.inl.injEq] at h2
        subst h2
        split
        · exact .tru
        · exact .num
      · cases h2
    · cases h2
    · cases h2
  | twoO hk _ _ h2 ih1 ih2 => intro hw; rw [twoV_out h2] at hw; exact absurd hw not_stuck
  | call _ _ _ ih1 ih2 ih3 =>
    rintro hr _ ⟨env', he, hw, rfl⟩
    obtain ⟨ha, hb⟩ := hw.bin_inv
    rw [erase_bin (.inr (.inr rfl))]
    obtain ⟨r', h3, v', rfl, h4⟩ := ih1 well_ok _ ⟨env', he, ha, rfl⟩
    obtain ⟨r', h5, w', rfl, h6⟩ := ih2 well_ok _ ⟨env', he, hb, rfl⟩
    obtain ⟨r', h7, h8⟩ := ih3 hr _ ⟨v', w', h4, h6, rfl⟩
    exact ⟨_, .call h3 h5 h7, h8⟩
  | clo0 =>
    rintro hr _ ⟨f', x', hf, hx, rfl⟩
    cases hf with
    | clo hb hl he => exact ⟨_, .clo0, rfl⟩
  | clo _ ih =>
    rintro hr _ ⟨f', x', hf, hx, rfl⟩
    cases hf with
    | clo hb hl he =>
      obtain ⟨r', h3, h4⟩ := ih hr _ ⟨_, EE.cons ⟨hl, he⟩ hx, hb, rfl⟩
      exact ⟨_, .clo h3, h4⟩
  | wrapO hc =>
    rintro hr
    have := hr _ rfl
    subst this
    exact absurd hc castV_fuel
  | wrapP hc _ ih =>
    rintro hr _ ⟨f', x', hf, hx, rfl⟩
    cases hf with
    | wrap hf => exact ih hr _ ⟨f', x', hf, castV_er hc hx, rfl⟩
  | wrap hc _ ih =>
    rintro hr _ ⟨f', x', hf, hx, rfl⟩
    cases hf with
    | wrap hf =>
      obtain ⟨u, h1, h2⟩ := well_cast hr
      obtain ⟨r', h3, v', rfl, h4⟩ := ih well_ok _ ⟨f', x', hf, castV_er hc hx, rfl⟩
      exact ⟨_, h3, by rw [h2]; exact ⟨v', rfl, castV_er h1 h4⟩⟩
  | apN => intro hw; exact absurd hw not_stuck
  | apT => intro hw; exact absurd hw not_stuck
  | apG => intro hw; exact absurd hw not_stuck
/-- AS LONG AS NOBODY IS BLAMED TYPES CHANGE NOTHING. -/
theorem erased {t : Tm} {τ : Ty} {F : Nat} {r : Res} (ht : HT [] t τ) (h : Ev (.tm t []) F r) (hb : r.told.kind ≠ 4) : ∃ r', Ev (.tm (eraseT t) []) F r' ∧ r'.told = r.told := by
  have hrt := ev_rt h τ ⟨[], ⟨Nat.le_refl _, fun i v ρ h => by simp at h⟩, ht⟩
  have hw : Well r := fun o ho => by
    subst ho
    rcases hrt with rfl | ⟨n, b, rfl⟩
    · rfl
    · exact absurd rfl hb
  obtain ⟨r', h1, h2⟩ := ev_er h hw _ ⟨[], ⟨rfl, fun i v v' h => by simp at h⟩, ht.wf, rfl⟩
  refine ⟨r', h1, ?_⟩
  cases r with
  | ok v F' =>
    obtain ⟨v', rfl, h3⟩ := h2
    exact (seen_er h3 hrt).1.symm
  | out o => rw [show r' = _ from h2]
end Go.Proofs.YtnflnbdlgdjfmaaDoor
