/-
  The stack of a checked term never holds more than 10^11 frames. Conditions: those typed in each theorem.
  The stack of a term without casts; how many casts and terms there are in what the checker answers. Conditions: those typed in each theorem.
  What stays so while the machine steps: the numbers are ints. Conditions: those typed in each theorem.
  Who is blamed is one of the casts; what all casts keep. Conditions: those typed in each theorem.
  Without casts and types all is as with them, as long as nobody is blamed. Conditions: those typed in each theorem.
  Plain laws of what is blamed, and of terms without casts. Conditions: those typed in each theorem.
-/
import Derived.Test.YtnflnbdlgdjfmabDoorM1
namespace Go.Proofs.YtnflnbdlgdjfmabDoor
set_option linter.unusedVariables false
set_option linter.unusedSimpArgs false
structure EnvD (W : Nat) (env : List V) (Γ : List Ty) : Prop where
  len : Γ.length ≤ env.length
  at' : ∀ (i : Nat) (v : V) (ρ : Ty), env[i]? = some v → Γ[i]? = some ρ → VD W v ρ
  sm : ∀ (i : Nat) (v : V) (ρ : Ty), env[i]? = some v → Γ[i]? = some ρ → v.sw ≤ W ∧ v.mm ≤ NC
theorem EnvD.mono {W W' : Nat} {env : List V} {Γ : List Ty} (h : EnvD W env Γ) (hw : W ≤ W') : EnvD W' env Γ :=
  ⟨h.len, fun i v ρ h1 h2 => (h.at' i v ρ h1 h2).mono hw, fun i v ρ h1 h2 => ⟨Nat.le_trans (h.sm i v ρ h1 h2).1 hw, (h.sm i v ρ h1 h2).2⟩⟩
theorem EnvD.cons {W : Nat} {env : List V} {Γ : List Ty} {x : V} {σ : Ty} (h : EnvD W env Γ) (hx : VD W x σ) (hs : x.sw ≤ W) (hm : x.mm ≤ NC) : EnvD W (x :: env) (σ :: Γ) :=
  ⟨by simpa using h.len, fun i v ρ h1 h2 => by
    cases i with
    | zero => simp at h1 h2; subst h1; subst h2; exact hx
    | succ i => exact h.at' i v ρ (by simpa using h1) (by simpa using h2), fun i v ρ h1 h2 => by
    cases i with
    | zero => simp at h1 h2; subst h1; subst h2; exact ⟨hs, hm⟩
    | succ i => exact h.sm i v ρ (by simpa using h1) (by simpa using h2)⟩
theorem cc_node {k n : Int} {t f : Ty} {l : List Tm} (hk : k ≠ 10) : cc (.mk k n t f l) = (sitesL l).length := by
  unfold cc; rw [sitesT_eta]; simp [ownSite, hk]
theorem cc_cast {n : Int} {t f : Ty} {b : Tm} : cc (.mk 10 n t f [b]) = cc b + 1 := by
  unfold cc; rw [sitesT_eta]; simp [ownSite, sitesL]
theorem cc1 {k n : Int} {t f : Ty} {a : Tm} (hk : k ≠ 10) : cc (.mk k n t f [a]) = cc a := by rw [cc_node hk]; simp [sitesL, cc]
theorem cc2 {k n : Int} {t f : Ty} {a b : Tm} (hk : k ≠ 10) : cc (.mk k n t f [a, b]) = cc a + cc b := by rw [cc_node hk]; simp [sitesL, cc]
theorem cc3 {k n : Int} {t f : Ty} {a b c : Tm} (hk : k ≠ 10) : cc (.mk k n t f [a, b, c]) = cc a + cc b + cc c := by rw [cc_node hk]; simp [sitesL, cc]; omega
theorem nd1 {k n : Int} {t f : Ty} {a : Tm} : (Tm.mk k n t f [a]).nodes = 1 + a.nodes := by simp [Tm.nodes, nodesL]
theorem nd2 {k n : Int} {t f : Ty} {a b : Tm} : (Tm.mk k n t f [a, b]).nodes = 1 + (a.nodes + b.nodes) := by simp [Tm.nodes, nodesL]
theorem nd3 {k n : Int} {t f : Ty} {a b c : Tm} : (Tm.mk k n t f [a, b, c]).nodes = 1 + (a.nodes + (b.nodes + c.nodes)) := by simp [Tm.nodes, nodesL]
variable {G : Nat}
def SB (G : Nat) : Nat := 130 + G
/-- What comes of a term. -/
structure OkT (W' : Nat) (m : Nat) (v : V) (τ : Ty) : Prop where
  vd : VD W' v τ
  sw : v.sw ≤ W'
  nc : v.mm ≤ NC
  mm : 4 < τ.deep → v.mm ≤ m
theorem OkT.mono {W W' m m' : Nat} {v : V} {τ : Ty} (h : OkT W m v τ) (hw : W ≤ W') (hm : m ≤ m') : OkT W' m' v τ := ⟨h.vd.mono hw, Nat.le_trans h.sw hw, h.nc, fun h1 => Nat.le_trans (h.mm h1) hm⟩
def ResT (W m F : Nat) (r : Res) (τ : Ty) : Prop := ∀ v F', r = .ok v F' → F' ≤ F ∧ OkT (gi (F - F') W) m v τ
def TB (G : Nat) (t : Tm) (env : List V) (F : Nat) (r : Res) (h : Nat) : Prop :=
  ∀ Γ τ W, EnvD W env Γ → HD Γ t τ → cc t ≤ NC → t.nodes ≤ 80 → gi F (W + cc t * w4) ≤ G → h ≤ t.nodes + (G + NC + 2) + F * SB G ∧ ResT (W + cc t * w4) (cc t) F r τ
def AB (G : Nat) (f x : V) (F : Nat) (r : Res) (h : Nat) : Prop :=
  ∀ σ τ X, VD X f (.mk 3 [σ, τ]) → VD X x σ → f.mm ≤ NC → x.mm ≤ NC → x.sw + f.da ≤ X → σ.deep ≤ 4 → (∀ F0, F = F0 + 1 → gi F0 (X + NC * w4) ≤ G) →
    h ≤ f.ly + 2 + F * SB G ∧ ∀ v F', r = .ok v F' → F' < F ∧ VD (gi (F - 1 - F') (X + NC * w4)) v τ ∧ v.sw ≤ gi (F - 1 - F') (X + NC * w4) + f.da ∧ v.mm ≤ NC ∧ (4 < τ.deep → v.mm ≤ f.mm)
def CB (G : Nat) : Cmd → Nat → Res → Nat → Prop
  | .tm t env => TB G t env
  | .ap f x => AB G f x
theorem resT_out {W m F : Nat} {o : Out} {τ : Ty} : ResT W m F (.out o) τ := fun v F' h => by cases h
theorem resT_ok {W m F F' : Nat} {v : V} {τ : Ty} (hF : F' ≤ F) (h : OkT (gi (F - F') W) m v τ) : ResT W m F (.ok v F') τ := fun v' F'' e => by cases e; exact ⟨hF, h⟩
/-- One behind the other. -/
theorem gi_two {F F' W Y Z : Nat} (hF : F' ≤ F) (h : W + Y ≤ Z) (hG : gi F Z ≤ G) : gi F' (gi (F - F') W + Y) ≤ G :=
  Nat.le_trans (gi_step F' (F - F') W Y) (by rw [show F' + (F - F') = F by omega]; exact Nat.le_trans (gi_mono h) hG)
theorem resT_two {F F' W Y Z m m' : Nat} {r : Res} {τ : Ty} (hF : F' ≤ F) (h : W + Y ≤ Z) (hm : m ≤ m') (hr : ResT (gi (F - F') W + Y) m F' r τ) : ResT Z m' F r τ := fun v F'' e => by
  obtain ⟨h1, h2⟩ := hr v F'' e
  refine ⟨by omega, h2.mono ?_ hm⟩
  have := gi_step (F' - F'') (F - F') W Y
  rw [show F' - F'' + (F - F') = F - F'' by omega] at this
  exact Nat.le_trans this (gi_mono h)
theorem fuel_le {F F' : Nat} (h : F' ≤ F) : F' * SB G ≤ F * SB G := Nat.mul_le_mul_right _ h
theorem okT_num {W m : Nat} {n : Int} : OkT W m (.num n) .num := ⟨.num, Nat.zero_le _, Nat.zero_le _, fun _ => Nat.zero_le _⟩
theorem okT_tru {W m : Nat} {n : Int} : OkT W m (.tru n) .truth := ⟨.tru, Nat.zero_le _, Nat.zero_le _, fun _ => Nat.zero_le _⟩
theorem wq_le {f t : Ty} (h : Qc f t) : wq f t ≤ w4 := by
  unfold wq
  split
  · rename_i h1; exact wt_le4 (by have := h.shallow h1; omega)
  · omega
theorem castR_b {v : V} {f t : Ty} {n : Int} {back : Bool} {F F' W m : Nat} (hF : F' ≤ F) (hv : OkT (gi (F - F') W) m v f) (hf : Right f) (ht : Right t) (hs : f.fits t = true) (hq : Qc f t) (hm : m + 1 ≤ NC) : ResT (W + w4) (m + 1) F (castR v f t n back F') t := by
  unfold castR
  rcases castV_vd (at' := n) (back := back) hv.vd hf ht hs (fun _ => hq) with ⟨u, hu, h1, h2, h3⟩ | hu
  · rw [hu]
    have hge := gi_add (F - F') W w4
    have hw := wq_le hq
    refine resT_ok hF ⟨h1.mono (gi_mono (by omega)), ?_, ?_, fun hd => ?_⟩
    · have := hv.sw; omega
    · unfold dq at h3
      split at h3
      · have := hv.nc; omega
      · rename_i hd; have := hv.mm (by omega); omega
    · have hfd : 4 < f.deep := Nat.lt_of_not_le fun h => by have := hq.shallow h; omega
      have := hv.mm hfd
      unfold dq at h3
      split at h3 <;> omega
  · rw [hu]; exact resT_out
theorem env_next {W Y d m : Nat} {v : V} {τ : Ty} {env : List V} {Γ : List Ty} (hE : EnvD W env Γ) (h : OkT (gi d (W + Y)) m v τ) : EnvD (gi d (W + Y)) env Γ := hE.mono (Nat.le_trans (Nat.le_add_right W Y) (gi_ge d (W + Y)))
theorem gi_three {F F1 F2 k W Y Z : Nat} (h1 : F1 ≤ F) (h2 : F2 ≤ F1) (hk : k ≤ F2) : gi (F2 - k) (gi (F1 - F2) (gi (F - F1) (W + Y) + Z)) ≤ gi (F - k) (W + (Y + Z)) := by
  rw [gi_gi, show F2 - k + (F1 - F2) = F1 - k by omega]
  have := gi_step (F1 - k) (F - F1) (W + Y) Z
  rw [show F1 - k + (F - F1) = F - k by omega, Nat.add_assoc] at this
  exact this
theorem call_next {F F1 F2 W Y Z m m' : Nat} {v w : V} {τ τ' : Ty} (h1 : F1 ≤ F) (h2 : F2 ≤ F1) (hv : OkT (gi (F - F1) (W + Y)) m v τ) (hw : OkT (gi (F1 - F2) (gi (F - F1) (W + Y) + Z)) m' w τ') :
    VD (gi (F1 - F2) (gi (F - F1) (W + Y) + Z)) v τ ∧ VD (gi (F1 - F2) (gi (F - F1) (W + Y) + Z)) w τ' ∧ v.sw ≤ gi (F1 - F2) (gi (F - F1) (W + Y) + Z) ∧ w.sw ≤ gi (F1 - F2) (gi (F - F1) (W + Y) + Z) ∧ ∀ k, k ≤ F2 → gi (F2 - k) (gi (F1 - F2) (gi (F - F1) (W + Y) + Z)) ≤ gi (F - k) (W + (Y + Z)) := by
  have hge : gi (F - F1) (W + Y) ≤ gi (F1 - F2) (gi (F - F1) (W + Y) + Z) := Nat.le_trans (Nat.le_add_right _ _) (gi_ge _ _)
  exact ⟨hv.vd.mono hge, hw.vd, Nat.le_trans hv.sw hge, hw.sw, fun k hk => gi_three h1 h2 hk⟩
theorem da_grow {v : V} {W : Nat} (h : v.sw ≤ W) (hm : v.mm ≤ NC) : v.da ≤ W / KW + NC * w4 := by
  have h1 := da_le v
  have h2 : KW * w4 * v.mm ≤ KW * (NC * w4) := by rw [Nat.mul_assoc]; exact Nat.mul_le_mul_left _ (by rw [Nat.mul_comm]; exact Nat.mul_le_mul_right _ hm)
  have h3 : v.da ≤ (W + KW * (NC * w4)) / KW := (Nat.le_div_iff_mul_le (by decide)).2 (by rw [Nat.mul_comm]; omega)
  rwa [Nat.add_mul_div_left _ _ (by decide)] at h3
theorem gi_succ {F k : Nat} (h : k < F) (W : Nat) : gi (F - 1 - k) (grow W) = gi (F - k) W := by
  rw [show F - k = (F - 1 - k) + 1 by omega]; rfl
theorem call_end {F2 F' W2 : Nat} {v u : V} {τ : Ty} (hF : F' < F2) (hda : v.da ≤ W2 / KW + NC * w4) (g2 : VD (gi (F2 - 1 - F') (W2 + v.da + NC * w4)) u τ) (g3 : u.sw ≤ gi (F2 - 1 - F') (W2 + v.da + NC * w4) + v.da) :
    VD (gi (F2 - F') W2) u τ ∧ u.sw ≤ gi (F2 - F') W2 := by
  have h1 := gi_add (F2 - 1 - F') (W2 + v.da + NC * w4) v.da
  have h2 : gi (F2 - 1 - F') (W2 + v.da + NC * w4 + v.da) ≤ gi (F2 - F') W2 := by
    rw [← gi_succ hF]
    exact gi_mono (by unfold grow; omega)
  exact ⟨g2.mono (by omega), by omega⟩
theorem res_mm {f1 t1 : Ty} {z v u d N : Nat} (hq : Qc f1 t1) (s3 : z ≤ v + dq f1) (hv : v ≤ N) (hu : 4 < f1.deep → v ≤ u) (hN : u + d ≤ N) (hd : dq f1 ≤ d) : z ≤ N ∧ (4 < t1.deep → z ≤ u + d) := by
  refine ⟨?_, fun h => ?_⟩
  · unfold dq at s3 hd
    split at s3
    · omega
    · rename_i h1; have := hu (by omega); rw [if_neg h1] at hd; omega
  · have := hu (Nat.lt_of_not_le fun h1 => by have := hq.shallow h1; omega)
    omega
theorem ev_b {c : Cmd} {F : Nat} {r : Res} {h : Nat} (he : EvN c F r h) : CB G c F r h := by
  induction he with
  | ref hv =>
    intro Γ τ W hE ht hc hn hg
    cases ht with
    | ref h0 h hs =>
      refine ⟨by omega, resT_ok (Nat.le_refl _) ?_⟩
      rw [Nat.sub_self]
      exact ⟨(hE.at' _ _ _ hv h).mono (Nat.le_add_right _ _), Nat.le_trans (hE.sm _ _ _ hv h).1 (Nat.le_add_right _ _), (hE.sm _ _ _ hv h).2, fun h => by omega⟩
  | refS hv => intro Γ τ W hE ht hc hn hg; exact ⟨by omega, resT_out⟩
  | lit => intro Γ τ W hE ht hc hn hg; cases ht; exact ⟨by omega, resT_ok (Nat.le_refl _) okT_num⟩
  | says => intro Γ τ W hE ht hc hn hg; cases ht; exact ⟨by omega, resT_ok (Nat.le_refl _) okT_tru⟩
  | fn =>
    intro Γ τ W hE ht hc hn hg
    cases ht with
    | fn ht hd h =>
      rw [cc1 (by decide)] at *
      rw [nd1] at *
      refine ⟨by omega, resT_ok (Nat.le_refl _) ?_⟩
      rw [Nat.sub_self]
      exact ⟨.clo hE.len ht hd (fun i v ρ h1 h2 => (hE.at' i v ρ h1 h2).mono (Nat.le_add_right _ _)) (fun i v ρ h1 h2 => ⟨Nat.le_trans (hE.sm i v ρ h1 h2).1 (Nat.le_add_right _ _), (hE.sm i v ρ h1 h2).2⟩) h hc (by omega), Nat.zero_le _, hc, fun _ => Nat.le_refl _⟩
  | as _ ih =>
    intro Γ τ W hE ht hc hn hg
    cases ht with
    | as ht h =>
      rw [cc1 (by decide)] at *
      rw [nd1] at *
      obtain ⟨h1, h2⟩ := ih Γ _ W hE h hc (by omega) hg
      exact ⟨by omega, h2⟩
  | castO _ ih =>
    intro Γ τ W hE ht hc hn hg
    cases ht with
    | cast ht hf hs hq h =>
      rw [cc_cast] at *
      rw [nd1] at *
      obtain ⟨h1, h2⟩ := ih Γ _ W hE h (by omega) (by omega) (Nat.le_trans (gi_mono (by rw [Nat.add_mul]; omega)) hg)
      exact ⟨by omega, resT_out⟩
  | cast _ ih =>
    intro Γ τ W hE ht hc hn hg
    cases ht with
    | cast ht hf hs hq h =>
      rw [cc_cast] at *
      rw [nd1] at *
      obtain ⟨h1, h2⟩ := ih Γ _ W hE h (by omega) (by omega) (Nat.le_trans (gi_mono (by rw [Nat.add_mul]; omega)) hg)
      obtain ⟨h3, h4⟩ := h2 _ _ rfl
      refine ⟨by omega, ?_⟩
      rw [Nat.add_mul, Nat.one_mul, ← Nat.add_assoc]
      exact castR_b h3 h4 hf ht hs hq hc
  | ifO _ ih =>
    intro Γ τ W hE ht hc hn hg
    cases ht with
    | ife ha hb hc' =>
      rw [cc3 (by decide)] at *
      rw [nd3] at *
      obtain ⟨h1, h2⟩ := ih Γ _ W hE ha (by omega) (by omega) (Nat.le_trans (gi_mono (by rw [Nat.add_mul, Nat.add_mul]; omega)) hg)
      exact ⟨by omega, resT_out⟩
  | ifS _ hv ih =>
    intro Γ τ W hE ht hc hn hg
    cases ht with
    | ife ha hb hc' =>
      rw [cc3 (by decide)] at *
      rw [nd3] at *
      obtain ⟨h1, h2⟩ := ih Γ _ W hE ha (by omega) (by omega) (Nat.le_trans (gi_mono (by rw [Nat.add_mul, Nat.add_mul]; omega)) hg)
      exact ⟨by omega, resT_out⟩
  | ifT _ _ ih1 ih2 =>
    intro Γ τ W hE ht hc hn hg
    cases ht with
    | ife ha hb hc' =>
      rename_i a b c _ _ _ _ _ _ _ _ _ _
      rw [cc3 (by decide)] at *
      rw [nd3] at *
      rw [Nat.add_mul, Nat.add_mul] at *
      obtain ⟨h1, h2⟩ := ih1 Γ _ W hE ha (by omega) (by omega) (Nat.le_trans (gi_mono (by omega)) hg)
      obtain ⟨h3, h4⟩ := h2 _ _ rfl
      obtain ⟨h5, h6⟩ := ih2 Γ _ _ (env_next hE h4) hb (by omega) (by omega) (gi_two h3 (by omega) hg)
      have := fuel_le (G := G) h3
      exact ⟨by omega, resT_two h3 (by omega) (by omega) h6⟩
  | ifF _ _ ih1 ih2 =>
    intro Γ τ W hE ht hc hn hg
    cases ht with
    | ife ha hb hc' =>
      rename_i a b c _ _ _ _ _ _ _ _ _ _
      rw [cc3 (by decide)] at *
      rw [nd3] at *
      rw [Nat.add_mul, Nat.add_mul] at *
      obtain ⟨h1, h2⟩ := ih1 Γ _ W hE ha (by omega) (by omega) (Nat.le_trans (gi_mono (by omega)) hg)
      obtain ⟨h3, h4⟩ := h2 _ _ rfl
      obtain ⟨h5, h6⟩ := ih2 Γ _ _ (env_next hE h4) hc' (by omega) (by omega) (gi_two h3 (by omega) hg)
      have := fuel_le (G := G) h3
      exact ⟨by omega, resT_two h3 (by omega) (by omega) h6⟩
  | binO hk _ ih =>
    intro Γ τ W hE ht hc hn hg
    rw [cc2 (by omega)] at *
    rw [nd2] at *
    rw [Nat.add_mul] at *
    have key : ∀ τ', HD Γ _ τ' → _ := fun τ' ha => ih Γ τ' W hE ha (by omega) (by omega) (Nat.le_trans (gi_mono (by omega)) hg)
    cases ht with
    | add ha hb => have := (key _ ha).1; exact ⟨by omega, resT_out⟩
    | less ha hb => have := (key _ ha).1; exact ⟨by omega, resT_out⟩
    | call hs ha hb => have := (key _ ha).1; exact ⟨by omega, resT_out⟩
  | binP hk _ _ ih1 ih2 =>
    intro Γ τ W hE ht hc hn hg
    rw [cc2 (by omega)] at *
    rw [nd2] at *
    rw [Nat.add_mul] at *
    have key : ∀ τ1 τ2, HD Γ _ τ1 → HD Γ _ τ2 → _ := fun τ1 τ2 ha hb => by
      obtain ⟨h1, h2⟩ := ih1 Γ τ1 W hE ha (by omega) (by omega) (Nat.le_trans (gi_mono (by omega)) hg)
      obtain ⟨h3, h4⟩ := h2 _ _ rfl
      obtain ⟨h5, h6⟩ := ih2 Γ τ2 _ (env_next hE h4) hb (by omega) (by omega) (gi_two h3 (by omega) hg)
      have := fuel_le (G := G) h3
      exact And.intro h1 (Nat.le_trans h5 (Nat.add_le_add_left this _))
    cases ht with
    | add ha hb => have := key _ _ ha hb; exact ⟨by omega, resT_out⟩
    | less ha hb => have := key _ _ ha hb; exact ⟨by omega, resT_out⟩
    | call hs ha hb => have := key _ _ ha hb; exact ⟨by omega, resT_out⟩
  | twoV hk _ _ h2 ih1 ih2 =>
    intro Γ τ W hE ht hc hn hg
    rw [cc2 (by omega)] at *
    rw [nd2] at *
    rw [Nat.add_mul] at *
    have key : HD Γ _ .num → HD Γ _ .num → _ := fun ha hb => by
      obtain ⟨h1, h2⟩ := ih1 Γ .num W hE ha (by omega) (by omega) (Nat.le_trans (gi_mono (by omega)) hg)
      obtain ⟨h3, h4⟩ := h2 _ _ rfl
      obtain ⟨h5, h6⟩ := ih2 Γ .num _ (env_next hE h4) hb (by omega) (by omega) (gi_two h3 (by omega) hg)
      obtain ⟨h7, h8⟩ := h6 _ _ rfl
      have := fuel_le (G := G) h3
      exact And.intro (And.intro h1 (Nat.le_trans h5 (Nat.add_le_add_left this _))) (And.intro (And.intro h3 h7) (And.intro (vd_num h4.vd) (vd_num h8.vd)))
    cases ht with
    | add ha hb =>
      obtain ⟨⟨h1, h3⟩, ⟨h4, h5⟩, ⟨n, rfl⟩, ⟨m, rfl⟩⟩ := key ha hb
      simp only [twoV] at h2
      split at h2
      · cases h2; exact ⟨by omega, resT_ok (by omega) okT_num⟩
      · cases h2
    | less ha hb =>
      obtain ⟨⟨h1, h3⟩, ⟨h4, h5⟩, ⟨n, rfl⟩, ⟨m, rfl⟩⟩ := key ha hb
      simp only [twoV] at h2
      split at h2
      · cases h2; exact ⟨by omega, resT_ok (by omega) okT_tru⟩
      · cases h2
    | call hs ha hb => omega
  | twoO hk _ _ h2 ih1 ih2 =>
    intro Γ τ W hE ht hc hn hg
    rw [cc2 (by omega)] at *
    rw [nd2] at *
    rw [Nat.add_mul] at *
    have key : HD Γ _ .num → HD Γ _ .num → _ := fun ha hb => by
      obtain ⟨h1, h2⟩ := ih1 Γ .num W hE ha (by omega) (by omega) (Nat.le_trans (gi_mono (by omega)) hg)
      obtain ⟨h3, h4⟩ := h2 _ _ rfl
      obtain ⟨h5, h6⟩ := ih2 Γ .num _ (env_next hE h4) hb (by omega) (by omega) (gi_two h3 (by omega) hg)
      have := fuel_le (G := G) h3
      exact And.intro h1 (Nat.le_trans h5 (Nat.add_le_add_left this _))
    cases ht with
    | add ha hb => have := key ha hb; exact ⟨by omega, resT_out⟩
    | less ha hb => have := key ha hb; exact ⟨by omega, resT_out⟩
    | call hs ha hb => omega
  | call _ _ _ ih1 ih2 ih3 =>
    rename_i v w r _ _ _
    intro Γ τ W hE ht hc hn hg
    rw [cc2 (by omega)] at *
    rw [nd2] at *
    rw [Nat.add_mul] at *
    cases ht with
    | call hs ha hb =>
      obtain ⟨h1, h2⟩ := ih1 Γ _ W hE ha (by omega) (by omega) (Nat.le_trans (gi_mono (by omega)) hg)
      obtain ⟨h3, h4⟩ := h2 _ _ rfl
      obtain ⟨h5, h6⟩ := ih2 Γ _ _ (env_next hE h4) hb (by omega) (by omega) (gi_two h3 (by omega) hg)
      obtain ⟨h7, h8⟩ := h6 _ _ rfl
      have h43 := h4.nc
      have h44 := h4.mm
      obtain ⟨k1, k2, k3, k4, k5⟩ := call_next h3 h7 h4 h8
      have kz : _ := k5 0 (Nat.zero_le _)
      simp only [Nat.sub_zero] at kz
      have kg := Nat.le_trans kz hg
      obtain ⟨h9, h10⟩ := ih3 _ _ _ (k1.mono (Nat.le_add_right _ v.da)) (k2.mono (Nat.le_add_right _ v.da)) h4.nc h8.nc (Nat.add_le_add_right k4 v.da) hs (fun F0 e => by
        subst e
        exact Nat.le_trans (gi_mono (n := F0) (by have := da_grow k3 h43; unfold grow; omega)) kg)
      have hly := ly_le k1
      have hww := Nat.le_trans (Nat.le_trans k3 (gi_ge _ _)) kg
      have hf1 := fuel_le (G := G) h3
      have hf2 := fuel_le (G := G) h7
      refine ⟨by omega, fun u F' e => ?_⟩
      obtain ⟨g1, g2, g3, g4, g5⟩ := h10 u F' e
      have hda := da_grow k3 h43
      have kk := k5 F' (by omega)
      obtain ⟨e1, e2⟩ := call_end g1 hda g2 g3
      refine ⟨by omega, e1.mono kk, Nat.le_trans e2 kk, g4, fun hd => ?_⟩
      have := g5 hd
      have := h44 (by rw [deep_mk3]; omega)
      omega
  | clo0 => intro σ τ X hf hx hm hm' hX hs hg; exact ⟨by omega, fun v F' e => by cases e⟩
  | clo _ ih =>
    intro σ τ X hf hx hm hm' hX hs hg
    cases hf with
    | clo hl _ hd he hw hb hc hn =>
      have hg := hg _ rfl
      have hX : _ ≤ X := Nat.le_trans (Nat.le_add_right _ _) hX
      have hcm : cc _ * w4 ≤ NC * w4 := Nat.mul_le_mul_right w4 hc
      obtain ⟨h1, h2⟩ := ih _ _ X (EnvD.cons ⟨hl, he, hw⟩ hx hX hm') hb hc hn (Nat.le_trans (gi_mono (by omega)) hg)
      refine ⟨?_, fun v F' e => ?_⟩
      · rw [Nat.add_mul]; unfold SB at *; have : NC = 40 := rfl; omega
      · obtain ⟨h3, h4⟩ := h2 v F' e
        rw [Nat.add_sub_cancel]
        have h4 := h4.mono (gi_mono (show X + cc _ * w4 ≤ X + NC * w4 by omega)) (Nat.le_refl _)
        exact ⟨by omega, h4.vd, Nat.le_trans h4.sw (Nat.le_add_right _ _), h4.nc, h4.mm⟩
  | wrapO hc => intro σ τ X hf hx hm hm' hX hs hg; exact ⟨by omega, fun v F' e => by cases e⟩
  | wrapP hc _ ih =>
    intro σ τ X hf hx hm hm' hX hs hg
    cases hf with
    | wrap h0 h1 h2 h3 g0 g1 hq hv =>
      obtain ⟨hi0, hi1, hi2⟩ := hq.inv
      obtain ⟨ha1, ha2⟩ := wd_arg hq
      simp only [V.mm, V.da, V.ly] at *
      rcases castV_vd hx h2 h0 (fits_comm ▸ g0) (fun _ => .sh (.sh hi1) hi0) with ⟨y, hy, p1, p2, p3⟩ | hy
      · rw [hc] at hy; cases hy
        obtain ⟨q1, q2⟩ := ih _ _ X hv p1 (by omega) (by omega) (by omega) hi0 hg
        exact ⟨by omega, fun v F' e => by cases e⟩
      · rw [hc] at hy; cases hy
  | wrap hc _ ih =>
    intro σ τ X hf hx hm hm' hX hs hg
    cases hf with
    | wrap h0 h1 h2 h3 g0 g1 hq hv =>
      obtain ⟨hi0, hi1, hi2⟩ := hq.inv
      obtain ⟨ha1, ha2⟩ := wd_arg hq
      obtain ⟨hb1, hb2⟩ := wd_res hq
      simp only [V.mm, V.da, V.ly] at *
      rcases castV_vd hx h2 h0 (fits_comm ▸ g0) (fun _ => .sh (.sh hi1) hi0) with ⟨y, hy, p1, p2, p3⟩ | hy
      · rw [hc] at hy; cases hy
        obtain ⟨q1, q2⟩ := ih _ _ X hv p1 (by omega) (by omega) (by omega) hi0 hg
        obtain ⟨q3, q4, q5, q6, q7⟩ := q2 _ _ rfl
        refine ⟨by omega, fun v F' e => ?_⟩
        unfold castR at e
        rename_i at'' back _ _ _ _
        rcases castV_vd (at' := at'') (back := back) q4 h1 h3 g1 (fun _ => hi2) with ⟨z, hz, s1, s2, s3⟩ | hz
        · rw [hz] at e
          cases e
          obtain ⟨e1, e2⟩ := res_mm hi2 s3 q6 q7 hm hb2
          exact ⟨q3, s1, by omega, e1, e2⟩
        · rw [hz] at e; cases e
      · rw [hc] at hy; cases hy
  | apN => intro σ τ X hf; cases hf
  | apT => intro σ τ X hf; cases hf
  | apG => intro σ τ X hf; cases hf
def GM : Nat := 377576334
theorem gi_top : gi 100 (40 * w4) ≤ GM := by decide +kernel
/-- THE STACK OF A CHECKED TERM: never more than so much. -/
theorem stack_le {t : Tm} {τ : Ty} {F h : Nat} {r : Res} (ht : HD [] t τ) (hc : cc t ≤ NC) (hn : t.nodes ≤ 80) (hF : F ≤ 100) (he : EvN (.tm t []) F r h) : h ≤ 100000000000 := by
  have hk : NC = 40 := rfl
  have hg : gi F (0 + cc t * w4) ≤ GM := by
    refine Nat.le_trans ?_ gi_top
    have h1 : gi F (0 + cc t * w4) ≤ gi F (40 * w4) := gi_mono (by rw [Nat.zero_add]; exact Nat.mul_le_mul_right _ hc)
    refine Nat.le_trans h1 ?_
    rw [show 100 = (100 - F) + F by omega, ← gi_gi]
    exact gi_ge _ _
  have h1 := (ev_b (G := GM) he [] τ 0 ⟨Nat.zero_le _, fun i v ρ h => by simp at h, fun i v ρ h => by simp at h⟩ ht hc hn hg).1
  have h2 : F * SB GM ≤ 100 * SB GM := Nat.mul_le_mul_right _ hF
  have h3 : SB GM = 377576464 := rfl
  have h4 : GM = 377576334 := rfl
  omega
end Go.Proofs.YtnflnbdlgdjfmabDoor
namespace Go.Proofs.YtnflnbdlgdjfmabDoor
set_option linter.unusedVariables false
set_option linter.unusedSimpArgs false
/-- A value in whose making no cast stood. -/
inductive VN : V → Prop
  | num {n : Int} : VN (.num n)
  | tru {n : Int} : VN (.tru n)
  | clo {b : Tm} {env : List V} (he : ∀ v ∈ env, VN v) (hc : cc b = 0) (hn : b.nodes ≤ 80) : VN (.clo b env)
theorem cc_head {k n : Int} {t f : Ty} {b : Tm} {l : List Tm} (hk : k ≠ 10) (h : cc (.mk k n t f (b :: l)) = 0) : cc b = 0 := by
  rw [cc_node hk] at h
  simp only [sitesL, List.length_append] at h
  unfold cc; omega
theorem cc_ten {n : Int} {t f : Ty} {l : List Tm} (h : cc (.mk 10 n t f l) = 0) : False := by
  unfold cc at h; rw [sitesT_eta] at h; simp [ownSite] at h
theorem nd_head {k n : Int} {t f : Ty} {b : Tm} {l : List Tm} : b.nodes + 1 ≤ (Tm.mk k n t f (b :: l)).nodes := by
  simp only [Tm.nodes, nodesL]; omega
def CN : Cmd → Nat → Res → Nat → Prop
  | .tm t env, F, r, h => (∀ v ∈ env, VN v) → cc t = 0 → t.nodes ≤ 80 → h ≤ t.nodes + F * 81 ∧ ∀ v F', r = .ok v F' → VN v ∧ F' ≤ F
  | .ap f x, F, r, h => VN f → VN x → h ≤ F * 81 ∧ ∀ v F', r = .ok v F' → VN v ∧ F' ≤ F
theorem ev_n0 {c : Cmd} {F : Nat} {r : Res} {h : Nat} (he : EvN c F r h) : CN c F r h := by
  induction he with
  | ref hv => intro hE hc hn; exact ⟨by omega, fun v F' e => by cases e; exact ⟨hE _ (List.mem_of_getElem? hv), Nat.le_refl _⟩⟩
  | refS hv => intro hE hc hn; exact ⟨by omega, fun v F' e => by cases e⟩
  | lit => intro hE hc hn; exact ⟨by omega, fun v F' e => by cases e; exact ⟨.num, Nat.le_refl _⟩⟩
  | says => intro hE hc hn; exact ⟨by omega, fun v F' e => by cases e; exact ⟨.tru, Nat.le_refl _⟩⟩
  | fn =>
    intro hE hc hn
    rename_i n t f b l env F
    have := nd_head (k := 7) (n := n) (t := t) (f := f) (b := b) (l := l)
    exact ⟨by omega, fun v F' e => by cases e; exact ⟨.clo hE (cc_head (by decide) hc) (by omega), Nat.le_refl _⟩⟩
  | as _ ih =>
    intro hE hc hn
    rename_i n t f b l env F h r _
    have := nd_head (k := 9) (n := n) (t := t) (f := f) (b := b) (l := l)
    obtain ⟨h1, h2⟩ := ih hE (cc_head (by decide) hc) (by omega)
    exact ⟨by omega, h2⟩
  | castO _ ih => intro hE hc hn; exact (cc_ten hc).elim
  | cast _ ih => intro hE hc hn; exact (cc_ten hc).elim
  | ifO _ ih =>
    intro hE hc hn
    rw [cc3 (by decide)] at hc
    rw [nd3] at *
    obtain ⟨h1, h2⟩ := ih hE (by omega) (by omega)
    exact ⟨by omega, fun v F' e => by cases e⟩
  | ifS _ hv ih =>
    intro hE hc hn
    rw [cc3 (by decide)] at hc
    rw [nd3] at *
    obtain ⟨h1, h2⟩ := ih hE (by omega) (by omega)
    exact ⟨by omega, fun v F' e => by cases e⟩
  | ifT _ _ ih1 ih2 =>
    intro hE hc hn
    rw [cc3 (by decide)] at hc
    rw [nd3] at *
    obtain ⟨h1, h2⟩ := ih1 hE (by omega) (by omega)
    obtain ⟨_, h3⟩ := h2 _ _ rfl
    obtain ⟨h4, h5⟩ := ih2 hE (by omega) (by omega)
    exact ⟨by omega, fun v F' e => ⟨(h5 v F' e).1, Nat.le_trans (h5 v F' e).2 h3⟩⟩
  | ifF _ _ ih1 ih2 =>
    intro hE hc hn
    rw [cc3 (by decide)] at hc
    rw [nd3] at *
    obtain ⟨h1, h2⟩ := ih1 hE (by omega) (by omega)
    obtain ⟨_, h3⟩ := h2 _ _ rfl
    obtain ⟨h4, h5⟩ := ih2 hE (by omega) (by omega)
    exact ⟨by omega, fun v F' e => ⟨(h5 v F' e).1, Nat.le_trans (h5 v F' e).2 h3⟩⟩
  | binO hk _ ih =>
    intro hE hc hn
    rw [cc2 (by omega)] at hc
    rw [nd2] at *
    obtain ⟨h1, h2⟩ := ih hE (by omega) (by omega)
    exact ⟨by omega, fun v F' e => by cases e⟩
  | binP hk _ _ ih1 ih2 =>
    intro hE hc hn
    rw [cc2 (by omega)] at hc
    rw [nd2] at *
    obtain ⟨h1, h2⟩ := ih1 hE (by omega) (by omega)
    obtain ⟨_, h3⟩ := h2 _ _ rfl
    obtain ⟨h4, h5⟩ := ih2 hE (by omega) (by omega)
    exact ⟨by omega, fun v F' e => by cases e⟩
  | twoV hk _ _ h2' ih1 ih2 =>
    intro hE hc hn
    rw [cc2 (by omega)] at hc
    rw [nd2] at *
    obtain ⟨h1, h2⟩ := ih1 hE (by omega) (by omega)
    obtain ⟨_, h3⟩ := h2 _ _ rfl
    obtain ⟨h4, h5⟩ := ih2 hE (by omega) (by omega)
    obtain ⟨_, h6⟩ := h5 _ _ rfl
    refine ⟨by omega, fun v F' e => ?_⟩
    cases e
    refine ⟨?_, by omega⟩
    unfold twoV at h2'
    split at h2'
    · split at h2'
      · cases h2'
        split
        · exact .tru
        · exact .num
      · cases h2'
    · cases h2'
    · cases h2'
  | twoO hk _ _ h2' ih1 ih2 =>
    intro hE hc hn
    rw [cc2 (by omega)] at hc
    rw [nd2] at *
    obtain ⟨h1, h2⟩ := ih1 hE (by omega) (by omega)
    obtain ⟨_, h3⟩ := h2 _ _ rfl
    obtain ⟨h4, h5⟩ := ih2 hE (by omega) (by omega)
    exact ⟨by omega, fun v F' e => by cases e⟩
  | call _ _ _ ih1 ih2 ih3 =>
    intro hE hc hn
    rw [cc2 (by omega)] at hc
    rw [nd2] at *
    obtain ⟨h1, h2⟩ := ih1 hE (by omega) (by omega)
    obtain ⟨g1, h3⟩ := h2 _ _ rfl
    obtain ⟨h4, h5⟩ := ih2 hE (by omega) (by omega)
    obtain ⟨g2, h6⟩ := h5 _ _ rfl
    obtain ⟨h7, h8⟩ := ih3 g1 g2
    exact ⟨by omega, fun v F' e => ⟨(h8 v F' e).1, by have := (h8 v F' e).2; omega⟩⟩
  | clo0 => intro hf hx; exact ⟨by omega, fun v F' e => by cases e⟩
  | clo _ ih =>
    intro hf hx
    cases hf with
    | clo he hc hn =>
      obtain ⟨h1, h2⟩ := ih (fun v hv => by
        rcases List.mem_cons.1 hv with rfl | hv
        · exact hx
        · exact he v hv) hc hn
      exact ⟨by omega, fun v F' e => ⟨(h2 v F' e).1, by have := (h2 v F' e).2; omega⟩⟩
  | wrapO hc => intro hf; cases hf
  | wrapP hc _ ih => intro hf; cases hf
  | wrap hc _ ih => intro hf; cases hf
  | apN => intro hf hx; exact ⟨by omega, fun v F' e => by cases e⟩
  | apT => intro hf hx; exact ⟨by omega, fun v F' e => by cases e⟩
  | apG => intro hf; cases hf
/-- THE STACK OF A TERM WITHOUT CASTS. -/
theorem stack0_le {t : Tm} {F h : Nat} {r : Res} (hc : cc t = 0) (hn : t.nodes ≤ 80) (hF : F ≤ 100) (he : EvN (.tm t []) F r h) : h ≤ 100000000000 := by
  have := (ev_n0 he (fun v h => by cases h) hc hn).1
  omega
theorem nodup_lt : ∀ (k : Nat) (l : List Nat), l.Nodup → (∀ x ∈ l, x < k) → l.length ≤ k
  | 0, l, _, h => by cases l with | nil => simp | cons a l => exact absurd (h a (by simp)) (by omega)
  | k + 1, l, hd, h => by
    have h1 := nodup_lt k (l.erase k) (hd.erase k) (fun x hx => by
      have h2 := h x (List.mem_of_mem_erase hx)
      have h3 : x ≠ k := fun e => by subst e; exact (List.Nodup.not_mem_erase hd) hx
      omega)
    have h2 := List.length_erase (a := k) (l := l)
    split at h2 <;> omega
theorem sites_few {S : List Site} {lo : Int} {k : Nat} (h : SitesOk S lo (lo + k)) : S.length ≤ k := by
  have h1 : ((S.map (·.n)).map fun n => (n - lo).toNat).length ≤ k := by
    refine nodup_lt k _ ?_ ?_
    · have hn := h.nd
      have hr : ∀ n ∈ S.map (·.n), lo ≤ n := fun n hm => by
        obtain ⟨s, hs, rfl⟩ := List.mem_map.1 hm
        exact (h.b s hs).1
      generalize S.map (·.n) = L at hn hr
      induction L with
      | nil => exact List.nodup_nil
      | cons a L ih =>
        obtain ⟨hna, hn⟩ := List.nodup_cons.1 hn
        rw [List.map_cons, List.nodup_cons]
        refine ⟨fun hm => ?_, ih hn fun n hm => hr n (List.mem_cons_of_mem _ hm)⟩
        obtain ⟨b, hb, e⟩ := List.mem_map.1 hm
        have h1 := hr a (List.mem_cons_self ..)
        have h2 := hr b (List.mem_cons_of_mem _ hb)
        have : a = b := by omega
        subst this
        exact hna hb
    · intro x hx
      obtain ⟨n, hn, rfl⟩ := List.mem_map.1 hx
      obtain ⟨s, hs, rfl⟩ := List.mem_map.1 hn
      have := (h.b s hs).1
      have := (h.b s hs).2.1
      omega
  simpa using h1
/-- What the checker answers is small. -/
theorem walk_small {a x : Tm} {k : Ty} (hg : a.Good 0 = true) (h : walkT a [] 0 = some (x, k)) : cc x ≤ NC ∧ x.nodes ≤ 80 := by
  unfold Tm.Good at hg
  simp only [Bool.and_eq_true, decide_eq_true_eq] at hg
  obtain ⟨h1, h2⟩ := walk_sites a [] 0 0 hg.2 0 x k h
  have h3 := nodes_pos a
  have h4 : (sitesT x).length ≤ a.nodes - 1 := sites_few (lo := 0 + 1) (by
    rw [show (0 : Int) + 1 + ((a.nodes - 1 : Nat) : Int) = 0 + a.nodes by omega]; exact h1)
  have h5 : NC = 40 := rfl
  unfold cc
  omega
end Go.Proofs.YtnflnbdlgdjfmabDoor
namespace Go.Proofs.YtnflnbdlgdjfmabDoor
set_option linter.unusedVariables false
set_option linter.unusedSimpArgs false
/-- All its numbers are ints. -/
inductive NB : Tm → Prop
  | mk {t : Tm} (h : t.n ≤ 9223372036854775807) (hl : ∀ x ∈ t.l, NB x) : NB t
theorem NB.n {t : Tm} (h : NB t) : t.n ≤ 9223372036854775807 := by cases h; assumption
theorem NB.l {t : Tm} (h : NB t) : ∀ x ∈ t.l, NB x := by cases h; assumption
inductive VB : V → Prop
  | num {n : Int} : VB (.num n)
  | tru {n : Int} : VB (.tru n)
  | clo {b : Tm} {env : List V} (hb : NB b) (he : ∀ v ∈ env, VB v) : VB (.clo b env)
  | wrap {v : V} {f t : Ty} {at' : Int} {back : Bool} (hv : VB v) : VB (.wrap v f t at' back)
  | tag {v : V} {g : Ty} (hv : VB v) : VB (.tag v g)
def FB : Fr → Prop
  | .term t env => NB t ∧ ∀ v ∈ env, VB v
  | .second t v => NB t ∧ VB v
  | .given v => VB v
  | .casts _ _ _ _ => True
def KB : Ctl → Prop
  | .ent t env => NB t ∧ ∀ v ∈ env, VB v
  | .val v => VB v
structure MB (m : Mch) : Prop where
  c : KB m.ctl
  s : ∀ f ∈ m.stk, FB f
  f : m.fuel ≤ 1000
theorem cons_all {α : Type} {p : α → Prop} {a : α} {l : List α} (ha : p a) (hl : ∀ x ∈ l, p x) : ∀ x ∈ a :: l, p x := fun x hx => by
  rcases List.mem_cons.1 hx with rfl | hx
  · exact ha
  · exact hl x hx
theorem castV_b {v u : V} {f t : Ty} {at' : Int} {back : Bool} (hv : VB v) (h : castV v f t at' back = .inl u) : VB u := by
  unfold castV at h
  split at h
  · cases h; exact hv
  split at h
  · cases h; exact .wrap hv
  split at h
  · cases h
    refine .tag ?_
    split
    · exact hv
    · exact .wrap hv
  split at h
  · split at h
    · cases hv with
      | tag hv =>
      split at h
      · split at h
        · cases h; exact hv
        · split at h
          · cases h; exact .wrap hv
          · cases h
      · cases h
    · cases h
  · cases h
theorem callM_b {f x : V} {s : List Fr} {F : Nat} {m : Mch} (hf : VB f) (hx : VB x) (hs : ∀ f ∈ s, FB f) (hF : F ≤ 1000) (h : callM f x s F = some (.inl m)) : MB m := by
  unfold callM at h
  split at h
  · split at h
    · cases h
    · cases h
      cases hf with
      | clo hb he => exact ⟨⟨hb, cons_all hx he⟩, hs, Nat.le_trans (Nat.le_succ _) hF⟩
  · split at h
    · split at h
      · rename_i hc
        cases h
        cases hf with
        | wrap hv => exact ⟨castV_b hx hc, cons_all (by exact hv) (cons_all (by exact trivial) hs), hF⟩
      · cases h
    · cases h
  · cases h
theorem enterM_b {t : Tm} {env : List V} {s : List Fr} {F : Nat} {m : Mch} (ht : NB t) (he : ∀ v ∈ env, VB v) (hs : ∀ f ∈ s, FB f) (hF : F ≤ 1000) (h : enterM t env s F = some (.inl m)) : MB m := by
  unfold enterM at h
  split at h
  · split at h
    · rename_i hv; cases h; exact ⟨he _ (List.mem_of_getElem? hv), hs, hF⟩
    · cases h
  split at h
  · cases h; exact ⟨.num, hs, hF⟩
  split at h
  · cases h; exact ⟨.tru, hs, hF⟩
  split at h
  · cases h
  rename_i b l hl
  have hb : NB b := ht.l b (by rw [hl]; simp)
  split at h
  · cases h; exact ⟨.clo hb he, hs, hF⟩
  split at h
  · cases h; exact ⟨⟨hb, he⟩, cons_all (by exact trivial) hs, hF⟩
  split at h
  · cases h; exact ⟨⟨hb, he⟩, hs, hF⟩
  · cases h; exact ⟨⟨hb, he⟩, cons_all (by exact ⟨ht, he⟩) hs, hF⟩
theorem leaveM_b {v : V} {f : Fr} {s : List Fr} {F : Nat} {m : Mch} (hv : VB v) (hf : FB f) (hs : ∀ f ∈ s, FB f) (hF : F ≤ 1000) (h : leaveM v f s F = some (.inl m)) : MB m := by
  cases f with
  | term t env =>
    obtain ⟨ht, he⟩ := hf
    simp only [leaveM] at h
    split at h
    · split at h
      · split at h
        · rename_i hl
          split at h
          · cases h; exact ⟨⟨ht.l _ (by rw [hl]; simp), he⟩, hs, hF⟩
          · split at h
            · cases h; exact ⟨⟨ht.l _ (by rw [hl]; simp), he⟩, hs, hF⟩
            · cases h
        · cases h
      · cases h
    · split at h
      · split at h
        · rename_i hl
          cases h
          exact ⟨⟨ht.l _ (by rw [hl]; simp), he⟩, cons_all (by exact ⟨ht, hv⟩) hs, hF⟩
        · cases h
      · cases h
  | second t g =>
    obtain ⟨ht, hg⟩ := hf
    simp only [leaveM] at h
    split at h
    · exact callM_b hg hv hs hF h
    · split at h
      · rename_i hu
        cases h
        refine ⟨?_, hs, hF⟩
        unfold twoV at hu
        split at hu
        · split at hu
          · cases hu
            split
            · exact .tru
            · exact .num
          · cases hu
        · cases hu
        · cases hu
      · cases h
      · cases h
  | given g => exact callM_b hf hv hs hF h
  | casts a b c d =>
    simp only [leaveM] at h
    split at h
    · rename_i hc; cases h; exact ⟨castV_b hv hc, hs, hF⟩
    · cases h
theorem step_b {m m' : Mch} (hm : MB m) (h : step m = some (.inl m')) : MB m' := by
  obtain ⟨ctl, s, F⟩ := m
  obtain ⟨hc, hs, hF⟩ := hm
  cases ctl with
  | ent t env => exact enterM_b hc.1 hc.2 hs hF h
  | val v =>
    cases s with
    | nil => cases h
    | cons f s => exact leaveM_b hc (hs f (by simp)) (fun g hg => hs g (by simp [hg])) hF h
theorem asT_nb {x : Tm} {k w : Ty} {n : Int} (h : NB x) (hn : n ≤ 9223372036854775807) : NB (asT x k w n) := by
  unfold asT
  split
  · exact h
  · exact .mk hn fun y hy => by rw [List.mem_singleton.1 hy]; exact h
theorem casts_nb : ∀ {ks : List Kid} {ws : List Ty} {l : List Tm}, (∀ x ∈ ks, NB x.t ∧ x.at' ≤ 9223372036854775807) → casts ks ws = some l → ∀ y ∈ l, NB y
  | [], ws, l, hk, h => by simp [casts] at h; subst h; intro y hy; cases hy
  | x :: xs, [], l, hk, h => by simp [casts] at h
  | x :: xs, w :: ws, l, hk, h => by
    obtain ⟨y, l', rfl, hy, hl⟩ := casts_cons h
    refine cons_all ?_ (casts_nb (fun x hx => hk x (List.mem_cons_of_mem _ hx)) hl)
    unfold Kid.to at hy
    split at hy
    · cases hy; exact asT_nb (hk x (List.mem_cons_self ..)).1 (hk x (List.mem_cons_self ..)).2
    · cases hy
theorem walkL_nb : ∀ {l : List Tm} {env : List Ty} {m : Int} {ks : List Kid}, (∀ a ∈ l, ∀ (m : Int) x k, m + a.nodes ≤ 1000000 → walkT a env m = some (x, k) → NB x) → m + nodesL l ≤ 1000000 → walkL l env m = some ks → ∀ x ∈ ks, NB x.t ∧ x.at' ≤ 9223372036854775807
  | [], env, m, ks, h, hm, hw => by have := walkL_nil hw; subst this; intro x hx; cases hx
  | a :: l, env, m, ks, h, hm, hw => by
    obtain ⟨x, k, ks', rfl, h1, h2⟩ := walkL_cons hw
    simp only [nodesL] at hm
    have := nodes_pos a
    refine cons_all ⟨h a (List.mem_cons_self ..) m x k (by omega) h1, by show m ≤ _; omega⟩ (walkL_nb (fun b hb => h b (List.mem_cons_of_mem _ hb)) (by omega) h2)
theorem walk_nb : ∀ (a : Tm) (env : List Ty) (m : Int) (x : Tm) (k : Ty), NB a → m + a.nodes ≤ 1000000 → walkT a env m = some (x, k) → NB x := fun a => by
  induction a using Tm.ind' with
  | _ a ih =>
    intro env m x k hn hm h
    rw [nodes_eta] at hm
    rw [walkT_eta] at h
    split at h
    · cases h; exact hn
    split at h
    · cases h; exact hn
    split at h
    · cases h; exact hn
    split at h
    · cases h
    rename_i ks hks
    split at h
    · cases h
    rename_i ws out hw
    cases hc : casts ks ws with
    | none => rw [hc] at h; cases h
    | some l' =>
      rw [hc] at h; cases h
      refine .mk hn.n (casts_nb (walkL_nb (fun b hb m x k hm => ih b hb _ m x k (hn.l b hb) hm) (by omega) hks) hc)
theorem TmOk.nb : ∀ {a : Tm}, TmOk a → NB a := fun {a} => by
  induction a using Tm.ind' with
  | _ a ih => intro h; exact .mk h.n fun x hx => ih x hx (h.l x hx)
theorem eraseL_nb : ∀ (l : List Tm), (∀ a ∈ l, NB (eraseT a) ∧ cc (eraseT a) = 0 ∧ (eraseT a).nodes ≤ a.nodes) → (∀ x ∈ eraseL l, NB x) ∧ (sitesL (eraseL l)).length = 0 ∧ nodesL (eraseL l) ≤ nodesL l
  | [], h => by simp [eraseL, sitesL, nodesL]
  | a :: l, h => by
    obtain ⟨h1, h2, h3⟩ := h a (List.mem_cons_self ..)
    obtain ⟨h4, h5, h6⟩ := eraseL_nb l fun b hb => h b (List.mem_cons_of_mem _ hb)
    simp only [eraseL, sitesL, nodesL, List.length_append]
    refine ⟨cons_all h1 h4, ?_, by omega⟩
    unfold cc at h2; omega
theorem erase_nb : ∀ (a : Tm) (ar ow : Int), a.good ar ow = true → NB a → NB (eraseT a) ∧ cc (eraseT a) = 0 ∧ (eraseT a).nodes ≤ a.nodes := fun a => by
  induction a using Tm.ind' with
  | _ a ih =>
    intro ar ow hg hn
    have hg' := hg
    rw [goodT_eta, Bool.and_eq_true] at hg'
    have hgl := goodL_mem hg'.2
    cases hc : ((a.k == 10 || a.k == 9) && a.l.length == 1) with
    | true =>
      have hl1 : a.l.length = 1 := by simp at hc; exact hc.2
      obtain ⟨b, hb⟩ := len1 hl1
      rw [eraseT_one hc hb]
      obtain ⟨h1, h2, h3⟩ := ih b (by rw [hb]; simp) ar _ (hgl b (by rw [hb]; simp)) (hn.l b (by rw [hb]; simp))
      refine ⟨h1, h2, ?_⟩
      rw [nodes_eta a, hb]; simp only [nodesL]; omega
    | false =>
      have hk : a.k ≠ 10 := by rcases good_cases hg with ⟨e, _⟩ | ⟨e, _⟩ | ⟨e, _⟩ | ⟨e, _⟩ | ⟨e, _⟩ | ⟨e, _⟩ | ⟨e, _⟩ <;> omega
      rw [eraseT_all hc]
      obtain ⟨h1, h2, h3⟩ := eraseL_nb a.l fun b hb => ih b hb ar _ (hgl b hb) (hn.l b hb)
      refine ⟨.mk hn.n h1, by rw [cc_node hk]; exact h2, ?_⟩
      rw [nodes_eta a]; simp only [Tm.nodes]; omega
end Go.Proofs.YtnflnbdlgdjfmabDoor
namespace Go.Proofs.YtnflnbdlgdjfmabDoor
set_option linter.unusedVariables false
set_option linter.unusedSimpArgs false
/-- What is asked of casts holds of those that come of them. -/
structure Clos (P : Ty → Ty → Int → Bool → Prop) : Prop where
  fn : ∀ {f0 f1 t0 t1 : Ty} {n : Int} {b : Bool}, Right f0 → Right f1 → Right t0 → Right t1 → P (.mk 3 [f0, f1]) (.mk 3 [t0, t1]) n b → P t0 f0 n (!b) ∧ P f1 t1 n b
  up : ∀ {f t : Ty} {n : Int} {b : Bool}, Right f → Right t → t.k = 0 → P f t n b → P f f.ground n b
  down : ∀ {f t : Ty} {n : Int} {b : Bool}, Right f → Right t → f.k = 0 → P f t n b → P t.ground t n b
section
variable {P : Ty → Ty → Int → Bool → Prop}
inductive PT (P : Ty → Ty → Int → Bool → Prop) : Tm → Prop
  | mk {k n : Int} {t f : Ty} {l : List Tm} (h : k = 10 → Right t ∧ Right f ∧ P f t n false) (hl : ∀ x ∈ l, PT P x) : PT P (.mk k n t f l)
inductive PV (P : Ty → Ty → Int → Bool → Prop) : V → Prop
  | num {n : Int} : PV P (.num n)
  | tru {n : Int} : PV P (.tru n)
  | clo {b : Tm} {env : List V} (hb : PT P b) (he : ∀ v ∈ env, PV P v) : PV P (.clo b env)
  | wrap {v : V} {f0 f1 t0 t1 : Ty} {at' : Int} {back : Bool} (h0 : Right f0) (h1 : Right f1) (h2 : Right t0) (h3 : Right t1) (h : P (.mk 3 [f0, f1]) (.mk 3 [t0, t1]) at' back) (hv : PV P v) : PV P (.wrap v (.mk 3 [f0, f1]) (.mk 3 [t0, t1]) at' back)
  | tag {v : V} {g : Ty} (hv : PV P v) : PV P (.tag v g)
theorem PT.here {k n : Int} {t f : Ty} {l : List Tm} (h : PT P (.mk k n t f l)) : k = 10 → Right t ∧ Right f ∧ P f t n false := by cases h; assumption
theorem PT.part {k n : Int} {t f : Ty} {l : List Tm} (h : PT P (.mk k n t f l)) : ∀ x ∈ l, PT P x := by cases h; assumption
/-- Blamed, of a cast from Any. -/
def Blamed (P : Ty → Ty → Int → Bool → Prop) (o : Out) : Prop := o = .fuel ∨ o = .stuck ∨ ∃ n b f t, o = .blame n b ∧ P f t n b ∧ Right f ∧ Right t ∧ f.k = 0 ∧ t.k ≠ 0
theorem right_fn {f : Ty} (hf : Right f) (h : f.k = 3) : ∃ a b, f = .mk 3 [a, b] ∧ Right a ∧ Right b := by
  cases hf with
  | base hb => simp at h; omega
  | fn ha hb => exact ⟨_, _, rfl, ha, hb⟩
theorem pv_wrap {v : V} {f t : Ty} {n : Int} {b : Bool} (hf : Right f) (ht : Right t) (h1 : f.k = 3) (h2 : t.k = 3) (hp : P f t n b) (hv : PV P v) : PV P (.wrap v f t n b) := by
  obtain ⟨_, _, rfl, a, b⟩ := right_fn hf h1
  obtain ⟨_, _, rfl, c, d⟩ := right_fn ht h2
  exact .wrap a b c d hp hv
theorem ground_k {f : Ty} : f.ground.k = f.k := by
  unfold Ty.ground
  split
  · rename_i h; simp at h; rw [h]; rfl
  · rfl
theorem castV_p (C : Clos P) {v : V} {f t : Ty} {n : Int} {b : Bool} (hf : Right f) (ht : Right t) (hp : P f t n b) (hv : PV P v) : (∀ u, castV v f t n b = .inl u → PV P u) ∧ ∀ o, castV v f t n b = .inr o → Blamed P o := by
  unfold castV
  split
  · exact ⟨fun u h => (by cases h; exact hv), fun o h => (by cases h)⟩
  split
  · rename_i hk
    simp only [Bool.and_eq_true, beq_iff_eq] at hk
    exact ⟨fun u h => (by cases h; exact pv_wrap hf ht hk.1 hk.2 hp hv), fun o h => (by cases h)⟩
  split
  · rename_i h0
    have h0 : t.k = 0 := by simpa using h0
    refine ⟨fun u h => ?_, fun o h => by cases h⟩
    cases h
    refine .tag ?_
    split
    · exact hv
    · rename_i hs
      have h3 : f.k = 3 := Decidable.byContradiction fun h3 => hs (by rw [right_base hf h3]; exact same_refl f)
      exact pv_wrap hf hf.ground h3 (by rw [ground_k]; exact h3) (C.up hf ht h0 hp) hv
  rename_i ht0
  have ht0 : t.k ≠ 0 := by simpa using ht0
  split
  · rename_i hf0
    have hf0 : f.k = 0 := by simpa using hf0
    split
    · cases hv with
      | tag hv =>
      split
      · split
        · exact ⟨fun u h => (by cases h; exact hv), fun o h => (by cases h)⟩
        · split
          · rename_i h3
            have h3 : t.k = 3 := by simpa using h3
            exact ⟨fun u h => (by cases h; exact pv_wrap ht.ground ht (by rw [ground_k]; exact h3) h3 (C.down hf ht hf0 hp) hv), fun o h => (by cases h)⟩
          · exact ⟨fun u h => (by cases h), fun o h => by cases h; exact .inr (.inl rfl)⟩
      · exact ⟨fun u h => (by cases h), fun o h => by cases h; exact .inr (.inr ⟨_, _, _, _, rfl, hp, hf, ht, hf0, ht0⟩)⟩
    · exact ⟨fun u h => (by cases h), fun o h => by cases h; exact .inr (.inl rfl)⟩
  · exact ⟨fun u h => (by cases h), fun o h => by cases h; exact .inr (.inl rfl)⟩
def PC (P : Ty → Ty → Int → Bool → Prop) : Cmd → Prop
  | .tm t env => PT P t ∧ ∀ v ∈ env, PV P v
  | .ap f x => PV P f ∧ PV P x
def PR (P : Ty → Ty → Int → Bool → Prop) : Res → Prop
  | .ok v _ => PV P v
  | .out o => Blamed P o
theorem castR_p (C : Clos P) {v : V} {f t : Ty} {n : Int} {b : Bool} {F : Nat} (hf : Right f) (ht : Right t) (hp : P f t n b) (hv : PV P v) : PR P (castR v f t n b F) := by
  unfold castR
  have := castV_p C hf ht hp hv
  cases h : castV v f t n b with
  | inl u => exact this.1 u h
  | inr o => exact this.2 o h
theorem ev_p (C : Clos P) {c : Cmd} {F : Nat} {r : Res} (h : Ev c F r) : PC P c → PR P r := by
  induction h with
  | ref hv => rintro ⟨ht, he⟩; exact he _ (List.mem_of_getElem? hv)
  | refS hv => rintro ⟨ht, he⟩; exact .inr (.inl rfl)
  | lit => rintro ⟨ht, he⟩; exact .num
  | says => rintro ⟨ht, he⟩; exact .tru
  | fn => rintro ⟨ht, he⟩; exact .clo (ht.part _ (List.mem_cons_self ..)) he
  | as _ ih => rintro ⟨ht, he⟩; exact ih ⟨ht.part _ (List.mem_cons_self ..), he⟩
  | castO _ ih => rintro ⟨ht, he⟩; exact ih ⟨ht.part _ (List.mem_cons_self ..), he⟩
  | cast _ ih => rintro ⟨ht, he⟩; obtain ⟨h1, h2, h3⟩ := ht.here rfl; exact castR_p C h2 h1 h3 (ih ⟨ht.part _ (List.mem_cons_self ..), he⟩)
  | ifO _ ih => rintro ⟨ht, he⟩; exact ih ⟨ht.part _ (by simp), he⟩
  | ifS _ hv ih => rintro ⟨ht, he⟩; exact .inr (.inl rfl)
  | ifT _ _ ih1 ih2 => rintro ⟨ht, he⟩; exact ih2 ⟨ht.part _ (by simp), he⟩
  | ifF _ _ ih1 ih2 => rintro ⟨ht, he⟩; exact ih2 ⟨ht.part _ (by simp), he⟩
  | binO hk _ ih => rintro ⟨ht, he⟩; exact ih ⟨ht.part _ (by simp), he⟩
  | binP hk _ _ ih1 ih2 => rintro ⟨ht, he⟩; exact ih2 ⟨ht.part _ (by simp), he⟩
  | twoV hk _ _ h2 ih1 ih2 =>
    rintro ⟨ht, he⟩
    unfold twoV at h2
    split at h2
    · split at h2
      · simp only [Option.some.injEq, Sum.inl.injEq] at h2
        subst h2
        split
        · exact .tru
        · exact .num
      · cases h2
    · cases h2
    · cases h2
  | twoO hk _ _ h2 ih1 ih2 => rintro ⟨ht, he⟩; exact .inr (.inl (twoV_out h2))
  | call _ _ _ ih1 ih2 ih3 => rintro ⟨ht, he⟩; exact ih3 ⟨ih1 ⟨ht.part _ (by simp), he⟩, ih2 ⟨ht.part _ (by simp), he⟩⟩
  | clo0 => rintro _; exact .inl rfl
  | clo _ ih =>
    rintro ⟨hf, hx⟩
    cases hf with
    | clo hb he =>
      exact ih ⟨hb, fun v hv => by
        rcases List.mem_cons.1 hv with rfl | hv
        · exact hx
        · exact he v hv⟩
  | wrapO hc => rintro ⟨hf, hx⟩; cases hf with | wrap h0 h1 h2 h3 hp hv => exact (castV_p C h2 h0 (C.fn h0 h1 h2 h3 hp).1 hx).2 _ hc
  | wrapP hc _ ih => rintro ⟨hf, hx⟩; cases hf with | wrap h0 h1 h2 h3 hp hv => exact ih ⟨hv, (castV_p C h2 h0 (C.fn h0 h1 h2 h3 hp).1 hx).1 _ hc⟩
  | wrap hc _ ih => rintro ⟨hf, hx⟩; cases hf with | wrap h0 h1 h2 h3 hp hv => exact castR_p C h1 h3 (C.fn h0 h1 h2 h3 hp).2 (ih ⟨hv, (castV_p C h2 h0 (C.fn h0 h1 h2 h3 hp).1 hx).1 _ hc⟩)
  | apN => rintro _; exact .inr (.inl rfl)
  | apT => rintro _; exact .inr (.inl rfl)
  | apG => rintro _; exact .inr (.inl rfl)
end
/-- A cast that is safe. -/
def Safe (m : Int) (p : Bool) (f t : Ty) (n : Int) (b : Bool) : Prop := n = m → if b = p then f.finer t = true else t.finer f = true
theorem finer_fn {a b c d : Ty} : (Ty.mk 3 [a, b]).finer (.mk 3 [c, d]) = (a.finer c && b.finer d) := by simp [Ty.finer, finerL]
theorem finer_any (a : Ty) : a.finer .any = true := by cases a; simp [Ty.any, Ty.finer]
theorem finer_refl : ∀ a : Ty, a.finer a = true := Ty.ind fun k l ih => by
  simp only [Ty.finer, beq_self_eq_true, Bool.true_and]
  have : finerL l l = true := by
    induction l with
    | nil => rfl
    | cons a l ihl => simp only [finerL, ih a (List.mem_cons_self ..), ihl fun t ht => ih t (List.mem_cons_of_mem _ ht), Bool.and_self]
  rw [this, Bool.or_true]
theorem finer_ground {a : Ty} (h : Right a) : a.finer a.ground = true := by
  cases h with
  | base h => rw [right_base (.base h) (by simp; omega)]; exact finer_refl _
  | fn ha hb => rw [ground_fn, finer_fn, finer_any, finer_any]; rfl
theorem any_finer {a b : Ty} (ha : Right a) (hb : Right b) (h0 : a.k = 0) (h : a.finer b = true) : b = .any := by
  rw [finer_eta, h0] at h
  cases hb with
  | base hb =>
    simp at h
    rcases h with h | ⟨h, _⟩ <;> (subst h; rfl)
  | fn _ _ => simp at h
theorem right_zero {a : Ty} (ha : Right a) (h0 : a.k = 0) : a = .any := by
  cases ha with
  | base hb => simp at h0; subst h0; rfl
  | fn _ _ => simp at h0
theorem safe_clos (m : Int) (p : Bool) : Clos (Safe m p) where
  fn := fun {f0 f1 t0 t1 n b} h0 h1 h2 h3 h => by
    constructor
    · intro hn
      have := h hn
      rw [finer_fn, finer_fn] at this
      by_cases hb : b = p
      · subst hb
        rw [if_pos rfl, Bool.and_eq_true] at this
        rw [if_neg (by cases b <;> simp)]; exact this.1
      · rw [if_neg hb, Bool.and_eq_true] at this
        rw [if_pos (by cases b <;> cases p <;> simp_all)]; exact this.1
    · intro hn
      have := h hn
      rw [finer_fn, finer_fn] at this
      split
      · rename_i hb; rw [if_pos hb, Bool.and_eq_true] at this; exact this.2
      · rename_i hb; rw [if_neg hb, Bool.and_eq_true] at this; exact this.2
  up := fun {f t n b} hf ht h0 h hn => by
    have := h hn
    have ht := right_zero ht h0
    subst ht
    split
    · exact finer_ground hf
    · rename_i hb
      rw [if_neg hb] at this
      have := any_finer .any hf rfl this
      subst this
      rfl
  down := fun {f t n b} hf ht h0 h hn => by
    have := h hn
    split
    · rename_i hb
      rw [if_pos hb] at this
      have := any_finer hf ht h0 this
      subst this
      rfl
    · exact finer_ground ht
theorem seen_ne4 : ∀ v : V, v.seen.kind ≠ 4
  | .num n => by simp [V.seen]
  | .tru n => by simp [V.seen]
  | .clo b env => by simp [V.seen]
  | .wrap v f t n b => by simp [V.seen]
  | .tag v g => by rw [V.seen]; exact seen_ne4 v
/-- Never blamed so. -/
theorem safe_blame {m : Int} {p : Bool} {t : Tm} {F : Nat} {r : Res} (h : Ev (.tm t []) F r) (ht : PT (Safe m p) t) : r.told ≠ .blame m p := by
  have := ev_p (safe_clos m p) h ⟨ht, fun v hv => by cases hv⟩
  cases r with
  | ok v F =>
    intro he
    exact seen_ne4 v (by rw [show v.seen = _ from he]; rfl)
  | out o =>
    intro he
    have he : o = .blame m p := he
    subst he
    rcases this with h | h | ⟨n, b, f, t, h1, h2, h3, h4, h5, h6⟩
    · simp [Out.blame, Out.fuel] at h
    · simp [Out.blame, Out.stuck] at h
    · simp [Out.blame] at h1
      obtain ⟨rfl, rfl⟩ := h1
      have := h2 rfl
      rw [if_pos rfl] at this
      have := any_finer h3 h4 h5 this
      subst this
      exact h6 rfl
end Go.Proofs.YtnflnbdlgdjfmabDoor
namespace Go.Proofs.YtnflnbdlgdjfmabDoor
set_option linter.unusedVariables false
set_option linter.unusedSimpArgs false
/-- A value, and the same without casts. -/
inductive ER : V → V → Prop
  | num {n : Int} : ER (.num n) (.num n)
  | tru {n : Int} : ER (.tru n) (.tru n)
  | clo {b : Tm} {env env' : List V} (hb : WfT b) (hl : env.length = env'.length) (he : ∀ (i : Nat) (v v' : V), env[i]? = some v → env'[i]? = some v' → ER v v') : ER (.clo b env) (.clo (eraseT b) env')
  | wrap {v v' : V} {f t : Ty} {at' : Int} {back : Bool} (h : ER v v') : ER (.wrap v f t at' back) v'
  | tag {v v' : V} {g : Ty} (h : ER v v') : ER (.tag v g) v'
def EE (env env' : List V) : Prop := env.length = env'.length ∧ ∀ (i : Nat) (v v' : V), env[i]? = some v → env'[i]? = some v' → ER v v'
theorem EE.cons {env env' : List V} {v v' : V} (h : EE env env') (hv : ER v v') : EE (v :: env) (v' :: env') :=
  ⟨by simp [h.1], fun i u u' h1 h2 => by
    cases i with
    | zero => simp at h1 h2; subst h1; subst h2; exact hv
    | succ i => exact h.2 i u u' (by simpa using h1) (by simpa using h2)⟩
theorem castV_er {v v' u : V} {f t : Ty} {n : Int} {b : Bool} (h : castV v f t n b = .inl u) (hv : ER v v') : ER u v' := by
  unfold castV at h
  split at h
  · cases h; exact hv
  split at h
  · cases h; exact .wrap hv
  split at h
  · cases h
    refine .tag ?_
    split
    · exact hv
    · exact .wrap hv
  split at h
  · split at h
    · cases hv with
      | tag hv =>
      split at h
      · split at h
        · cases h; exact hv
        · split at h
          · cases h; exact .wrap hv
          · cases h
      · cases h
    · cases h
  · cases h
theorem seen_er {v v' : V} (h : ER v v') : ∀ {τ : Ty}, VT v τ → v.seen = v'.seen ∧ (∀ a b, τ = .to a b → v'.seen = ⟨3, 0, false⟩) := by
  induction h with
  | num => intro τ ht; cases ht; exact ⟨rfl, fun a b h => by cases h⟩
  | tru => intro τ ht; cases ht; exact ⟨rfl, fun a b h => by cases h⟩
  | clo _ _ _ _ => intro τ ht; exact ⟨rfl, fun a b h => rfl⟩
  | wrap _ ih =>
    intro τ ht
    cases ht with
    | wrap _ _ _ _ _ _ hv =>
      have := (ih hv).2 _ _ rfl
      exact ⟨by rw [this]; rfl, fun a b _ => this⟩
  | tag _ ih =>
    intro τ ht
    cases ht with
    | tag hg hv => exact ⟨(ih hv).1, fun a b h => by cases h⟩
def EC : Cmd → Cmd → Prop
  | .tm t env, c => ∃ env', EE env env' ∧ WfT t ∧ c = .tm (eraseT t) env'
  | .ap f x, c => ∃ f' x', ER f f' ∧ ER x x' ∧ c = .ap f' x'
def ERR : Res → Res → Prop
  | .ok v F, r' => ∃ v', r' = .ok v' F ∧ ER v v'
  | .out o, r' => r' = .out o
/-- Nobody is blamed, nothing stuck. -/
def Well (r : Res) : Prop := ∀ o, r = .out o → o = .fuel
theorem well_ok {v : V} {F : Nat} : Well (.ok v F) := fun o h => by cases h
theorem well_cast {v : V} {f t : Ty} {n : Int} {b : Bool} {F : Nat} (h : Well (castR v f t n b F)) : ∃ u, castV v f t n b = .inl u ∧ castR v f t n b F = .ok u F := by
  unfold castR at *
  cases hc : castV v f t n b with
  | inl u => exact ⟨u, rfl, rfl⟩
  | inr o => rw [hc] at h; have := h o rfl; subst this; exact absurd hc castV_fuel
theorem erase_bin {k n : Int} {t f : Ty} {a b : Tm} (hk : k = 4 ∨ k = 5 ∨ k = 8) : eraseT (.mk k n t f [a, b]) = .mk k n .any .any [eraseT a, eraseT b] := by
  rw [erase_node (by omega) (by omega)]; rfl
theorem erase_if {n : Int} {t f : Ty} {a b c : Tm} : eraseT (.mk 6 n t f [a, b, c]) = .mk 6 n .any .any [eraseT a, eraseT b, eraseT c] := by
  rw [erase_node (by decide) (by decide)]; rfl
theorem not_stuck : ¬ Well (.out .stuck) := fun h => by have := h _ rfl; simp [Out.stuck, Out.fuel] at this
theorem WfT.bin_inv {k n : Int} {t f : Ty} {a b : Tm} (h : WfT (.mk k n t f [a, b])) : WfT a ∧ WfT b := by
  cases h with
  | bin _ ha hb => exact ⟨ha, hb⟩
theorem er_tru {v' : V} {n : Int} (h : ER (.tru n) v') : v' = .tru n := by cases h; rfl
theorem ev_er {c : Cmd} {F : Nat} {r : Res} (h : Ev c F r) : Well r → ∀ c', EC c c' → ∃ r', Ev c' F r' ∧ ERR r r' := by
  induction h with
  | ref hv =>
    rintro _ _ ⟨env', he, hw, rfl⟩
    have hlt := (List.getElem?_eq_some_iff.1 hv).1
    rw [he.1] at hlt
    have hv' := List.getElem?_eq_getElem hlt
    rw [erase_node (by decide) (by decide)]
    exact ⟨_, .ref hv', _, rfl, he.2 _ _ _ hv hv'⟩
  | refS hv => intro hw; exact absurd hw not_stuck
  | lit => rintro _ _ ⟨env', he, hw, rfl⟩; rw [erase_node (by decide) (by decide)]; exact ⟨_, .lit, _, rfl, .num⟩
  | says => rintro _ _ ⟨env', he, hw, rfl⟩; rw [erase_node (by decide) (by decide)]; exact ⟨_, .says, _, rfl, .tru⟩
  | fn =>
    rintro _ _ ⟨env', he, hw, rfl⟩
    rw [erase_node (by decide) (by decide)]
    cases hw with
    | fn hb => exact ⟨_, .fn, _, rfl, .clo hb he.1 he.2⟩
    | bin hk _ _ => omega
  | as _ ih =>
    rintro hr _ ⟨env', he, hw, rfl⟩
    cases hw with
    | as hb => rw [erase_as]; exact ih hr _ ⟨env', he, hb, rfl⟩
    | bin hk _ _ => omega
  | castO _ ih =>
    rintro hr _ ⟨env', he, hw, rfl⟩
    cases hw with
    | cast _ _ hb => rw [erase_cast]; exact ih hr _ ⟨env', he, hb, rfl⟩
    | bin hk _ _ => omega
  | cast _ ih =>
    rintro hr _ ⟨env', he, hw, rfl⟩
    cases hw with
    | cast _ _ hb =>
      rw [erase_cast]
      obtain ⟨u, h1, h2⟩ := well_cast hr
      obtain ⟨r', h3, v', rfl, h4⟩ := ih well_ok _ ⟨env', he, hb, rfl⟩
      exact ⟨_, h3, by rw [h2]; exact ⟨v', rfl, castV_er h1 h4⟩⟩
    | bin hk _ _ => omega
  | ifO _ ih =>
    rintro hr _ ⟨env', he, hw, rfl⟩
    cases hw with
    | ife ha hb hc =>
      rw [erase_if]
      obtain ⟨r', h3, h4⟩ := ih hr _ ⟨env', he, ha, rfl⟩
      have h4 : r' = _ := h4
      subst h4
      exact ⟨_, .ifO h3, rfl⟩
  | ifS _ hv ih => intro hw; exact absurd hw not_stuck
  | ifT _ _ ih1 ih2 =>
    rintro hr _ ⟨env', he, hw, rfl⟩
    cases hw with
    | ife ha hb hc =>
      rw [erase_if]
      obtain ⟨r', h3, v', rfl, h4⟩ := ih1 well_ok _ ⟨env', he, ha, rfl⟩
      obtain rfl := er_tru h4
      obtain ⟨r', h5, h6⟩ := ih2 hr _ ⟨env', he, hb, rfl⟩
      exact ⟨_, .ifT h3 h5, h6⟩
  | ifF _ _ ih1 ih2 =>
    rintro hr _ ⟨env', he, hw, rfl⟩
    cases hw with
    | ife ha hb hc =>
      rw [erase_if]
      obtain ⟨r', h3, v', rfl, h4⟩ := ih1 well_ok _ ⟨env', he, ha, rfl⟩
      obtain rfl := er_tru h4
      obtain ⟨r', h5, h6⟩ := ih2 hr _ ⟨env', he, hc, rfl⟩
      exact ⟨_, .ifF h3 h5, h6⟩
  | binO hk _ ih =>
    rintro hr _ ⟨env', he, hw, rfl⟩
    obtain ⟨ha, hb⟩ := hw.bin_inv
    rw [erase_bin hk]
    obtain ⟨r', h3, h4⟩ := ih hr _ ⟨env', he, ha, rfl⟩
    have h4 : r' = _ := h4
    subst h4
    exact ⟨_, .binO hk h3, rfl⟩
  | binP hk _ _ ih1 ih2 =>
    rintro hr _ ⟨env', he, hw, rfl⟩
    obtain ⟨ha, hb⟩ := hw.bin_inv
    rw [erase_bin hk]
    obtain ⟨r', h3, v', rfl, h4⟩ := ih1 well_ok _ ⟨env', he, ha, rfl⟩
    obtain ⟨r', h5, h6⟩ := ih2 hr _ ⟨env', he, hb, rfl⟩
    have h6 : r' = _ := h6
    subst h6
    exact ⟨_, .binP hk h3 h5, rfl⟩
  | twoV hk _ _ h2 ih1 ih2 =>
    rintro hr _ ⟨env', he, hw, rfl⟩
    obtain ⟨ha, hb⟩ := hw.bin_inv
    rw [erase_bin (hk.imp id .inl)]
    obtain ⟨r', h3, v', rfl, h4⟩ := ih1 well_ok _ ⟨env', he, ha, rfl⟩
    obtain ⟨r', h5, w', rfl, h6⟩ := ih2 well_ok _ ⟨env', he, hb, rfl⟩
    have h2' := h2
    unfold twoV at h2
    split at h2
    · cases h4; cases h6
      refine ⟨_, .twoV hk h3 h5 h2', _, rfl, ?_⟩
      split at h2
      · simp only [Option.some.injEq, Sum.inl.injEq] at h2
        subst h2
        split
        · exact .tru
        · exact .num
      · cases h2
    · cases h2
    · cases h2
  | twoO hk _ _ h2 ih1 ih2 => intro hw; rw [twoV_out h2] at hw; exact absurd hw not_stuck
  | call _ _ _ ih1 ih2 ih3 =>
    rintro hr _ ⟨env', he, hw, rfl⟩
    obtain ⟨ha, hb⟩ := hw.bin_inv
    rw [erase_bin (.inr (.inr rfl))]
    obtain ⟨r', h3, v', rfl, h4⟩ := ih1 well_ok _ ⟨env', he, ha, rfl⟩
    obtain ⟨r', h5, w', rfl, h6⟩ := ih2 well_ok _ ⟨env', he, hb, rfl⟩
    obtain ⟨r', h7, h8⟩ := ih3 hr _ ⟨v', w', h4, h6, rfl⟩
    exact ⟨_, .call h3 h5 h7, h8⟩
  | clo0 =>
    rintro hr _ ⟨f', x', hf, hx, rfl⟩
    cases hf with
    | clo hb hl he => exact ⟨_, .clo0, rfl⟩
  | clo _ ih =>
    rintro hr _ ⟨f', x', hf, hx, rfl⟩
    cases hf with
    | clo hb hl he =>
      obtain ⟨r', h3, h4⟩ := ih hr _ ⟨_, EE.cons ⟨hl, he⟩ hx, hb, rfl⟩
      exact ⟨_, .clo h3, h4⟩
  | wrapO hc =>
    rintro hr
    have := hr _ rfl
    subst this
    exact absurd hc castV_fuel
  | wrapP hc _ ih =>
    rintro hr _ ⟨f', x', hf, hx, rfl⟩
    cases hf with
    | wrap hf => exact ih hr _ ⟨f', x', hf, castV_er hc hx, rfl⟩
  | wrap hc _ ih =>
    rintro hr _ ⟨f', x', hf, hx, rfl⟩
    cases hf with
    | wrap hf =>
      obtain ⟨u, h1, h2⟩ := well_cast hr
      obtain ⟨r', h3, v', rfl, h4⟩ := ih well_ok _ ⟨f', x', hf, castV_er hc hx, rfl⟩
      exact ⟨_, h3, by rw [h2]; exact ⟨v', rfl, castV_er h1 h4⟩⟩
  | apN => intro hw; exact absurd hw not_stuck
  | apT => intro hw; exact absurd hw not_stuck
  | apG => intro hw; exact absurd hw not_stuck
/-- AS LONG AS NOBODY IS BLAMED TYPES CHANGE NOTHING. -/
theorem erased {t : Tm} {τ : Ty} {F : Nat} {r : Res} (ht : HT [] t τ) (h : Ev (.tm t []) F r) (hb : r.told.kind ≠ 4) : ∃ r', Ev (.tm (eraseT t) []) F r' ∧ r'.told = r.told := by
  have hrt := ev_rt h τ ⟨[], ⟨Nat.le_refl _, fun i v ρ h => by simp at h⟩, ht⟩
  have hw : Well r := fun o ho => by
    subst ho
    rcases hrt with rfl | ⟨n, b, rfl⟩
    · rfl
    · exact absurd rfl hb
  obtain ⟨r', h1, h2⟩ := ev_er h hw _ ⟨[], ⟨rfl, fun i v v' h => by simp at h⟩, ht.wf, rfl⟩
  refine ⟨r', h1, ?_⟩
  cases r with
  | ok v F' =>
    obtain ⟨v', rfl, h3⟩ := h2
    exact (seen_er h3 hrt).1.symm
  | out o => rw [show r' = _ from h2]
end Go.Proofs.YtnflnbdlgdjfmabDoor
namespace Go.Proofs.YtnflnbdlgdjfmabDoor
set_option linter.unusedVariables false
set_option linter.unusedSimpArgs false
theorem good_wf : ∀ (a : Tm) (ar ow : Int), a.good ar ow = true → WfT a := fun a => by
  induction a using Tm.ind' with
  | h a ih =>
  intro ar ow hg
  obtain ⟨k, n, t, f, l⟩ := a
  rcases good_cases hg with ⟨e, el, hn, _⟩ | ⟨e, el, hn, _⟩ | ⟨e, el, hn, _⟩ | ⟨e, _, _, p, q, el, gp, gq⟩ | ⟨e, _, _, p, q, s, el, gp, gq, gs⟩ | ⟨e, _, ht, p, el, gp⟩ | ⟨e, _, ht, p, el, gp⟩ <;> simp only [Tm.k_mk, Tm.n_mk, Tm.t_mk, Tm.f_mk, Tm.l_mk] at *
  · subst e el; exact .ref hn
  · subst e el; exact .lit hn
  · subst e el; exact .says hn
  · subst el; exact .bin (by omega) (ih p (by simp) _ _ gp) (ih q (by simp) _ _ gq)
  · subst e el; exact .ife (ih p (by simp) _ _ gp) (ih q (by simp) _ _ gq) (ih s (by simp) _ _ gs)
  · subst e el; exact .fn (ih p (by simp) _ _ gp)
  · subst e el; exact .as (ih p (by simp) _ _ gp)
theorem wf_erase {a : Tm} (h : WfT a) : WfT (eraseT a) := by
  induction h with
  | ref h => rw [erase_node (by decide) (by decide)]; exact .ref h
  | lit h => rw [erase_node (by decide) (by decide)]; exact .lit h
  | says h => rw [erase_node (by decide) (by decide)]; exact .says h
  | fn _ ih => rw [erase_node (by decide) (by decide)]; exact .fn ih
  | as _ ih => rw [erase_as]; exact ih
  | cast _ _ _ ih => rw [erase_cast]; exact ih
  | ife _ _ _ iha ihb ihc => rw [erase_node (by decide) (by decide)]; exact .ife iha ihb ihc
  | bin hk _ _ iha ihb => rw [erase_node (by omega) (by omega)]; exact .bin hk iha ihb
/-- What is asked of a cast, so that it is not blamed so. -/
def SiteSafe (m : Int) (p : Bool) (s : Site) : Prop := s.n = m → if false = p then s.f.finer s.t = true else s.t.finer s.f = true
theorem pt_of_sites {m : Int} {p : Bool} {x : Tm} (hx : WfT x) : (∀ s ∈ sitesT x, SiteSafe m p s) → PT (Safe m p) x := by
  have app : ∀ {l l' : List Site}, (∀ s ∈ l ++ l', SiteSafe m p s) → (∀ s ∈ l, SiteSafe m p s) ∧ ∀ s ∈ l', SiteSafe m p s := fun h => ⟨fun s hs => h s (List.mem_append_left _ hs), fun s hs => h s (List.mem_append_right _ hs)⟩
  induction hx with
  | ref _ => exact fun _ => .mk (fun h => by omega) (fun x h => by cases h)
  | lit _ => exact fun _ => .mk (fun h => by omega) (fun x h => by cases h)
  | says _ => exact fun _ => .mk (fun h => by omega) (fun x h => by cases h)
  | fn _ ih =>
    intro hs
    rw [sitesT_eta] at hs
    refine .mk (fun h => by omega) fun x hx => ?_
    rw [List.mem_singleton.1 hx]
    exact ih (by simpa [sitesL] using (app hs).2)
  | as _ ih =>
    intro hs
    rw [sitesT_eta] at hs
    refine .mk (fun h => by omega) fun x hx => ?_
    rw [List.mem_singleton.1 hx]
    exact ih (by simpa [sitesL] using (app hs).2)
  | cast ht hf _ ih =>
    intro hs
    rw [sitesT_eta] at hs
    refine .mk (fun _ => ⟨ht, hf, ?_⟩) fun x hx => ?_
    · have := (app hs).1 _ (by simp [ownSite]; rfl)
      exact this
    · rw [List.mem_singleton.1 hx]
      exact ih (by simpa [sitesL] using (app hs).2)
  | ife _ _ _ iha ihb ihc =>
    intro hs
    rw [sitesT_eta] at hs
    have h1 := (app hs).2
    simp only [Tm.l_mk, sitesL, List.append_nil] at h1
    refine .mk (fun h => by omega) fun x hx => ?_
    simp only [List.mem_cons, List.not_mem_nil, or_false] at hx
    rcases hx with rfl | rfl | rfl
    · exact iha (app h1).1
    · exact ihb (app (app h1).2).1
    · exact ihc (app (app h1).2).2
  | bin hk _ _ iha ihb =>
    intro hs
    rw [sitesT_eta] at hs
    have h1 := (app hs).2
    simp only [Tm.l_mk, sitesL, List.append_nil] at h1
    refine .mk (fun h => by omega) fun x hx => ?_
    simp only [List.mem_cons, List.not_mem_nil, or_false] at hx
    rcases hx with rfl | rfl
    · exact iha (app h1).1
    · exact ihb (app h1).2
/-- WHO IS TO BLAME: one of the casts; not what it was cast from, if that says more; not who uses it, if that says less. -/
theorem blamed_site {x : Tm} {τ : Ty} {F : Nat} {r : Res} {m : Int} {p : Bool} (hx : WfT x) (h : Ev (.tm x []) F r) (hb : r.told = .blame m p) : ∃ s ∈ sitesT x, s.n = m ∧ (if false = p then s.f.finer s.t = false else s.t.finer s.f = false) := by
  by_cases hall : ∀ s ∈ sitesT x, SiteSafe m p s
  · exact absurd hb (safe_blame h (pt_of_sites hx hall))
  · have : ∃ s ∈ sitesT x, ¬ SiteSafe m p s := Classical.byContradiction fun hn => hall fun s hs => Classical.byContradiction fun h => hn ⟨s, hs, h⟩
    obtain ⟨s, hs, hn⟩ := this
    unfold SiteSafe at hn
    refine ⟨s, hs, ?_⟩
    by_cases hm : s.n = m
    · refine ⟨hm, ?_⟩
      have hn : ¬ if false = p then s.f.finer s.t = true else s.t.finer s.f = true := fun h => hn fun _ => h
      split
      · rename_i hp; rw [if_pos hp] at hn; simpa using hn
      · rename_i hp; rw [if_neg hp] at hn; simpa using hn
    · exact absurd (fun h => absurd h hm) hn
/-- The first of the sites with a number. -/
def findS (S : List Site) (n : Int) : Option Site := S.find? fun s => s.n == n
theorem findS_some {S : List Site} {n : Int} {s : Site} (hd : (S.map Site.n).Nodup) (hs : s ∈ S) (hn : s.n = n) : findS S n = some s := by
  induction S with
  | nil => cases hs
  | cons a S ih =>
    rw [List.map_cons, List.nodup_cons] at hd
    unfold findS
    rcases List.mem_cons.1 hs with rfl | hs
    · simp [hn]
    · have : (a.n == n) = false := by
        rw [beq_eq_false_iff_ne]
        intro e
        exact hd.1 (by rw [e, ← hn]; exact List.mem_map.2 ⟨s, hs, rfl⟩)
      rw [List.find?_cons, this]
      exact ih hd.2 hs
theorem findS_drop {S : List Site} {i : Nat} (h : i < S.length) (n : Int) : findS (S.drop i) n = if S[i].n == n then some S[i] else findS (S.drop (i + 1)) n := by
  unfold findS
  rw [List.drop_eq_getElem_cons h, List.find?_cons]
  cases S[i].n == n <;> rfl
end Go.Proofs.YtnflnbdlgdjfmabDoor
