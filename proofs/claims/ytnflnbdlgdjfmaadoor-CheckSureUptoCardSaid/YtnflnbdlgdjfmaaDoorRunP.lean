/-
  The machine comes to what comes at one go; what comes, comes with more fuel, too. Conditions: those typed in each theorem.
-/
import Derived.Test.YtnflnbdlgdjfmaaDoorRunC
import Derived.Test.YtnflnbdlgdjfmaaDoorChkP
namespace Go.Proofs.YtnflnbdlgdjfmaaDoor
set_option linter.unusedVariables false
set_option linter.unusedSimpArgs false

/-- What comes of the rest, once something has come. -/
def After (r : Res) (s : List Fr) (o : Out) : Prop :=
  match r with
  | .ok v F => ∃ k, Runs k ⟨.val v, s, F⟩ o
  | .out o' => o = o'
/-- What comes of a step. -/
def StepTo (x : Option (Mch ⊕ Out)) (o : Out) : Prop := (∃ k m, x = some (.inl m) ∧ Runs k m o) ∨ x = some (.inr o)
def Begun (c : Cmd) (F : Nat) (s : List Fr) (o : Out) : Prop :=
  match c with
  | .tm t env => StepTo (enterM t env s F) o
  | .ap f x => StepTo (callM f x s F) o
theorem StepTo.runs {m : Mch} {o : Out} (h : StepTo (step m) o) : ∃ k, Runs k m o := by
  rcases h with ⟨k, m', h1, h2⟩ | h
  · exact ⟨k + 1, .go h1 h2⟩
  · exact ⟨0, .fin h⟩
theorem stepTo_inl {m : Mch} {o : Out} (h : ∃ k, Runs k m o) : StepTo (some (.inl m)) o := by
  obtain ⟨k, h⟩ := h
  exact Or.inl ⟨k, m, rfl, h⟩
theorem Begun.runs {t : Tm} {env : List V} {F : Nat} {s : List Fr} {o : Out} (h : Begun (.tm t env) F s o) : ∃ k, Runs k ⟨.ent t env, s, F⟩ o := StepTo.runs (m := ⟨.ent t env, s, F⟩) h
theorem runs_leave {v : V} {f : Fr} {s : List Fr} {F : Nat} {o : Out} (h : StepTo (leaveM v f s F) o) : ∃ k, Runs k ⟨.val v, f :: s, F⟩ o := StepTo.runs (m := ⟨.val v, f :: s, F⟩) h
theorem After.cast {v : V} {f t : Ty} {at' : Int} {back : Bool} {F : Nat} {s : List Fr} {o : Out} (h : After (castR v f t at' back F) s o) : ∃ k, Runs k ⟨.val v, .casts f t at' back :: s, F⟩ o := by
  refine StepTo.runs ?_
  show StepTo (match castV v f t at' back with | .inl u => some (.inl ⟨.val u, s, F⟩) | .inr o => some (.inr o)) o
  unfold castR at h
  cases hc : castV v f t at' back with
  | inl u => rw [hc] at h; exact stepTo_inl h
  | inr o' => rw [hc] at h; have h : o = o' := h; subst h; exact .inr rfl

theorem bin_enter {k n : Int} {t f : Ty} {a b : Tm} {env : List V} {s : List Fr} {F : Nat} (hk : k = 4 ∨ k = 5 ∨ k = 8) : enterM (.mk k n t f [a, b]) env s F = some (.inl ⟨.ent a env, .term (.mk k n t f [a, b]) env :: s, F⟩) := by
  rcases hk with rfl | rfl | rfl <;> rfl
theorem bin_leave {k n : Int} {t f : Ty} {a b : Tm} {env : List V} {s : List Fr} {F : Nat} {v : V} (hk : k = 4 ∨ k = 5 ∨ k = 8) : leaveM v (.term (.mk k n t f [a, b]) env) s F = some (.inl ⟨.ent b env, .second (.mk k n t f [a, b]) v :: s, F⟩) := by
  rcases hk with rfl | rfl | rfl <;> rfl

theorem ev_begun {c : Cmd} {F : Nat} {r : Res} (h : Ev c F r) : ∀ (s : List Fr) (o : Out), After r s o → Begun c F s o := by
  induction h with
  | ref hv => intro s o ha; refine (?_ : StepTo (enterM _ _ _ _) o); simp only [enterM, Tm.k_mk, Tm.n_mk, hv]; exact stepTo_inl ha
  | refS hv => intro s o ha; refine (?_ : StepTo (enterM _ _ _ _) o); simp only [enterM, Tm.k_mk, Tm.n_mk, hv]; have ha : o = _ := ha; subst ha; exact .inr rfl
  | lit => intro s o ha; exact stepTo_inl ha
  | says => intro s o ha; exact stepTo_inl ha
  | fn => intro s o ha; exact stepTo_inl ha
  | as _ ih => intro s o ha; exact stepTo_inl (ih s o ha).runs
  | castO _ ih => intro s o ha; exact stepTo_inl (ih (.casts _ _ _ false :: s) o ha).runs
  | cast _ ih => intro s o ha; exact stepTo_inl (ih (.casts _ _ _ false :: s) o ha.cast).runs
  | ifO _ ih => intro s o ha; exact stepTo_inl (ih (.term _ _ :: s) o ha).runs
  | ifS _ hv ih =>
    rename_i v _
    intro s o ha
    refine stepTo_inl (ih (.term _ _ :: s) o ?_).runs
    have ha : o = _ := ha
    subst ha
    refine ⟨0, .fin ?_⟩
    cases v with
    | tru n => exact absurd rfl (hv n)
    | _ => rfl
  | ifT _ _ ih1 ih2 => intro s o ha; refine stepTo_inl (ih1 (.term _ _ :: s) o ?_).runs; exact runs_leave (stepTo_inl (ih2 s o ha).runs)
  | ifF _ _ ih1 ih2 => intro s o ha; refine stepTo_inl (ih1 (.term _ _ :: s) o ?_).runs; exact runs_leave (stepTo_inl (ih2 s o ha).runs)
  | binO hk _ ih => intro s o ha; refine (?_ : StepTo (enterM _ _ _ _) o); rw [bin_enter hk]; exact stepTo_inl (ih (.term _ _ :: s) o ha).runs
  | binP hk _ _ ih1 ih2 =>
    intro s o ha; refine (?_ : StepTo (enterM _ _ _ _) o); rw [bin_enter hk]
    refine stepTo_inl (ih1 (.term _ _ :: s) o ?_).runs
    refine runs_leave ?_; rw [bin_leave hk]
    exact stepTo_inl (ih2 (.second _ _ :: s) o ha).runs
  | twoV hk _ _ h2 ih1 ih2 =>
    have hk' := hk
    intro s o ha; refine (?_ : StepTo (enterM _ _ _ _) o); rw [bin_enter (hk.imp id .inl)]
    refine stepTo_inl (ih1 (.term _ _ :: s) o ?_).runs
    refine runs_leave ?_; rw [bin_leave (hk'.imp id .inl)]
    refine stepTo_inl (ih2 (.second _ _ :: s) o ?_).runs
    refine runs_leave ?_
    rcases hk' with rfl | rfl <;> (simp only [leaveM, Tm.k_mk, h2]; exact stepTo_inl ha)
  | twoO hk _ _ h2 ih1 ih2 =>
    have hk' := hk
    intro s o ha; refine (?_ : StepTo (enterM _ _ _ _) o); rw [bin_enter (hk.imp id .inl)]
    refine stepTo_inl (ih1 (.term _ _ :: s) o ?_).runs
    refine runs_leave ?_; rw [bin_leave (hk'.imp id .inl)]
    refine stepTo_inl (ih2 (.second _ _ :: s) o ?_).runs
    refine runs_leave ?_
    have ha : o = _ := ha
    subst ha
    rcases hk' with rfl | rfl <;> (simp only [leaveM, Tm.k_mk, h2]; exact .inr rfl)
  | call _ _ _ ih1 ih2 ih3 =>
    intro s o ha; refine (?_ : StepTo (enterM _ _ _ _) o); rw [bin_enter (.inr (.inr rfl))]
    refine stepTo_inl (ih1 (.term _ _ :: s) o ?_).runs
    refine runs_leave ?_; rw [bin_leave (.inr (.inr rfl))]
    refine stepTo_inl (ih2 (.second _ _ :: s) o ?_).runs
    exact runs_leave (ih3 s o ha)
  | clo0 => intro s o ha; have ha : o = _ := ha; subst ha; exact .inr rfl
  | clo _ ih => intro s o ha; exact stepTo_inl (ih s o ha).runs
  | wrapO hc => intro s o ha; have ha : o = _ := ha; subst ha; refine (?_ : StepTo (callM _ _ _ _) _); simp only [callM, Ty.l_mk, hc]; exact .inr rfl
  | wrapP hc _ ih => intro s o ha; refine (?_ : StepTo (callM _ _ _ _) _); simp only [callM, Ty.l_mk, hc]; exact stepTo_inl (StepTo.runs (ih (.casts _ _ _ _ :: s) o ha))
  | wrap hc _ ih => intro s o ha; refine (?_ : StepTo (callM _ _ _ _) _); simp only [callM, Ty.l_mk, hc]; exact stepTo_inl (StepTo.runs (ih (.casts _ _ _ _ :: s) o ha.cast))
  | apN => intro s o ha; have ha : o = _ := ha; subst ha; exact .inr rfl
  | apT => intro s o ha; have ha : o = _ := ha; subst ha; exact .inr rfl
  | apG => intro s o ha; have ha : o = _ := ha; subst ha; exact .inr rfl
/-- THE MACHINE COMES TO WHAT COMES AT ONE GO. -/
theorem ev_runs {t : Tm} {F : Nat} {r : Res} (h : Ev (.tm t []) F r) : ∃ k, Runs k ⟨.ent t [], [], F⟩ r.told :=
  (ev_begun h [] r.told (by cases r with
    | ok v F => exact ⟨0, .fin rfl⟩
    | out o => exact rfl)).runs

/-! ### More fuel -/
def Res.more (r : Res) (d : Nat) : Res := match r with | .ok v F => .ok v (F + d) | .out o => .out o
theorem castR_more (v : V) (f t : Ty) (at' : Int) (back : Bool) (F d : Nat) : (castR v f t at' back F).more d = castR v f t at' back (F + d) := by
  unfold castR; cases castV v f t at' back <;> rfl
theorem castR_out {v : V} {f t : Ty} {at' : Int} {back : Bool} {F F' : Nat} {o : Out} (h : castR v f t at' back F = .out o) : castR v f t at' back F' = .out o := by
  unfold castR at *; cases hc : castV v f t at' back <;> rw [hc] at h <;> cases h <;> rfl
theorem castV_out {v : V} {f t : Ty} {at' : Int} {back : Bool} {o : Out} (h : castV v f t at' back = .inr o) : o = .stuck ∨ o = .blame at' back := by
  unfold castV at h
  split at h; · cases h
  split at h; · cases h
  split at h; · cases h
  split at h
  · split at h
    · split at h
      · split at h; · cases h
        split at h; · cases h
        cases h; exact .inl rfl
      · cases h; exact .inr rfl
    · cases h; exact .inl rfl
  · cases h; exact .inl rfl
theorem castV_fuel {v : V} {f t : Ty} {at' : Int} {back : Bool} : castV v f t at' back ≠ .inr .fuel := fun h => by
  rcases castV_out h with h | h <;> simp [Out.fuel, Out.stuck, Out.blame] at h
theorem twoV_out {k : Int} {v w : V} {o : Out} (h : twoV k v w = some (.inr o)) : o = .stuck := by
  unfold twoV at h
  split at h
  · split at h <;> cases h
  · cases h; rfl
  · cases h; rfl
theorem ev_more {c : Cmd} {F : Nat} {r : Res} (h : Ev c F r) (d : Nat) (hr : r ≠ .out .fuel) : Ev c (F + d) (r.more d) := by
  induction h with
  | ref hv => exact .ref hv
  | refS hv => exact .refS hv
  | lit => exact .lit
  | says => exact .says
  | fn => exact .fn
  | as _ ih => exact .as (ih hr)
  | castO _ ih => exact .castO (ih hr)
  | cast _ ih => rw [castR_more]; exact .cast (ih (by simp))
  | ifO _ ih => exact .ifO (ih hr)
  | ifS _ hv ih => exact .ifS (ih (by simp)) hv
  | ifT _ _ ih1 ih2 => exact .ifT (ih1 (by simp)) (ih2 hr)
  | ifF _ _ ih1 ih2 => exact .ifF (ih1 (by simp)) (ih2 hr)
  | binO hk _ ih => exact .binO hk (ih hr)
  | binP hk _ _ ih1 ih2 => exact .binP hk (ih1 (by simp)) (ih2 hr)
  | twoV hk _ _ h2 ih1 ih2 => exact .twoV hk (ih1 (by simp)) (ih2 (by simp)) h2
  | twoO hk _ _ h2 ih1 ih2 => exact .twoO hk (ih1 (by simp)) (ih2 (by simp)) h2
  | call _ _ _ ih1 ih2 ih3 => exact .call (ih1 (by simp)) (ih2 (by simp)) (ih3 hr)
  | clo0 => exact absurd rfl hr
  | clo _ ih => rename_i F r _; have := Ev.clo (ih hr); rwa [show F + d + 1 = F + 1 + d by omega] at this
  | wrapO hc => exact .wrapO hc
  | wrapP hc _ ih => exact .wrapP hc (ih hr)
  | wrap hc _ ih => rw [castR_more]; exact .wrap hc (ih (by simp))
  | apN => exact .apN
  | apT => exact .apT
  | apG => exact .apG
/-- What has come comes with more fuel, too. -/
theorem more_told {t : Tm} {F : Nat} {r : Res} (h : Ev (.tm t []) F r) (d : Nat) (hr : r.told ≠ .fuel) : ∃ r', Ev (.tm t []) (F + d) r' ∧ r'.told = r.told :=
  ⟨_, ev_more h d (fun e => hr (by rw [e]; rfl)), by cases r <;> rfl⟩
end Go.Proofs.YtnflnbdlgdjfmaaDoor
