/-
  Something always comes of a term of the right form. Conditions: those typed in each theorem.
-/
import Derived.Test.YtnflnbdlgdjfmaaDoorRunP
namespace Go.Proofs.YtnflnbdlgdjfmaaDoor
set_option linter.unusedVariables false
set_option linter.unusedSimpArgs false

/-- A term of the right form. -/
inductive WfT : Tm → Prop
  | ref {n : Int} {t f : Ty} (h : 0 ≤ n) : WfT (.mk 1 n t f [])
  | lit {n : Int} {t f : Ty} (h : inB n = true) : WfT (.mk 2 n t f [])
  | says {n : Int} {t f : Ty} (h : n = 0 ∨ n = 1) : WfT (.mk 3 n t f [])
  | fn {n : Int} {t f : Ty} {b : Tm} (h : WfT b) : WfT (.mk 7 n t f [b])
  | as {n : Int} {t f : Ty} {b : Tm} (h : WfT b) : WfT (.mk 9 n t f [b])
  | cast {n : Int} {t f : Ty} {b : Tm} (ht : Right t) (hf : Right f) (h : WfT b) : WfT (.mk 10 n t f [b])
  | ife {n : Int} {t f : Ty} {a b c : Tm} (ha : WfT a) (hb : WfT b) (hc : WfT c) : WfT (.mk 6 n t f [a, b, c])
  | bin {k n : Int} {t f : Ty} {a b : Tm} (hk : k = 4 ∨ k = 5 ∨ k = 8) (ha : WfT a) (hb : WfT b) : WfT (.mk k n t f [a, b])
/-- A value of the right form. -/
inductive WfV : V → Prop
  | num {n : Int} (h : inB n = true) : WfV (.num n)
  | tru {n : Int} (h : n = 0 ∨ n = 1) : WfV (.tru n)
  | clo {b : Tm} {env : List V} (hb : WfT b) (he : ∀ v ∈ env, WfV v) : WfV (.clo b env)
  | wrap {v : V} {f0 f1 t0 t1 : Ty} {at' : Int} {back : Bool} (h0 : Right f0) (h1 : Right f1) (h2 : Right t0) (h3 : Right t1) (hv : WfV v) : WfV (.wrap v (.mk 3 [f0, f1]) (.mk 3 [t0, t1]) at' back)
  | tag {v : V} {g : Ty} (hg : Right g) (hv : WfV v) : WfV (.tag v g)
def WfR (F : Nat) : Res → Prop
  | .ok v F' => WfV v ∧ F' ≤ F
  | .out _ => True

theorem clamp_in (n : Int) : inB (clamp n) = true := by rw [inB_iff]; unfold clamp; omega
theorem wf_wrap {v : V} {f t : Ty} {at' : Int} {back : Bool} (hv : WfV v) (hf : Right f) (ht : Right t) (h1 : f.k = 3) (h2 : t.k = 3) : WfV (.wrap v f t at' back) := by
  cases hf with
  | base h => simp at h1; omega
  | fn a b =>
    cases ht with
    | base h => simp at h2; omega
    | fn c d => exact .wrap a b c d hv
theorem right_base {f : Ty} (hf : Right f) (h : f.k ≠ 3) : f.ground = f := by
  cases hf with
  | base _ => simp at h; simp [Ty.ground, h]
  | fn _ _ => exact absurd rfl h
theorem castV_wf {v u : V} {f t : Ty} {at' : Int} {back : Bool} (hv : WfV v) (hf : Right f) (ht : Right t) (h : castV v f t at' back = .inl u) : WfV u := by
  unfold castV at h
  split at h
  · cases h; exact hv
  split at h
  · rename_i hk
    cases h
    simp only [Bool.and_eq_true, beq_iff_eq] at hk
    exact wf_wrap hv hf ht hk.1 hk.2
  split at h
  · cases h
    refine .tag hf.ground ?_
    split
    · exact hv
    · rename_i hs
      have h3 : f.k = 3 := Decidable.byContradiction fun h3 => hs (by rw [right_base hf h3]; exact same_refl f)
      exact wf_wrap hv hf hf.ground h3 (by unfold Ty.ground; rw [if_pos (by simpa using h3)]; rfl)
  split at h
  · split at h
    · cases hv with
      | tag hg hv =>
      split at h
      · split at h
        · cases h; exact hv
        · split at h
          · rename_i h3
            cases h
            have h3 : t.k = 3 := by simpa using h3
            exact wf_wrap hv ht.ground ht (by unfold Ty.ground; rw [if_pos (by simpa using h3)]; rfl) h3
          · cases h
      · cases h
    · cases h
  · cases h
theorem castR_wf {v : V} {f t : Ty} {at' : Int} {back : Bool} {F F' : Nat} (hv : WfV v) (hf : Right f) (ht : Right t) (hF : F' ≤ F) : WfR F (castR v f t at' back F') := by
  unfold castR
  cases h : castV v f t at' back with
  | inl u => exact ⟨castV_wf hv hf ht h, hF⟩
  | inr o => trivial
theorem WfR.le {F F' : Nat} {r : Res} (h : WfR F r) (hF : F ≤ F') : WfR F' r := by
  cases r with
  | ok v G => exact ⟨h.1, Nat.le_trans h.2 hF⟩
  | out o => trivial

def TmEx (F : Nat) : Prop := ∀ t env, WfT t → (∀ v ∈ env, WfV v) → ∃ r, Ev (.tm t env) F r ∧ WfR F r
theorem ap_ex {F : Nat} (ih : ∀ F', F' < F → TmEx F') {f : V} (hf : WfV f) : ∀ x, WfV x → ∃ r, Ev (.ap f x) F r ∧ WfR F r := by
  induction hf with
  | num h => exact fun x _ => ⟨_, .apN, trivial⟩
  | tru h => exact fun x _ => ⟨_, .apT, trivial⟩
  | tag _ _ _ => exact fun x _ => ⟨_, .apG, trivial⟩
  | clo hb he _ =>
    intro x hx
    cases F with
    | zero => exact ⟨_, .clo0, trivial⟩
    | succ F =>
      obtain ⟨r, hr, hw⟩ := ih F (by omega) _ (x :: _) hb fun v hv => by
        rcases List.mem_cons.1 hv with rfl | hv
        · exact hx
        · exact he v hv
      exact ⟨r, .clo hr, hw.le (by omega)⟩
  | wrap h0 h1 h2 h3 hv ihv =>
    rename_i u f0 f1 t0 t1 at' back
    intro x hx
    cases hc : castV x t0 f0 at' (!back) with
    | inr o => exact ⟨_, .wrapO hc, trivial⟩
    | inl y =>
      obtain ⟨r, hr, hw⟩ := ihv y (castV_wf hx h2 h0 hc)
      cases r with
      | out o => exact ⟨_, .wrapP hc hr, trivial⟩
      | ok v F' => exact ⟨_, .wrap hc hr, castR_wf hw.1 h1 h3 hw.2⟩
theorem twoV_ex {k : Int} {v w : V} (hv : WfV v) (hw : WfV w) : (∃ u, twoV k v w = some (.inl u) ∧ WfV u) ∨ ∃ o, twoV k v w = some (.inr o) := by
  cases hv with
  | num h =>
    cases hw with
    | num h' =>
      refine .inl ⟨_, by simp only [twoV, h, h']; rfl, ?_⟩
      split
      · split
        · exact .tru (.inr rfl)
        · exact .tru (.inl rfl)
      · exact .num (clamp_in _)
    | _ => exact .inr ⟨_, rfl⟩
  | _ => exact .inr ⟨_, rfl⟩
/-- SOMETHING ALWAYS COMES. -/
theorem tm_ex (F : Nat) : TmEx F := by
  induction F using Nat.strongRecOn with
  | ind F ih =>
  intro t env ht he
  have sub : ∀ {a : Tm}, (∃ r, Ev (.tm a env) F r ∧ WfR F r) → WfT a → ∀ F', F' ≤ F → ∃ r, Ev (.tm a env) F' r ∧ WfR F' r := fun h hw F' hF => by
    rcases Nat.lt_or_ge F' F with hlt | hge
    · exact ih F' hlt _ _ hw he
    · obtain rfl : F' = F := by omega
      exact h
  induction ht with
  | ref h =>
    rename_i n _ _
    cases hv : env[n.toNat]? with
    | none => exact ⟨_, .refS hv, trivial⟩
    | some v => exact ⟨_, .ref hv, he v (List.mem_of_getElem? hv), Nat.le_refl _⟩
  | lit h => exact ⟨_, .lit, .num h, Nat.le_refl _⟩
  | says h => exact ⟨_, .says, .tru h, Nat.le_refl _⟩
  | fn h _ => exact ⟨_, .fn, .clo h he, Nat.le_refl _⟩
  | as h iha =>
    obtain ⟨r, hr, hw⟩ := iha
    exact ⟨r, .as hr, hw⟩
  | cast ht hf h iha =>
    obtain ⟨r, hr, hw⟩ := iha
    cases r with
    | out o => exact ⟨_, .castO hr, trivial⟩
    | ok v F' => exact ⟨_, .cast hr, castR_wf hw.1 hf ht hw.2⟩
  | ife ha hb hc iha ihb ihc =>
    obtain ⟨r, hr, hw⟩ := iha
    cases r with
    | out o => exact ⟨_, .ifO hr, trivial⟩
    | ok v F' =>
      obtain ⟨hv, hF⟩ := hw
      cases hv with
      | tru h =>
        rcases h with rfl | rfl
        · obtain ⟨r, h1, h2⟩ := sub ihc hc F' hF
          exact ⟨r, .ifF hr h1, h2.le hF⟩
        · obtain ⟨r, h1, h2⟩ := sub ihb hb F' hF
          exact ⟨r, .ifT hr h1, h2.le hF⟩
      | _ => exact ⟨_, .ifS hr (by simp), trivial⟩
  | bin hk ha hb iha ihb =>
    obtain ⟨r, hr, hw⟩ := iha
    cases r with
    | out o => exact ⟨_, .binO hk hr, trivial⟩
    | ok v F' =>
      obtain ⟨hv, hF⟩ := hw
      obtain ⟨r, h1, h2⟩ := sub ihb hb F' hF
      cases r with
      | out o => exact ⟨_, .binP hk hr h1, trivial⟩
      | ok w F'' =>
        obtain ⟨hw, hF2⟩ := h2
        have key : ∀ {k n : Int} {t f : Ty}, k = 4 ∨ k = 5 → ∃ r, Ev (.tm (.mk k n t f [_, _]) env) F r ∧ WfR F r := fun {k n t f} hk => by
          rcases twoV_ex (k := k) hv hw with ⟨u, h3, h4⟩ | ⟨o, h3⟩
          · exact ⟨_, .twoV hk hr h1 h3, h4, by omega⟩
          · exact ⟨_, .twoO hk hr h1 h3, trivial⟩
        rcases hk with rfl | rfl | rfl
        · exact key (.inl rfl)
        · exact key (.inr rfl)
        · obtain ⟨r, h3, h4⟩ := ap_ex (F := F'') (fun F' h => ih F' (by omega)) hv w hw
          exact ⟨r, .call hr h1 h3, h4.le (by omega)⟩
end Go.Proofs.YtnflnbdlgdjfmaaDoor
