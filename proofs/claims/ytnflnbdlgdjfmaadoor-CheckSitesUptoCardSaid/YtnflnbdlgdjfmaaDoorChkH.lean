/-
  What the checker answers has the type that it tells. Conditions: those typed in each theorem.
-/
import Derived.Test.YtnflnbdlgdjfmaaDoorRunH
namespace Go.Proofs.YtnflnbdlgdjfmaaDoor
set_option linter.unusedVariables false
set_option linter.unusedSimpArgs false

theorem asT_ht {Γ : List Ty} {x : Tm} {k w : Ty} {n : Int} (h : HT Γ x k) (hk : Right k) (hw : Right w) (hs : k.fits w = true) : HT Γ (asT x k w n) w := by
  unfold asT
  split
  · rename_i h1; have := same_eq h1; subst this; exact h
  · exact .cast hw hk hs h
theorem kid_to_ht {Γ : List Ty} {x : Kid} {w : Ty} {y : Tm} (h : HT Γ x.t x.k) (hk : Right x.k) (hw : Right w) (hy : x.to w = some y) : HT Γ y w := by
  unfold Kid.to at hy
  split at hy
  · rename_i hs; cases hy; exact asT_ht h hk hw hs
  · cases hy
/-- What the checker answers has the type that it tells. -/
theorem walk_ht : ∀ (a : Tm) (env : List Ty) (m : Int) (x : Tm) (k : Ty), a.good 0 env.length = true → (∀ t ∈ env, Right t) → walkT a env m = some (x, k) → HT env.reverse x k ∧ Right k := fun a => by
  induction a using Tm.ind' with
  | h a ih =>
  intro env m x k hg he h
  obtain ⟨ak, an, at', af, al⟩ := a
  have h0 : ((0 : Int) - (env.length : Int)) = -(env.length : Int) := by omega
  rcases good_cases hg with ⟨e, el, hn, hn2, _⟩ | ⟨e, el, hn, _⟩ | ⟨e, el, hn, _⟩ | ⟨e, _, _, p, q, el, gp, gq⟩ | ⟨e, _, _, p, q, s, el, gp, gq, gs⟩ | ⟨e, _, ht, p, el, gp⟩ | ⟨e, _, ht, p, el, gp⟩ <;> simp only [Tm.k_mk, Tm.n_mk, Tm.t_mk, Tm.f_mk, Tm.l_mk] at *
  · subst e el
    rw [walkT_eta] at h; simp at h
    obtain ⟨rfl, rfl⟩ := h
    have hlt : env.length - 1 - an.toNat < env.length := by omega
    have hget : env[env.length - 1 - an.toNat]? = some env[env.length - 1 - an.toNat] := List.getElem?_eq_getElem hlt
    rw [hget]
    refine ⟨.ref hn ?_, he _ (List.getElem_mem hlt)⟩
    rw [List.getElem?_reverse (by omega), hget]; rfl
  · subst e el; rw [walkT_eta] at h; simp at h; obtain ⟨rfl, rfl⟩ := h; exact ⟨.lit hn, .num⟩
  · subst e el; rw [walkT_eta] at h; simp at h; obtain ⟨rfl, rfl⟩ := h; exact ⟨.says hn, .truth⟩
  · obtain ⟨ks, ws, l', hks, hw, hc, rfl⟩ := walkT_node (by simp; omega) (by simp; omega) (by simp; omega) h
    rw [if_neg (by simp; omega)] at hks
    subst el
    simp only [Tm.k_mk, Tm.n_mk, Tm.t_mk, Tm.f_mk, Tm.l_mk] at *
    obtain ⟨x1, k1, ks1, rfl, w1, hks⟩ := walkL_cons hks
    obtain ⟨x2, k2, ks2, rfl, w2, hks⟩ := walkL_cons hks
    obtain rfl := walkL_nil hks
    obtain ⟨t1, r1⟩ := ih p (by simp) env _ x1 k1 gp he w1
    obtain ⟨t2, r2⟩ := ih q (by simp) env _ x2 k2 gq he w2
    rcases e with rfl | rfl | rfl <;> simp [wants] at hw
    · obtain ⟨rfl, rfl⟩ := hw
      obtain ⟨y1, l1, rfl, c1, hc⟩ := casts_cons hc
      obtain ⟨y2, rfl, c2⟩ := casts1 hc
      exact ⟨.add (kid_to_ht t1 r1 .num c1) (kid_to_ht t2 r2 .num c2), .num⟩
    · obtain ⟨rfl, rfl⟩ := hw
      obtain ⟨y1, l1, rfl, c1, hc⟩ := casts_cons hc
      obtain ⟨y2, rfl, c2⟩ := casts1 hc
      exact ⟨.less (kid_to_ht t1 r1 .num c1) (kid_to_ht t2 r2 .num c2), .truth⟩
    · have hg : Right (if k1.k = 0 then (Ty.mk 3 []).ground else k1) := by
        split
        · exact .to .any .any
        · exact r1
      generalize (if k1.k = 0 then (Ty.mk 3 []).ground else k1) = g at hw hg
      obtain ⟨h3, hw⟩ := hw
      cases hg with
      | base hb => simp at h3; omega
      | fn ra rb =>
        simp at hw
        obtain ⟨rfl, rfl⟩ := hw
        obtain ⟨y1, l1, rfl, c1, hc⟩ := casts_cons hc
        obtain ⟨y2, rfl, c2⟩ := casts1 hc
        exact ⟨.call (kid_to_ht t1 r1 (.to ra rb) c1) (kid_to_ht t2 r2 ra c2), rb⟩
  · subst e
    obtain ⟨ks, ws, l', hks, hw, hc, rfl⟩ := walkT_node (by simp) (by simp) (by simp) h
    subst el
    simp at hks
    simp only [Tm.k_mk, Tm.n_mk, Tm.t_mk, Tm.f_mk, Tm.l_mk] at *
    obtain ⟨x1, k1, ks1, rfl, w1, hks⟩ := walkL_cons hks
    obtain ⟨x2, k2, ks2, rfl, w2, hks⟩ := walkL_cons hks
    obtain ⟨x3, k3, ks3, rfl, w3, hks⟩ := walkL_cons hks
    obtain rfl := walkL_nil hks
    obtain ⟨t1, r1⟩ := ih p (by simp) env _ x1 k1 gp he w1
    obtain ⟨t2, r2⟩ := ih q (by simp) env _ x2 k2 gq he w2
    obtain ⟨t3, r3⟩ := ih s (by simp) env _ x3 k3 gs he w3
    simp [wants] at hw
    obtain ⟨hf, rfl, rfl⟩ := hw
    obtain ⟨y1, l1, rfl, c1, hc⟩ := casts_cons hc
    obtain ⟨y2, l2, rfl, c2, hc⟩ := casts_cons hc
    obtain ⟨y3, rfl, c3⟩ := casts1 hc
    have rj := right_join r2 r3
    exact ⟨.ife (kid_to_ht t1 r1 .truth c1) (kid_to_ht t2 r2 rj c2) (kid_to_ht t3 r3 rj c3), rj⟩
  · subst e
    obtain ⟨ks, ws, l', hks, hw, hc, rfl⟩ := walkT_node (by simp) (by simp) (by simp) h
    subst el
    simp at hks
    simp only [Tm.k_mk, Tm.n_mk, Tm.t_mk, Tm.f_mk, Tm.l_mk] at *
    obtain ⟨x1, k1, ks1, rfl, w1, hks⟩ := walkL_cons hks
    obtain rfl := walkL_nil hks
    have rt := good_right ht
    obtain ⟨t1, r1⟩ := ih p (by simp) (env ++ [at']) _ x1 k1 (by simpa using gp) (fun t ht => by
      rcases List.mem_append.1 ht with ht | ht
      · exact he t ht
      · rw [List.mem_singleton.1 ht]; exact rt) w1
    simp [wants] at hw
    obtain ⟨rfl, rfl⟩ := hw
    obtain ⟨y1, rfl, c1⟩ := casts1 hc
    rw [List.reverse_append, List.reverse_singleton, List.singleton_append] at t1
    exact ⟨.fn (kid_to_ht t1 r1 r1 c1), .to rt r1⟩
  · subst e
    obtain ⟨ks, ws, l', hks, hw, hc, rfl⟩ := walkT_node (by simp) (by simp) (by simp) h
    subst el
    simp at hks
    simp only [Tm.k_mk, Tm.n_mk, Tm.t_mk, Tm.f_mk, Tm.l_mk] at *
    obtain ⟨x1, k1, ks1, rfl, w1, hks⟩ := walkL_cons hks
    obtain rfl := walkL_nil hks
    have rt := good_right ht
    obtain ⟨t1, r1⟩ := ih p (by simp) env _ x1 k1 gp he w1
    simp [wants] at hw
    obtain ⟨rfl, rfl⟩ := hw
    obtain ⟨y1, rfl, c1⟩ := casts1 hc
    exact ⟨.as (kid_to_ht t1 r1 rt c1), rt⟩
end Go.Proofs.YtnflnbdlgdjfmaaDoor
