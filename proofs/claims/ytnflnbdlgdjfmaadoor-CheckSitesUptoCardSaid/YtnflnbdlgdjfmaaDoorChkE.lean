/-
  Where a term is cast; what is sure is not; without casts it is the term. Conditions: those typed in each theorem.
-/
import Derived.Test.YtnflnbdlgdjfmaaDoorChkD
namespace Go.Proofs.YtnflnbdlgdjfmaaDoor
set_option linter.unusedVariables false
set_option linter.unusedSimpArgs false

theorem eraseT_asT {x : Tm} {k w : Ty} {n : Int} : eraseT (asT x k w n) = eraseT x := by
  unfold asT
  split
  · rfl
  · exact erase_cast
theorem erase_kid {x : Kid} {w : Ty} {y : Tm} (h : x.to w = some y) : eraseT y = eraseT x.t := by
  unfold Kid.to at h
  split at h
  · cases h; exact eraseT_asT
  · cases h
theorem eraseL_casts : ∀ {ks : List Kid} {ws : List Ty} {l : List Tm}, casts ks ws = some l → eraseL l = ks.map fun x => eraseT x.t
  | [], ws, l, h => by cases ws <;> (simp only [casts] at h; cases h; rfl)
  | x :: xs, [], l, h => by simp [casts] at h
  | x :: xs, w :: ws, l, h => by
    obtain ⟨y, l', rfl, h1, h2⟩ := casts_cons h
    simp only [eraseL, List.map_cons]
    rw [erase_kid h1, eraseL_casts h2]
theorem eraseL_walk : ∀ {l : List Tm} {env : List Ty} {m : Int} {ks : List Kid}, (∀ a ∈ l, ∀ m x k, walkT a env m = some (x, k) → eraseT x = eraseT a) → walkL l env m = some ks → (ks.map fun x => eraseT x.t) = eraseL l
  | [], env, m, ks, _, h => by rw [walkL_nil h]; rfl
  | a :: l, env, m, ks, ih, h => by
    obtain ⟨x, k, ks', rfl, h1, h2⟩ := walkL_cons h
    simp only [List.map_cons, eraseL]
    rw [ih a (List.mem_cons_self ..) _ _ _ h1, eraseL_walk (fun b hb => ih b (List.mem_cons_of_mem _ hb)) h2]
/-- A leaf is answered as it is. -/
theorem walkT_leaf {a : Tm} {env : List Ty} {m : Int} {x : Tm} {k : Ty} (hk : a.k = 1 ∨ a.k = 2 ∨ a.k = 3) (h : walkT a env m = some (x, k)) : x = a := by
  rw [walkT_eta] at h
  split at h
  · cases h; rfl
  split at h
  · cases h; rfl
  split at h
  · cases h; rfl
  · rename_i h1 h2 h3; simp at h1 h2 h3; omega
/-- Without casts it is the term. -/
theorem walk_erase : ∀ (a : Tm) (env : List Ty) (m : Int) (x : Tm) (k : Ty) (ar ow : Int), a.good ar ow = true → walkT a env m = some (x, k) → eraseT x = eraseT a := fun a => by
  induction a using Tm.ind' with
  | h a ih =>
  intro env m x k ar ow hg h
  by_cases hk : a.k = 1 ∨ a.k = 2 ∨ a.k = 3
  · rw [walkT_leaf hk h]
  obtain ⟨ks, ws, l', hks, hw, hc, rfl⟩ := walkT_node (by omega) (by omega) (by omega) h
  have hgl : goodL a.l ar (if a.k == 7 then ow + 1 else ow) = true := by rw [goodT_eta, Bool.and_eq_true] at hg; exact hg.2
  have he : eraseL l' = eraseL a.l := by
    rw [eraseL_casts hc]
    exact eraseL_walk (fun b hb m x k hw => ih b hb _ m x k _ _ (goodL_mem hgl b hb) hw) hks
  obtain ⟨k', n, t, f, l⟩ := a
  simp only [Tm.k_mk, Tm.n_mk, Tm.t_mk, Tm.f_mk, Tm.l_mk] at *
  by_cases h9 : k' = 9
  · subst h9
    rcases good_cases hg with ⟨e, _⟩ | ⟨e, _⟩ | ⟨e, _⟩ | ⟨e, _⟩ | ⟨e, _⟩ | ⟨e, _⟩ | ⟨_, _, _, p, el, _⟩
    · simp at e
    · simp at e
    · simp at e
    · simp at e
    · simp at e
    · simp at e
    · simp only [Tm.l_mk] at el
      subst el
      have hl : (eraseL l').length = 1 := by rw [he]; rfl
      rw [eraseL_length] at hl
      obtain ⟨y, rfl⟩ := len1 hl
      rw [erase_as, erase_as]
      simp only [eraseL, List.cons.injEq, and_true] at he
      exact he
  · have h10 : k' ≠ 10 := fun e => by
      subst e
      rcases good_cases hg with ⟨e, _⟩ | ⟨e, _⟩ | ⟨e, _⟩ | ⟨e, _⟩ | ⟨e, _⟩ | ⟨e, _⟩ | ⟨e, _⟩ <;> simp at e
    rw [erase_node h9 h10, erase_node h9 h10, he]

/-! ### Where it is cast -/
/-- Casts between types that fit and are not alike, of terms within bounds, each once. -/
structure SitesOk (S : List Site) (lo hi : Int) : Prop where
  b : ∀ s ∈ S, lo ≤ s.n ∧ s.n < hi ∧ s.f.fits s.t = true ∧ s.f.same s.t = false
  nd : (S.map Site.n).Nodup
theorem SitesOk.nil {lo hi : Int} : SitesOk [] lo hi := ⟨fun s h => (by cases h), List.nodup_nil⟩
theorem SitesOk.mono {S : List Site} {lo hi lo' hi' : Int} (h : SitesOk S lo hi) (h1 : lo' ≤ lo) (h2 : hi ≤ hi') : SitesOk S lo' hi' :=
  ⟨fun s hs => by obtain ⟨a, b, c⟩ := h.b s hs; exact ⟨by omega, by omega, c⟩, h.nd⟩
theorem SitesOk.append {S T : List Site} {lo mid hi : Int} (h : SitesOk S lo mid) (h' : SitesOk T mid hi) (h1 : lo ≤ mid) (h2 : mid ≤ hi) : SitesOk (S ++ T) lo hi where
  b := fun s hs => by
    rcases List.mem_append.1 hs with hs | hs
    · obtain ⟨a, b, c⟩ := h.b s hs; exact ⟨a, by omega, c⟩
    · obtain ⟨a, b, c⟩ := h'.b s hs; exact ⟨by omega, b, c⟩
  nd := by
    rw [List.map_append, List.nodup_append]
    refine ⟨h.nd, h'.nd, fun n hn n' hn' e => ?_⟩
    obtain ⟨s, hs, rfl⟩ := List.mem_map.1 hn
    obtain ⟨s', hs', rfl⟩ := List.mem_map.1 hn'
    have := (h.b s hs).2.1
    have := (h'.b s' hs').1
    omega
theorem kid_sites {x : Kid} {w : Ty} {y : Tm} {hi : Int} (h : x.to w = some y) (hs : SitesOk (sitesT x.t) (x.at' + 1) hi) (hh : x.at' + 1 ≤ hi) : SitesOk (sitesT y) x.at' hi ∧ y.nodes = x.t.nodes + ((sitesT y).length - (sitesT x.t).length) ∧ (sitesT x.t).length ≤ (sitesT y).length := by
  unfold Kid.to at h
  split at h
  · rename_i hf
    cases h
    unfold asT
    split
    · exact ⟨hs.mono (by omega) (Int.le_refl _), by omega, Nat.le_refl _⟩
    · rename_i hn
      have e : sitesT (.mk 10 x.at' w x.k [x.t]) = [⟨x.at', x.k, w⟩] ++ sitesT x.t := by simp [sitesT, sitesL]
      rw [e]
      refine ⟨SitesOk.append (mid := x.at' + 1) ⟨fun s h => ?_, by simp⟩ hs (by omega) hh, ?_, by simp⟩
      · rw [List.mem_singleton] at h; subst h; exact ⟨Int.le_refl _, by show x.at' < x.at' + 1; omega, hf, by simpa using hn⟩
      · simp [Tm.nodes, nodesL]; omega
  · cases h
theorem sitesL_leaf {a : Tm} (h : a.l = []) (hk : a.k ≠ 10) : sitesT a = [] := by
  rw [sitesT_eta, h]; simp [ownSite, hk, sitesL]
/-- What is known of the casts of a term that was walked. -/
def WalkS (a : Tm) (env : List Ty) : Prop := ∀ (m : Int) (x : Tm) (k : Ty), walkT a env m = some (x, k) → SitesOk (sitesT x) (m + 1) (m + a.nodes) ∧ x.nodes = a.nodes + (sitesT x).length
theorem casts_sites : ∀ {l : List Tm} {env : List Ty} {m : Int} {ks : List Kid} {ws : List Ty} {l' : List Tm}, (∀ a ∈ l, WalkS a env) → walkL l env m = some ks → casts ks ws = some l' → SitesOk (sitesL l') m (m + nodesL l) ∧ nodesL l' = nodesL l + (sitesL l').length
  | [], env, m, ks, ws, l', _, h1, h2 => by
    rw [walkL_nil h1] at h2
    have : l' = [] := by cases ws <;> (simp only [casts] at h2; cases h2; rfl)
    subst this
    exact ⟨.nil, by simp [nodesL, sitesL]⟩
  | a :: l, env, m, ks, [], l', _, h1, h2 => by
    obtain ⟨x, k, ks', rfl, _, _⟩ := walkL_cons h1
    simp [casts] at h2
  | a :: l, env, m, ks, w :: ws, l', ih, h1, h2 => by
    obtain ⟨x, k, ks', rfl, w1, w2⟩ := walkL_cons h1
    obtain ⟨y, l2, rfl, c1, c2⟩ := casts_cons h2
    obtain ⟨s1, n1⟩ := ih a (List.mem_cons_self ..) m x k w1
    obtain ⟨s2, n2⟩ := casts_sites (fun b hb => ih b (List.mem_cons_of_mem _ hb)) w2 c2
    have hp := nodes_pos a
    obtain ⟨s3, n3, n4⟩ := kid_sites c1 s1 (by show m + 1 ≤ _; omega)
    simp only [sitesL, nodesL, List.length_append]
    refine ⟨?_, ?_⟩
    · have := SitesOk.append s3 s2 (by show m ≤ _; omega) (by omega)
      exact this.mono (Int.le_refl _) (by omega)
    · simp only at n3 n4
      omega
/-- EACH TERM IS CAST ONCE AT MOST. -/
theorem walk_sites : ∀ (a : Tm) (env : List Ty) (ar ow : Int), a.good ar ow = true → WalkS a env := fun a => by
  induction a using Tm.ind' with
  | h a ih =>
  intro env ar ow hg m x k h
  by_cases hk : a.k = 1 ∨ a.k = 2 ∨ a.k = 3
  · rw [walkT_leaf hk h]
    have hl : a.l = [] := by rw [goodT_eta, Bool.and_eq_true] at hg; exact fit_leaf hg.1 hk
    rw [sitesL_leaf hl (by omega)]
    exact ⟨.nil, by simp⟩
  obtain ⟨ks, ws, l', hks, hw, hc, rfl⟩ := walkT_node (by omega) (by omega) (by omega) h
  have hgl : goodL a.l ar (if a.k == 7 then ow + 1 else ow) = true := by rw [goodT_eta, Bool.and_eq_true] at hg; exact hg.2
  obtain ⟨s, n⟩ := casts_sites (fun b hb => ih b hb _ _ _ (goodL_mem hgl b hb)) hks hc
  have h10 : a.k ≠ 10 := fun e => by
    rcases good_cases hg with ⟨e', _⟩ | ⟨e', _⟩ | ⟨e', _⟩ | ⟨e', _⟩ | ⟨e', _⟩ | ⟨e', _⟩ | ⟨e', _⟩ <;> omega
  have e : sitesT (.mk a.k a.n a.t a.f l') = sitesL l' := by simp [sitesT, h10]
  rw [e, nodes_eta a]
  refine ⟨s.mono (Int.le_refl _) (by omega), ?_⟩
  simp only [Tm.nodes]; omega

/-! ### What is sure -/
mutual
/-- Is Any nowhere in what is told? -/
def sureT : Tm → Bool
  | .mk k n t f l => (!(k == 7 || k == 9) || t.sure) && sureTL l
def sureTL : List Tm → Bool
  | [] => true
  | a :: l => sureT a && sureTL l
end
theorem sureT_eta (a : Tm) : sureT a = ((!(a.k == 7 || a.k == 9) || a.t.sure) && sureTL a.l) := by cases a; simp [sureT]
theorem sureTL_drop {l : List Tm} {i : Nat} (h : i < l.length) : sureTL (l.drop i) = (sureT l[i] && sureTL (l.drop (i + 1))) := by
  rw [List.drop_eq_getElem_cons h]; simp [sureTL]
theorem sureTL_mem : ∀ {l : List Tm}, sureTL l = true → ∀ a ∈ l, sureT a = true
  | [], _, _, h => by cases h
  | b :: l, h, a, ha => by
    simp only [sureTL, Bool.and_eq_true] at h
    rcases List.mem_cons.1 ha with rfl | ha
    · exact h.1
    · exact sureTL_mem h.2 a ha
/-- What is sure and fits is alike. -/
theorem sure_fits {a b : Ty} (ha : Right a) (hb : Right b) (sa : a.sure = true) (sb : b.sure = true) (h : a.fits b = true) : a = b := by
  induction ha generalizing b with
  | base p =>
    cases hb with
    | base q => simp [Ty.sure, sureL, Ty.fits, fitsL] at *; omega
    | fn _ _ => simp [Ty.sure, sureL, Ty.fits, fitsL] at *; omega
  | fn _ _ ih1 ih2 =>
    cases hb with
    | base q => simp [Ty.sure, sureL, Ty.fits, fitsL] at *; omega
    | fn c d =>
      simp [Ty.sure, sureL, Ty.fits, fitsL] at *
      exact ⟨ih1 c sa.1 sb.1 h.1, ih2 d sa.2 sb.2 h.2⟩
theorem sure_join {a : Ty} (ha : Right a) : a.join a = a := by
  induction ha with
  | base p => simp [Ty.join, joinL]
  | fn _ _ ih1 ih2 => simp [Ty.join, joinL, ih1, ih2]
theorem asT_same {x : Tm} {k : Ty} {n : Int} : asT x k k n = x := by unfold asT; rw [if_pos (same_refl k)]
theorem kid_sure {x : Kid} {w : Ty} {y : Tm} (hk : Right x.k) (hw : Right w) (sk : x.k.sure = true) (sw : w.sure = true) (h : x.to w = some y) : y = x.t ∧ x.k = w := by
  unfold Kid.to at h
  split at h
  · rename_i hf
    have := sure_fits hk hw sk sw hf
    cases h
    rw [this, asT_same]
    exact ⟨rfl, rfl⟩
  · cases h
theorem getD_right {env : List Ty} (he : ∀ t ∈ env, Right t ∧ t.sure = true) {i : Nat} (hi : i < env.length) : Right (env.getD i .any) ∧ (env.getD i .any).sure = true := by
  rw [List.getD_eq_getElem?_getD, List.getElem?_eq_getElem hi]
  exact he _ (List.getElem_mem hi)
/-- WHAT IS SURE IS NOT CAST. -/
theorem walk_sure : ∀ (a : Tm) (env : List Ty) (m : Int) (x : Tm) (k : Ty), a.good 0 env.length = true → (∀ t ∈ env, Right t ∧ t.sure = true) → sureT a = true → walkT a env m = some (x, k) → x = a ∧ Right k ∧ k.sure = true := fun a => by
  induction a using Tm.ind' with
  | h a ih =>
  intro env m x k hg he hs h
  obtain ⟨ak, an, t, f, al⟩ := a
  rw [sureT_eta, Bool.and_eq_true] at hs
  obtain ⟨hst, hsl0⟩ := hs
  have hsl := sureTL_mem hsl0
  clear hsl0
  simp only [Tm.l_mk] at hsl
  rcases good_cases hg with ⟨e, el, hn, hn2, _⟩ | ⟨e, el, hn, _⟩ | ⟨e, el, hn, _⟩ | ⟨e, _, et, p, q, el, gp, gq⟩ | ⟨e, _, et, p, q, s, el, gp, gq, gs⟩ | ⟨e, _, ht4, p, el, gp⟩ | ⟨e, _, ht4, p, el, gp⟩ <;> simp only [Tm.k_mk, Tm.n_mk, Tm.t_mk, Tm.f_mk, Tm.l_mk] at e el
  · subst e el
    simp only [Tm.n_mk] at hn hn2
    rw [walkT_eta] at h; simp only [Tm.k_mk, Tm.n_mk, beq_self_eq_true, if_true, Option.some.injEq, Prod.mk.injEq] at h
    obtain ⟨rfl, rfl⟩ := h
    exact ⟨rfl, getD_right he (by omega)⟩
  · subst e; rw [walkT_eta] at h; simp at h; obtain ⟨rfl, rfl⟩ := h; exact ⟨rfl, .num, rfl⟩
  · subst e; rw [walkT_eta] at h; simp at h; obtain ⟨rfl, rfl⟩ := h; exact ⟨rfl, .truth, rfl⟩
  · obtain ⟨ks, ws, l', hks, hw, hc, rfl⟩ := walkT_node (by simp; omega) (by simp; omega) (by simp; omega) h
    rw [if_neg (by simp; omega)] at hks
    subst el
    simp only [Tm.k_mk, Tm.n_mk, Tm.t_mk, Tm.f_mk, Tm.l_mk] at *
    obtain ⟨x1, k1, ks1, rfl, w1, hks⟩ := walkL_cons hks
    obtain ⟨x2, k2, ks2, rfl, w2, hks⟩ := walkL_cons hks
    obtain rfl := walkL_nil hks
    obtain ⟨e1, r1, s1⟩ := ih p (by simp) env _ x1 k1 gp he (hsl p (by simp)) w1
    obtain ⟨e2, r2, s2⟩ := ih q (by simp) env _ x2 k2 gq he (hsl q (by simp)) w2
    rcases e with rfl | rfl | rfl <;> simp [wants] at hw
    · obtain ⟨rfl, rfl⟩ := hw
      obtain ⟨z1, l1, rfl, c1, hc⟩ := casts_cons hc
      obtain ⟨z2, rfl, c2⟩ := casts1 hc
      obtain ⟨f1, _⟩ := kid_sure r1 .num s1 rfl c1
      obtain ⟨f2, _⟩ := kid_sure r2 .num s2 rfl c2
      exact ⟨by rw [f1, f2, e1, e2], .num, rfl⟩
    · obtain ⟨rfl, rfl⟩ := hw
      obtain ⟨z1, l1, rfl, c1, hc⟩ := casts_cons hc
      obtain ⟨z2, rfl, c2⟩ := casts1 hc
      obtain ⟨f1, _⟩ := kid_sure r1 .num s1 rfl c1
      obtain ⟨f2, _⟩ := kid_sure r2 .num s2 rfl c2
      exact ⟨by rw [f1, f2, e1, e2], .truth, rfl⟩
    · have k0 : k1.k ≠ 0 := fun e => by rw [sure_eta] at s1; simp [e] at s1
      rw [if_neg k0] at hw
      obtain ⟨h3, hw⟩ := hw
      cases r1 with
      | base hb => simp at h3; omega
      | fn ra rb =>
        simp at hw
        obtain ⟨rfl, rfl⟩ := hw
        have s1' := s1
        simp only [Ty.sure, sureL, Bool.and_eq_true] at s1'
        obtain ⟨z1, l1, rfl, c1, hc⟩ := casts_cons hc
        obtain ⟨z2, rfl, c2⟩ := casts1 hc
        obtain ⟨f1, _⟩ := kid_sure (.fn ra rb) (.fn ra rb) s1 s1 c1
        obtain ⟨f2, _⟩ := kid_sure r2 ra s2 s1'.2.1 c2
        exact ⟨by rw [f1, f2, e1, e2], rb, s1'.2.2.1⟩
  · subst e
    obtain ⟨ks, ws, l', hks, hw, hc, rfl⟩ := walkT_node (by simp) (by simp) (by simp) h
    subst el
    simp at hks
    simp only [Tm.k_mk, Tm.n_mk, Tm.t_mk, Tm.f_mk, Tm.l_mk] at *
    obtain ⟨x1, k1, ks1, rfl, w1, hks⟩ := walkL_cons hks
    obtain ⟨x2, k2, ks2, rfl, w2, hks⟩ := walkL_cons hks
    obtain ⟨x3, k3, ks3, rfl, w3, hks⟩ := walkL_cons hks
    obtain rfl := walkL_nil hks
    obtain ⟨e1, r1, s1⟩ := ih p (by simp) env _ x1 k1 gp he (hsl p (by simp)) w1
    obtain ⟨e2, r2, s2⟩ := ih q (by simp) env _ x2 k2 gq he (hsl q (by simp)) w2
    obtain ⟨e3, r3, s3⟩ := ih s (by simp) env _ x3 k3 gs he (hsl s (by simp)) w3
    simp [wants] at hw
    obtain ⟨hf, rfl, rfl⟩ := hw
    have := sure_fits r2 r3 s2 s3 hf
    subst this
    rw [sure_join r2] at hc
    obtain ⟨z1, l1, rfl, c1, hc⟩ := casts_cons hc
    obtain ⟨z2, l2, rfl, c2, hc⟩ := casts_cons hc
    obtain ⟨z3, rfl, c3⟩ := casts1 hc
    obtain ⟨f1, _⟩ := kid_sure r1 .truth s1 rfl c1
    obtain ⟨f2, _⟩ := kid_sure r2 r2 s2 s2 c2
    obtain ⟨f3, _⟩ := kid_sure r2 r2 s2 s2 c3
    rw [sure_join r2]
    exact ⟨by rw [f1, f2, f3, e1, e2, e3], r2, s2⟩
  · subst e
    obtain ⟨ks, ws, l', hks, hw, hc, rfl⟩ := walkT_node (by simp) (by simp) (by simp) h
    subst el
    simp at hks
    simp only [Tm.k_mk, Tm.n_mk, Tm.t_mk, Tm.f_mk, Tm.l_mk] at *
    obtain ⟨x1, k1, ks1, rfl, w1, hks⟩ := walkL_cons hks
    obtain rfl := walkL_nil hks
    have rt : Right t := good_right ht4
    have st : t.sure = true := by simpa using hst
    obtain ⟨e1, r1, s1⟩ := ih p (by simp) (env ++ [t]) _ x1 k1 (by simpa using gp) (fun u hu => by
      rcases List.mem_append.1 hu with hu | hu
      · exact he u hu
      · rw [List.mem_singleton.1 hu]; exact ⟨rt, st⟩) (hsl p (by simp)) w1
    simp [wants] at hw
    obtain ⟨rfl, rfl⟩ := hw
    obtain ⟨z1, rfl, c1⟩ := casts1 hc
    obtain ⟨f1, _⟩ := kid_sure r1 r1 s1 s1 c1
    exact ⟨by rw [f1, e1], .to rt r1, by simp [Ty.to, Ty.sure, sureL, st, s1]⟩
  · subst e
    obtain ⟨ks, ws, l', hks, hw, hc, rfl⟩ := walkT_node (by simp) (by simp) (by simp) h
    subst el
    simp at hks
    simp only [Tm.k_mk, Tm.n_mk, Tm.t_mk, Tm.f_mk, Tm.l_mk] at *
    obtain ⟨x1, k1, ks1, rfl, w1, hks⟩ := walkL_cons hks
    obtain rfl := walkL_nil hks
    have rt : Right t := good_right ht4
    have st : t.sure = true := by simpa using hst
    obtain ⟨e1, r1, s1⟩ := ih p (by simp) env _ x1 k1 gp he (hsl p (by simp)) w1
    simp [wants] at hw
    obtain ⟨rfl, rfl⟩ := hw
    obtain ⟨z1, rfl, c1⟩ := casts1 hc
    obtain ⟨f1, _⟩ := kid_sure r1 rt s1 st c1
    exact ⟨by rw [f1, e1], rt, st⟩
/-- What is good has no casts. -/
theorem good_sites : ∀ (a : Tm) (ar ow : Int), a.good ar ow = true → sitesT a = [] := fun a => by
  induction a using Tm.ind' with
  | h a ih =>
  intro ar ow hg
  have h10 : a.k ≠ 10 := fun e => by
    rcases good_cases hg with ⟨e', _⟩ | ⟨e', _⟩ | ⟨e', _⟩ | ⟨e', _⟩ | ⟨e', _⟩ | ⟨e', _⟩ | ⟨e', _⟩ <;> omega
  have hgl : goodL a.l ar (if a.k == 7 then ow + 1 else ow) = true := by rw [goodT_eta, Bool.and_eq_true] at hg; exact hg.2
  rw [sitesT_eta, show ownSite a = [] by simp [ownSite, h10], List.nil_append]
  have : ∀ l : List Tm, (∀ x ∈ l, sitesT x = []) → sitesL l = [] := by
    intro l
    induction l with
    | nil => intro _; rfl
    | cons b l ihl => intro h; simp only [sitesL]; rw [h b (List.mem_cons_self ..), ihl fun x hx => h x (List.mem_cons_of_mem _ hx)]; rfl
  exact this a.l fun x hx => ih x hx _ _ (goodL_mem hgl x hx)

/-! ### Who says less -/
mutual
/-- The k-th type that is told is Any. -/
def looseT : Tm → Int → Tm × Int
  | .mk k n t f l, j => ((.mk k n (if (k == 7 || k == 9) && j == 0 then .any else t) f (looseL l j (if k == 7 || k == 9 then 1 else 0)).1), (looseL l j (if k == 7 || k == 9 then 1 else 0)).2)
def looseL : List Tm → Int → Int → List Tm × Int
  | [], _, n => ([], n)
  | a :: l, j, n => ((looseT a (IntKind.i64.wrap (j - n))).1 :: (looseL l j (IntKind.i64.wrap (n + (looseT a (IntKind.i64.wrap (j - n))).2))).1, (looseL l j (IntKind.i64.wrap (n + (looseT a (IntKind.i64.wrap (j - n))).2))).2)
end
theorem looseL_length : ∀ (l : List Tm) (j n : Int), (looseL l j n).1.length = l.length
  | [], _, _ => rfl
  | a :: l, j, n => by simp only [looseL, List.length_cons, looseL_length l]
theorem looseT_eta (a : Tm) (j : Int) : looseT a j = ((.mk a.k a.n (if (a.k == 7 || a.k == 9) && j == 0 then .any else a.t) a.f (looseL a.l j (if a.k == 7 || a.k == 9 then 1 else 0)).1), (looseL a.l j (if a.k == 7 || a.k == 9 then 1 else 0)).2) := by cases a; simp [looseT]
theorem looseL_drop {l : List Tm} {i : Nat} (h : i < l.length) (j n : Int) : looseL (l.drop i) j n = ((looseT l[i] (IntKind.i64.wrap (j - n))).1 :: (looseL (l.drop (i + 1)) j (IntKind.i64.wrap (n + (looseT l[i] (IntKind.i64.wrap (j - n))).2))).1, (looseL (l.drop (i + 1)) j (IntKind.i64.wrap (n + (looseT l[i] (IntKind.i64.wrap (j - n))).2))).2) := by
  rw [List.drop_eq_getElem_cons h]; simp only [looseL]
end Go.Proofs.YtnflnbdlgdjfmaaDoor
