/-
  The stack of a term without casts; how many casts and terms there are in what the checker answers. Conditions: those typed in each theorem.
  What stays so while the machine steps: the numbers are ints. Conditions: those typed in each theorem.
  Who is blamed is one of the casts; what all casts keep. Conditions: those typed in each theorem.
  Without casts and types all is as with them, as long as nobody is blamed. Conditions: those typed in each theorem.
  Who says less comes to the same, as long as nobody is blamed. Conditions: those typed in each theorem.
  Who says less is not refused for it. Conditions: those typed in each theorem.
-/
import Derived.Test.YtnflnbdlgdjfmaaDoorM1
namespace Go.Proofs.YtnflnbdlgdjfmaaDoor
set_option linter.unusedVariables false
set_option linter.unusedSimpArgs false
theorem nodup_lt : ∀ (k : Nat) (l : List Nat), l.Nodup → (∀ x ∈ l, x < k) → l.length ≤ k
  | 0, l, _, h => by cases l with | nil => simp | cons a l => exact absurd (h a (by simp)) (by omega)
  | k + 1, l, hd, h => by
    have h1 := nodup_lt k (l.erase k) (hd.erase k) (fun x hx => by
      have h2 := h x (List.mem_of_mem_erase hx)
      have h3 : x ≠ k := fun e => by subst e; exact (List.Nodup.not_mem_erase hd) hx
      omega)
    have h2 := List.length_erase (a := k) (l := l)
    split at h2 <;> omega
theorem sites_few {S : List Site} {lo : Int} {k : Nat} (h : SitesOk S lo (lo + k)) : S.length ≤ k := by
  have h1 : ((S.map (·.n)).map fun n => (n - lo).toNat).length ≤ k := by
    refine nodup_lt k _ ?_ ?_
    · have hn := h.nd
      have hr : ∀ n ∈ S.map (·.n), lo ≤ n := fun n hm => by
        obtain ⟨s, hs, rfl⟩ := List.mem_map.1 hm
        exact (h.b s hs).1
      generalize S.map (·.n) = L at hn hr
      induction L with
      | nil => exact List.nodup_nil
      | cons a L ih =>
        obtain ⟨hna, hn⟩ := List.nodup_cons.1 hn
        rw [List.map_cons, List.nodup_cons]
        refine ⟨fun hm => ?_, ih hn fun n hm => hr n (List.mem_cons_of_mem _ hm)⟩
        obtain ⟨b, hb, e⟩ := List.mem_map.1 hm
        have h1 := hr a (List.mem_cons_self ..)
        have h2 := hr b (List.mem_cons_of_mem _ hb)
        have : a = b := by omega
        subst this
        exact hna hb
    · intro x hx
      obtain ⟨n, hn, rfl⟩ := List.mem_map.1 hx
      obtain ⟨s, hs, rfl⟩ := List.mem_map.1 hn
      have := (h.b s hs).1
      have := (h.b s hs).2.1
      omega
  simpa using h1
/-- What the checker answers is small. -/
theorem walk_small {a x : Tm} {k : Ty} (hg : a.Good 0 = true) (h : walkT a [] 0 = some (x, k)) : cc x ≤ NC ∧ x.nodes ≤ 80 := by
  unfold Tm.Good at hg
  simp only [Bool.and_eq_true, decide_eq_true_eq] at hg
  obtain ⟨h1, h2⟩ := walk_sites a [] 0 0 hg.2 0 x k h
  have h3 := nodes_pos a
  have h4 : (sitesT x).length ≤ a.nodes - 1 := sites_few (lo := 0 + 1) (by
    rw [show (0 : Int) + 1 + ((a.nodes - 1 : Nat) : Int) = 0 + a.nodes by omega]; exact h1)
  have h5 : NC = 40 := rfl
  unfold cc
  omega
end Go.Proofs.YtnflnbdlgdjfmaaDoor
namespace Go.Proofs.YtnflnbdlgdjfmaaDoor
set_option linter.unusedVariables false
set_option linter.unusedSimpArgs false
/-- All its numbers are ints. -/
inductive NB : Tm → Prop
  | mk {t : Tm} (h : t.n ≤ 9223372036854775807) (hl : ∀ x ∈ t.l, NB x) : NB t
theorem NB.n {t : Tm} (h : NB t) : t.n ≤ 9223372036854775807 := by cases h; assumption
theorem NB.l {t : Tm} (h : NB t) : ∀ x ∈ t.l, NB x := by cases h; assumption
inductive VB : V → Prop
  | num {n : Int} : VB (.num n)
  | tru {n : Int} : VB (.tru n)
  | clo {b : Tm} {env : List V} (hb : NB b) (he : ∀ v ∈ env, VB v) : VB (.clo b env)
  | wrap {v : V} {f t : Ty} {at' : Int} {back : Bool} (hv : VB v) : VB (.wrap v f t at' back)
  | tag {v : V} {g : Ty} (hv : VB v) : VB (.tag v g)
def FB : Fr → Prop
  | .term t env => NB t ∧ ∀ v ∈ env, VB v
  | .second t v => NB t ∧ VB v
  | .given v => VB v
  | .casts _ _ _ _ => True
def KB : Ctl → Prop
  | .ent t env => NB t ∧ ∀ v ∈ env, VB v
  | .val v => VB v
structure MB (m : Mch) : Prop where
  c : KB m.ctl
  s : ∀ f ∈ m.stk, FB f
  f : m.fuel ≤ 1000
theorem cons_all {α : Type} {p : α → Prop} {a : α} {l : List α} (ha : p a) (hl : ∀ x ∈ l, p x) : ∀ x ∈ a :: l, p x := fun x hx => by
  rcases List.mem_cons.1 hx with rfl | hx
  · exact ha
  · exact hl x hx
theorem castV_b {v u : V} {f t : Ty} {at' : Int} {back : Bool} (hv : VB v) (h : castV v f t at' back = .inl u) : VB u := by
  unfold castV at h
  split at h
  · cases h; exact hv
  split at h
  · cases h; exact .wrap hv
  split at h
  · cases h
    refine .tag ?_
    split
    · exact hv
    · exact .wrap hv
  split at h
  · split at h
    · cases hv with
      | tag hv =>
      split at h
      · split at h
        · cases h; exact hv
        · split at h
          · cases h; exact .wrap hv
          · cases h
      · cases h
    · cases h
  · cases h
theorem callM_b {f x : V} {s : List Fr} {F : Nat} {m : Mch} (hf : VB f) (hx : VB x) (hs : ∀ f ∈ s, FB f) (hF : F ≤ 1000) (h : callM f x s F = some (.inl m)) : MB m := by
  unfold callM at h
  split at h
  · split at h
    · cases h
    · cases h
      cases hf with
      | clo hb he => exact ⟨⟨hb, cons_all hx he⟩, hs, Nat.le_trans (Nat.le_succ _) hF⟩
  · split at h
    · split at h
      · rename_i hc
        cases h
        cases hf with
        | wrap hv => exact ⟨castV_b hx hc, cons_all (by exact hv) (cons_all (by exact trivial) hs), hF⟩
      · cases h
    · cases h
  · cases h
theorem enterM_b {t : Tm} {env : List V} {s : List Fr} {F : Nat} {m : Mch} (ht : NB t) (he : ∀ v ∈ env, VB v) (hs : ∀ f ∈ s, FB f) (hF : F ≤ 1000) (h : enterM t env s F = some (.inl m)) : MB m := by
  unfold enterM at h
  split at h
  · split at h
    · rename_i hv; cases h; exact ⟨he _ (List.mem_of_getElem? hv), hs, hF⟩
    · cases h
  split at h
  · cases h; exact ⟨.num, hs, hF⟩
  split at h
  · cases h; exact ⟨.tru, hs, hF⟩
  split at h
  · cases h
  rename_i b l hl
  have hb : NB b := ht.l b (by rw [hl]; simp)
  split at h
  · cases h; exact ⟨.clo hb he, hs, hF⟩
  split at h
  · cases h; exact ⟨⟨hb, he⟩, cons_all (by exact trivial) hs, hF⟩
  split at h
  · cases h; exact ⟨⟨hb, he⟩, hs, hF⟩
  · cases h; exact ⟨⟨hb, he⟩, cons_all (by exact ⟨ht, he⟩) hs, hF⟩
theorem leaveM_b {v : V} {f : Fr} {s : List Fr} {F : Nat} {m : Mch} (hv : VB v) (hf : FB f) (hs : ∀ f ∈ s, FB f) (hF : F ≤ 1000) (h : leaveM v f s F = some (.inl m)) : MB m := by
  cases f with
  | term t env =>
    obtain ⟨ht, he⟩ := hf
    simp only [leaveM] at h
    split at h
    · split at h
      · split at h
        · rename_i hl
          split at h
          · cases h; exact ⟨⟨ht.l _ (by rw [hl]; simp), he⟩, hs, hF⟩
          · split at h
            · cases h; exact ⟨⟨ht.l _ (by rw [hl]; simp), he⟩, hs, hF⟩
            · cases h
        · cases h
      · cases h
    · split at h
      · split at h
        · rename_i hl
          cases h
          exact ⟨⟨ht.l _ (by rw [hl]; simp), he⟩, cons_all (by exact ⟨ht, hv⟩) hs, hF⟩
        · cases h
      · cases h
  | second t g =>
    obtain ⟨ht, hg⟩ := hf
    simp only [leaveM] at h
    split at h
    · exact callM_b hg hv hs hF h
    · split at h
      · rename_i hu
        cases h
        refine ⟨?_, hs, hF⟩
        unfold twoV at hu
        split at hu
        · split at hu
          · cases hu
            split
            · exact .tru
            · exact .num
          · cases hu
        · cases hu
        · cases hu
      · cases h
      · cases h
  | given g => exact callM_b hf hv hs hF h
  | casts a b c d =>
    simp only [leaveM] at h
    split at h
    · rename_i hc; cases h; exact ⟨castV_b hv hc, hs, hF⟩
    · cases h
theorem step_b {m m' : Mch} (hm : MB m) (h : step m = some (.inl m')) : MB m' := by
  obtain ⟨ctl, s, F⟩ := m
  obtain ⟨hc, hs, hF⟩ := hm
  cases ctl with
  | ent t env => exact enterM_b hc.1 hc.2 hs hF h
  | val v =>
    cases s with
    | nil => cases h
    | cons f s => exact leaveM_b hc (hs f (by simp)) (fun g hg => hs g (by simp [hg])) hF h
theorem asT_nb {x : Tm} {k w : Ty} {n : Int} (h : NB x) (hn : n ≤ 9223372036854775807) : NB (asT x k w n) := by
  unfold asT
  split
  · exact h
  · exact .mk hn fun y hy => by rw [List.mem_singleton.1 hy]; exact h
theorem casts_nb : ∀ {ks : List Kid} {ws : List Ty} {l : List Tm}, (∀ x ∈ ks, NB x.t ∧ x.at' ≤ 9223372036854775807) → casts ks ws = some l → ∀ y ∈ l, NB y
  | [], ws, l, hk, h => by simp [casts] at h; subst h; intro y hy; cases hy
  | x :: xs, [], l, hk, h => by simp [casts] at h
  | x :: xs, w :: ws, l, hk, h => by
    obtain ⟨y, l', rfl, hy, hl⟩ := casts_cons h
    refine cons_all ?_ (casts_nb (fun x hx => hk x (List.mem_cons_of_mem _ hx)) hl)
    unfold Kid.to at hy
    split at hy
    · cases hy; exact asT_nb (hk x (List.mem_cons_self ..)).1 (hk x (List.mem_cons_self ..)).2
    · cases hy
theorem walkL_nb : ∀ {l : List Tm} {env : List Ty} {m : Int} {ks : List Kid}, (∀ a ∈ l, ∀ (m : Int) x k, m + a.nodes ≤ 1000000 → walkT a env m = some (x, k) → NB x) → m + nodesL l ≤ 1000000 → walkL l env m = some ks → ∀ x ∈ ks, NB x.t ∧ x.at' ≤ 9223372036854775807
  | [], env, m, ks, h, hm, hw => by have := walkL_nil hw; subst this; intro x hx; cases hx
  | a :: l, env, m, ks, h, hm, hw => by
    obtain ⟨x, k, ks', rfl, h1, h2⟩ := walkL_cons hw
    simp only [nodesL] at hm
    have := nodes_pos a
    refine cons_all ⟨h a (List.mem_cons_self ..) m x k (by omega) h1, by show m ≤ _; omega⟩ (walkL_nb (fun b hb => h b (List.mem_cons_of_mem _ hb)) (by omega) h2)
theorem walk_nb : ∀ (a : Tm) (env : List Ty) (m : Int) (x : Tm) (k : Ty), NB a → m + a.nodes ≤ 1000000 → walkT a env m = some (x, k) → NB x := fun a => by
  induction a using Tm.ind' with
  | _ a ih =>
    intro env m x k hn hm h
    rw [nodes_eta] at hm
    rw [walkT_eta] at h
    split at h
    · cases h; exact hn
    split at h
    · cases h; exact hn
    split at h
    · cases h; exact hn
    split at h
    · cases h
    rename_i ks hks
    split at h
    · cases h
    rename_i ws out hw
    cases hc : casts ks ws with
    | none => rw [hc] at h; cases h
    | some l' =>
      rw [hc] at h; cases h
      refine .mk hn.n (casts_nb (walkL_nb (fun b hb m x k hm => ih b hb _ m x k (hn.l b hb) hm) (by omega) hks) hc)
theorem TmOk.nb : ∀ {a : Tm}, TmOk a → NB a := fun {a} => by
  induction a using Tm.ind' with
  | _ a ih => intro h; exact .mk h.n fun x hx => ih x hx (h.l x hx)
end Go.Proofs.YtnflnbdlgdjfmaaDoor
namespace Go.Proofs.YtnflnbdlgdjfmaaDoor
set_option linter.unusedVariables false
set_option linter.unusedSimpArgs false
section
variable {P : Ty → Ty → Int → Bool → Prop}
inductive PT (P : Ty → Ty → Int → Bool → Prop) : Tm → Prop
  | mk {k n : Int} {t f : Ty} {l : List Tm} (h : k = 10 → Right t ∧ Right f ∧ P f t n false) (hl : ∀ x ∈ l, PT P x) : PT P (.mk k n t f l)
theorem PT.part {k n : Int} {t f : Ty} {l : List Tm} (h : PT P (.mk k n t f l)) : ∀ x ∈ l, PT P x := by cases h; assumption
theorem right_fn {f : Ty} (hf : Right f) (h : f.k = 3) : ∃ a b, f = .mk 3 [a, b] ∧ Right a ∧ Right b := by
  cases hf with
  | base hb => simp at h; omega
  | fn ha hb => exact ⟨_, _, rfl, ha, hb⟩
theorem ground_k {f : Ty} : f.ground.k = f.k := by
  unfold Ty.ground
  split
  · rename_i h; simp at h; rw [h]; rfl
  · rfl
end
theorem finer_fn {a b c d : Ty} : (Ty.mk 3 [a, b]).finer (.mk 3 [c, d]) = (a.finer c && b.finer d) := by simp [Ty.finer, finerL]
theorem finer_any (a : Ty) : a.finer .any = true := by cases a; simp [Ty.any, Ty.finer]
theorem finer_refl : ∀ a : Ty, a.finer a = true := Ty.ind fun k l ih => by
  simp only [Ty.finer, beq_self_eq_true, Bool.true_and]
  have : finerL l l = true := by
    induction l with
    | nil => rfl
    | cons a l ihl => simp only [finerL, ih a (List.mem_cons_self ..), ihl fun t ht => ih t (List.mem_cons_of_mem _ ht), Bool.and_self]
  rw [this, Bool.or_true]
theorem finer_ground {a : Ty} (h : Right a) : a.finer a.ground = true := by
  cases h with
  | base h => rw [right_base (.base h) (by simp; omega)]; exact finer_refl _
  | fn ha hb => rw [ground_fn, finer_fn, finer_any, finer_any]; rfl
theorem any_finer {a b : Ty} (ha : Right a) (hb : Right b) (h0 : a.k = 0) (h : a.finer b = true) : b = .any := by
  rw [finer_eta, h0] at h
  cases hb with
  | base hb =>
    simp at h
    rcases h with h | ⟨h, _⟩ <;> (subst h; rfl)
  | fn _ _ => simp at h
theorem right_zero {a : Ty} (ha : Right a) (h0 : a.k = 0) : a = .any := by
  cases ha with
  | base hb => simp at h0; subst h0; rfl
  | fn _ _ => simp at h0
end Go.Proofs.YtnflnbdlgdjfmaaDoor
namespace Go.Proofs.YtnflnbdlgdjfmaaDoor
set_option linter.unusedVariables false
set_option linter.unusedSimpArgs false
/-- A value, and the same without casts. -/
inductive ER : V → V → Prop
  | num {n : Int} : ER (.num n) (.num n)
  | tru {n : Int} : ER (.tru n) (.tru n)
  | clo {b : Tm} {env env' : List V} (hb : WfT b) (hl : env.length = env'.length) (he : ∀ (i : Nat) (v v' : V), env[i]? = some v → env'[i]? = some v' → ER v v') : ER (.clo b env) (.clo (eraseT b) env')
  | wrap {v v' : V} {f t : Ty} {at' : Int} {back : Bool} (h : ER v v') : ER (.wrap v f t at' back) v'
  | tag {v v' : V} {g : Ty} (h : ER v v') : ER (.tag v g) v'
def EE (env env' : List V) : Prop := env.length = env'.length ∧ ∀ (i : Nat) (v v' : V), env[i]? = some v → env'[i]? = some v' → ER v v'
theorem EE.cons {env env' : List V} {v v' : V} (h : EE env env') (hv : ER v v') : EE (v :: env) (v' :: env') :=
  ⟨by simp [h.1], fun i u u' h1 h2 => by
    cases i with
    | zero => simp at h1 h2; subst h1; subst h2; exact hv
    | succ i => exact h.2 i u u' (by simpa using h1) (by simpa using h2)⟩
/-- Nobody is blamed, nothing stuck. -/
def Well (r : Res) : Prop := ∀ o, r = .out o → o = .fuel
theorem well_ok {v : V} {F : Nat} : Well (.ok v F) := fun o h => by cases h
theorem well_cast {v : V} {f t : Ty} {n : Int} {b : Bool} {F : Nat} (h : Well (castR v f t n b F)) : ∃ u, castV v f t n b = .inl u ∧ castR v f t n b F = .ok u F := by
  unfold castR at *
  cases hc : castV v f t n b with
  | inl u => exact ⟨u, rfl, rfl⟩
  | inr o => rw [hc] at h; have := h o rfl; subst this; exact absurd hc castV_fuel
theorem not_stuck : ¬ Well (.out .stuck) := fun h => by have := h _ rfl; simp [Out.stuck, Out.fuel] at this
end Go.Proofs.YtnflnbdlgdjfmaaDoor
namespace Go.Proofs.YtnflnbdlgdjfmaaDoor
set_option linter.unusedVariables false
set_option linter.unusedSimpArgs false
theorem finer_trans : ∀ {a b c : Ty}, Right a → Right b → Right c → a.finer b = true → b.finer c = true → a.finer c = true := by
  intro a b c ha
  induction ha generalizing b c with
  | base h =>
    intro hb hc h1 h2
    cases hc with
    | base h' =>
      cases hb with
      | base h'' =>
        simp [Ty.finer, finerL] at h1 h2 ⊢
        omega
      | fn _ _ => simp [Ty.finer, finerL] at h1
    | fn _ _ =>
      cases hb with
      | base h'' => simp [Ty.finer, finerL] at h2
      | fn _ _ => simp [Ty.finer, finerL] at h1
  | fn ha1 ha2 ih1 ih2 =>
    intro hb hc h1 h2
    cases hc with
    | base h' =>
      cases hb with
      | base h'' =>
        simp [Ty.finer, finerL] at h1 h2 ⊢
        rcases h2 with h2 | h2
        · exact h2
        · omega
      | fn _ _ => simp [Ty.finer, finerL] at h2 ⊢; exact h2
    | fn hc1 hc2 =>
      cases hb with
      | base h'' => simp [Ty.finer, finerL] at h2
      | fn hb1 hb2 =>
        rw [finer_fn, Bool.and_eq_true] at *
        exact ⟨ih1 hb1 hc1 h1.1 h2.1, ih2 hb2 hc2 h1.2 h2.2⟩
theorem finer_kind {a b : Ty} (h : a.finer b = true) (h0 : b.k ≠ 0) : a.k = b.k := by
  rw [finer_eta] at h
  simp [h0] at h
  exact h.1
theorem plain_right {g : Ty} (h : Plain g) : Right g := by
  rcases h with rfl | rfl | rfl
  · exact .num
  · exact .truth
  · exact .to .any .any
theorem plain_ground {g : Ty} (h : Plain g) : g.k ≠ 0 ∧ ∀ t : Ty, t.k = g.k → t.ground = g := by
  rcases h with rfl | rfl | rfl
  · exact ⟨by decide, fun t ht => by unfold Ty.ground; rw [ht]; rfl⟩
  · exact ⟨by decide, fun t ht => by unfold Ty.ground; rw [ht]; rfl⟩
  · exact ⟨by decide, fun t ht => by unfold Ty.ground; rw [ht]; rfl⟩
theorem ground_plain {t : Ty} (ht : Right t) (h0 : t.k ≠ 0) : Plain t.ground := by
  cases ht with
  | base hb =>
    rcases hb with rfl | rfl | rfl
    · exact absurd rfl h0
    · exact .inl rfl
    · exact .inr (.inl rfl)
  | fn _ _ => exact .inr (.inr rfl)
/-- A term with its casts, and one that says less; false: the last that was done is a cast of the one that says less. -/
inductive LT : Bool → List Ty → List Ty → Tm → Ty → Tm → Ty → Prop
  | ref {Γ Γ' : List Ty} {n : Int} {t f t' f' τ τ' : Ty} (h0 : 0 ≤ n) (h : Γ[n.toNat]? = some τ) (h' : Γ'[n.toNat]? = some τ') (hf : τ.finer τ' = true) : LT true Γ Γ' (.mk 1 n t f []) τ (.mk 1 n t' f' []) τ'
  | lit {Γ Γ' : List Ty} {n : Int} {t f t' f' : Ty} (h : inB n = true) : LT true Γ Γ' (.mk 2 n t f []) .num (.mk 2 n t' f' []) .num
  | says {Γ Γ' : List Ty} {n : Int} {t f t' f' : Ty} (h : n = 0 ∨ n = 1) : LT true Γ Γ' (.mk 3 n t f []) .truth (.mk 3 n t' f' []) .truth
  | add {Γ Γ' : List Ty} {n n' : Int} {t f t' f' : Ty} {a b a' b' : Tm} {p q : Bool} (ha : LT p Γ Γ' a .num a' .num) (hb : LT q Γ Γ' b .num b' .num) : LT true Γ Γ' (.mk 4 n t f [a, b]) .num (.mk 4 n' t' f' [a', b']) .num
  | less {Γ Γ' : List Ty} {n n' : Int} {t f t' f' : Ty} {a b a' b' : Tm} {p q : Bool} (ha : LT p Γ Γ' a .num a' .num) (hb : LT q Γ Γ' b .num b' .num) : LT true Γ Γ' (.mk 5 n t f [a, b]) .truth (.mk 5 n' t' f' [a', b']) .truth
  | ife {Γ Γ' : List Ty} {n n' : Int} {t f t' f' τ τ' : Ty} {a b c a' b' c' : Tm} {p q s : Bool} (ha : LT p Γ Γ' a .truth a' .truth) (hb : LT q Γ Γ' b τ b' τ') (hc : LT s Γ Γ' c τ c' τ') : LT true Γ Γ' (.mk 6 n t f [a, b, c]) τ (.mk 6 n' t' f' [a', b', c']) τ'
  | fn {Γ Γ' : List Ty} {n n' : Int} {t f t' f' τ τ' : Ty} {b b' : Tm} {p : Bool} (hr : Right t) (hr' : Right t') (hq : Right τ) (hq' : Right τ') (ht : t.finer t' = true) (h : LT p (t :: Γ) (t' :: Γ') b τ b' τ') : LT true Γ Γ' (.mk 7 n t f [b]) (.to t τ) (.mk 7 n' t' f' [b']) (.to t' τ')
  | call {Γ Γ' : List Ty} {n n' : Int} {t f t' f' σ τ σ' τ' : Ty} {a b a' b' : Tm} {p q : Bool} (ha : LT p Γ Γ' a (.to σ τ) a' (.to σ' τ')) (hb : LT q Γ Γ' b σ b' σ') : LT true Γ Γ' (.mk 8 n t f [a, b]) τ (.mk 8 n' t' f' [a', b']) τ'
  | as {Γ Γ' : List Ty} {n n' : Int} {t f t' f' : Ty} {b b' : Tm} {p : Bool} (h : LT p Γ Γ' b t b' t') : LT true Γ Γ' (.mk 9 n t f [b]) t (.mk 9 n' t' f' [b']) t'
  | castL {Γ Γ' : List Ty} {n : Int} {t f τ' : Ty} {b b' : Tm} {p : Bool} (hr : Right τ') (ht : Right t) (hf : Right f) (hs : f.fits t = true) (hft : t.finer τ' = true) (h : LT p Γ Γ' b f b' τ') : LT true Γ Γ' (.mk 10 n t f [b]) t b' τ'
  | castR {Γ Γ' : List Ty} {n : Int} {t f τ : Ty} {b b' : Tm} {p : Bool} (hr : Right τ) (ht : Right t) (hf : Right f) (hs : f.fits t = true) (hft : τ.finer t = true) (h : LT p Γ Γ' b τ b' f) : LT false Γ Γ' b τ (.mk 10 n t f [b']) t
  | castB {Γ Γ' : List Ty} {n n' : Int} {t f t' f' : Ty} {b b' : Tm} {p : Bool} (ht : Right t) (hf : Right f) (hs : f.fits t = true) (ht' : Right t') (hf' : Right f') (hs' : f'.fits t' = true) (hft : t.finer t' = true) (h : LT p Γ Γ' b f b' f') : LT true Γ Γ' (.mk 10 n t f [b]) t (.mk 10 n' t' f' [b']) t'
theorem LT.left {p : Bool} {Γ Γ' : List Ty} {x y : Tm} {τ τ' : Ty} (h : LT p Γ Γ' x τ y τ') : HT Γ x τ := by
  induction h with
  | ref h0 h _ _ => exact .ref h0 h
  | lit h => exact .lit h
  | says h => exact .says h
  | add _ _ iha ihb => exact .add iha ihb
  | less _ _ iha ihb => exact .less iha ihb
  | ife _ _ _ iha ihb ihc => exact .ife iha ihb ihc
  | fn _ _ _ _ _ _ ih => exact .fn ih
  | call _ _ iha ihb => exact .call iha ihb
  | as _ ih => exact .as ih
  | castL _ ht hf hs _ _ ih => exact .cast ht hf hs ih
  | castR _ _ _ _ _ _ ih => exact ih
  | castB ht hf hs _ _ _ _ _ ih => exact .cast ht hf hs ih
theorem LT.right {p : Bool} {Γ Γ' : List Ty} {x y : Tm} {τ τ' : Ty} (h : LT p Γ Γ' x τ y τ') : HT Γ' y τ' := by
  induction h with
  | ref h0 _ h _ => exact .ref h0 h
  | lit h => exact .lit h
  | says h => exact .says h
  | add _ _ iha ihb => exact .add iha ihb
  | less _ _ iha ihb => exact .less iha ihb
  | ife _ _ _ iha ihb ihc => exact .ife iha ihb ihc
  | fn _ _ _ _ _ _ ih => exact .fn ih
  | call _ _ iha ihb => exact .call iha ihb
  | as _ ih => exact .as ih
  | castL _ _ _ _ _ _ ih => exact ih
  | castR _ ht hf hs _ _ ih => exact .cast ht hf hs ih
  | castB _ _ _ ht hf hs _ _ ih => exact .cast ht hf hs ih
theorem LT.finer {p : Bool} {Γ Γ' : List Ty} {x y : Tm} {τ τ' : Ty} (h : LT p Γ Γ' x τ y τ') : τ.finer τ' = true := by
  induction h with
  | ref _ _ _ hf => exact hf
  | lit h => exact finer_refl _
  | says h => exact finer_refl _
  | add _ _ iha ihb => exact finer_refl _
  | less _ _ iha ihb => exact finer_refl _
  | ife _ _ _ iha ihb ihc => exact ihb
  | fn _ _ _ _ ht _ ih => rw [Ty.to, Ty.to, finer_fn, ht, ih]; rfl
  | call _ _ iha ihb => rw [Ty.to, Ty.to, finer_fn, Bool.and_eq_true] at iha; exact iha.2
  | as _ ih => exact ih
  | castL _ _ _ _ hft _ ih => exact hft
  | castR _ _ _ _ hft _ ih => exact hft
  | castB _ _ _ _ _ _ hft _ ih => exact hft
/-- A value, and one that says less. -/
inductive LV : Bool → V → Ty → V → Ty → Prop
  | num {n : Int} : LV true (.num n) .num (.num n) .num
  | tru {n : Int} : LV true (.tru n) .truth (.tru n) .truth
  | clo {b b' : Tm} {env env' : List V} {Γ Γ' : List Ty} {σ σ' τ τ' : Ty} {p : Bool} {pf : Nat → Bool} (r0 : Right σ) (r1 : Right τ) (r0' : Right σ') (r1' : Right τ') (hl : Γ.length ≤ env.length) (hl' : Γ'.length ≤ env'.length) (hs : σ.finer σ' = true)
      (he : ∀ (i : Nat) (v v' : V) (ρ ρ' : Ty), env[i]? = some v → env'[i]? = some v' → Γ[i]? = some ρ → Γ'[i]? = some ρ' → LV (pf i) v ρ v' ρ')
      (hv : ∀ (i : Nat) (v : V) (ρ : Ty), env[i]? = some v → Γ[i]? = some ρ → VT v ρ) (hv' : ∀ (i : Nat) (v : V) (ρ : Ty), env'[i]? = some v → Γ'[i]? = some ρ → VT v ρ)
      (hb : LT p (σ :: Γ) (σ' :: Γ') b τ b' τ') : LV true (.clo b env) (.to σ τ) (.clo b' env') (.to σ' τ')
  | wrapL {p : Bool} {v v' : V} {f0 f1 t0 t1 τ' : Ty} {at' : Int} {back : Bool} (h0 : Right f0) (h1 : Right f1) (h2 : Right t0) (h3 : Right t1) (g0 : f0.fits t0 = true) (g1 : f1.fits t1 = true) (hft : (Ty.mk 3 [t0, t1]).finer τ' = true) (h : LV p v (.mk 3 [f0, f1]) v' τ') :
      LV true (.wrap v (.mk 3 [f0, f1]) (.mk 3 [t0, t1]) at' back) (.mk 3 [t0, t1]) v' τ'
  | tagL {p : Bool} {v v' : V} {g : Ty} (hg : Plain g) (h : LV p v g v' .any) : LV true (.tag v g) .any v' .any
  | wrapR {p : Bool} {v v' : V} {f0 f1 t0 t1 τ : Ty} {at' : Int} {back : Bool} (h0 : Right f0) (h1 : Right f1) (h2 : Right t0) (h3 : Right t1) (g0 : f0.fits t0 = true) (g1 : f1.fits t1 = true) (hft : τ.finer (Ty.mk 3 [t0, t1]) = true) (h : LV p v τ v' (.mk 3 [f0, f1])) :
      LV false v τ (.wrap v' (.mk 3 [f0, f1]) (.mk 3 [t0, t1]) at' back) (.mk 3 [t0, t1])
  | wrapB {p : Bool} {v v' : V} {f0 f1 t0 t1 f0' f1' t0' t1' : Ty} {at' at'' : Int} {back back' : Bool} (h0 : Right f0) (h1 : Right f1) (h2 : Right t0) (h3 : Right t1) (g0 : f0.fits t0 = true) (g1 : f1.fits t1 = true)
      (h0' : Right f0') (h1' : Right f1') (h2' : Right t0') (h3' : Right t1') (g0' : f0'.fits t0' = true) (g1' : f1'.fits t1' = true) (hft : (Ty.mk 3 [t0, t1]).finer (.mk 3 [t0', t1']) = true) (h : LV p v (.mk 3 [f0, f1]) v' (.mk 3 [f0', f1'])) :
      LV true (.wrap v (.mk 3 [f0, f1]) (.mk 3 [t0, t1]) at' back) (.mk 3 [t0, t1]) (.wrap v' (.mk 3 [f0', f1']) (.mk 3 [t0', t1']) at'' back') (.mk 3 [t0', t1'])
  | tagR {p : Bool} {v v' : V} {g τ : Ty} (hg : Plain g) (h : LV p v τ v' g) : LV false v τ (.tag v' g) .any
theorem LV.left {p : Bool} {v v' : V} {τ τ' : Ty} (h : LV p v τ v' τ') : VT v τ := by
  induction h with
  | num => exact .num
  | tru => exact .tru
  | clo _ _ _ _ hl _ _ _ hv _ hb _ => exact .clo hl hv hb.left
  | wrapL h0 h1 h2 h3 g0 g1 _ _ ih => exact .wrap h0 h1 h2 h3 g0 g1 ih
  | tagL hg _ ih => exact .tag hg ih
  | wrapR _ _ _ _ _ _ _ _ ih => exact ih
  | tagR _ _ ih => exact ih
  | wrapB h0 h1 h2 h3 g0 g1 _ _ _ _ _ _ _ _ ih => exact .wrap h0 h1 h2 h3 g0 g1 ih
theorem LV.right {p : Bool} {v v' : V} {τ τ' : Ty} (h : LV p v τ v' τ') : VT v' τ' := by
  induction h with
  | num => exact .num
  | tru => exact .tru
  | clo _ _ _ _ _ hl _ _ _ hv hb _ => exact .clo hl hv hb.right
  | wrapL _ _ _ _ _ _ _ _ ih => exact ih
  | tagL _ _ ih => exact ih
  | wrapR h0 h1 h2 h3 g0 g1 _ _ ih => exact .wrap h0 h1 h2 h3 g0 g1 ih
  | tagR hg _ ih => exact .tag hg ih
  | wrapB _ _ _ _ _ _ h0 h1 h2 h3 g0 g1 _ _ ih => exact .wrap h0 h1 h2 h3 g0 g1 ih
theorem LV.finer {p : Bool} {v v' : V} {τ τ' : Ty} (h : LV p v τ v' τ') : τ.finer τ' = true := by
  induction h with
  | num => exact finer_refl _
  | tru => exact finer_refl _
  | clo _ _ _ _ _ _ hs _ _ _ hb _ => rw [Ty.to, Ty.to, finer_fn, hs, hb.finer]; rfl
  | wrapL _ _ _ _ _ _ hft _ _ => exact hft
  | tagL _ _ _ => exact finer_refl _
  | wrapR _ _ _ _ _ _ hft _ _ => exact hft
  | tagR _ _ _ => exact finer_any _
  | wrapB _ _ _ _ _ _ _ _ _ _ _ _ hft _ _ => exact hft
/-- What is seen is the same. -/
theorem LV.seen {p : Bool} {v v' : V} {τ τ' : Ty} (h : LV p v τ v' τ') : v.seen = v'.seen := by
  have key : ∀ {v : V} {a b : Ty}, VT v (.mk 3 [a, b]) → v.seen = ⟨3, 0, false⟩ := fun h => by
    cases h <;> rfl
  induction h with
  | num => rfl
  | tru => rfl
  | clo _ _ _ _ _ _ _ _ _ _ _ _ => rfl
  | wrapL _ _ _ _ _ _ _ h ih => rw [← ih, key h.left]; rfl
  | tagL _ _ ih => exact ih
  | wrapR _ _ _ _ _ _ _ h ih => rw [ih, key h.right]; rfl
  | tagR _ _ ih => exact ih
  | wrapB _ _ _ _ _ _ _ _ _ _ _ _ _ _ _ => rfl
theorem lv_wrapL {p : Bool} {v v' : V} {f t τ' : Ty} {n : Int} {b : Bool} (hf : Right f) (ht : Right t) (h1 : f.k = 3) (h2 : t.k = 3) (hs : f.fits t = true) (hft : t.finer τ' = true) (h : LV p v f v' τ') : LV true (.wrap v f t n b) t v' τ' := by
  obtain ⟨_, _, rfl, a, b⟩ := right_fn hf h1
  obtain ⟨_, _, rfl, c, d⟩ := right_fn ht h2
  rw [fits_to, Bool.and_eq_true] at hs
  exact .wrapL a b c d hs.1 hs.2 hft h
theorem lv_wrapR {p : Bool} {v v' : V} {f t τ : Ty} {n : Int} {b : Bool} (hf : Right f) (ht : Right t) (h1 : f.k = 3) (h2 : t.k = 3) (hs : f.fits t = true) (hft : τ.finer t = true) (h : LV p v τ v' f) : LV false v τ (.wrap v' f t n b) t := by
  obtain ⟨_, _, rfl, a, b⟩ := right_fn hf h1
  obtain ⟨_, _, rfl, c, d⟩ := right_fn ht h2
  rw [fits_to, Bool.and_eq_true] at hs
  exact .wrapR a b c d hs.1 hs.2 hft h
theorem fits_ground {t : Ty} (ht : Right t) : t.fits t.ground = true ∧ t.ground.fits t = true := by
  have : t.fits t.ground = true := by
    cases ht with
    | base h => rw [right_base (.base h) (by simp; omega)]; simp [Ty.fits, fitsL]
    | fn _ _ => rw [ground_fn, fits_to, fits_any, fits_any]; rfl
  exact ⟨this, by rw [fits_comm]; exact this⟩
/-- A function's kind, where one says less. -/
theorem lv_tag {p : Bool} {v v' : V} {τ τ' : Ty} (h : LV p v τ v' τ') : ∀ u g, v' = .tag u g → τ.k ≠ 0 → ∃ q, LV q v τ u g ∧ Plain g := by
  induction h with
  | num => intro u g h; cases h
  | tru => intro u g h; cases h
  | clo _ _ _ _ _ _ _ _ _ _ _ _ => intro u g h; cases h
  | wrapL h0 h1 h2 h3 g0 g1 hft h ih =>
    rename_i f0 f1 t0 t1 τ' at' back
    intro u g he _
    obtain ⟨q, hq, hg⟩ := ih u g he (by simp)
    have hk : g.k = 3 := (finer_kind hq.finer (plain_ground hg).1).symm
    have hge : g = .mk 3 [.any, .any] := ((plain_ground hg).2 (.mk 3 [f0, f1]) hk.symm).symm
    exact ⟨true, .wrapL h0 h1 h2 h3 g0 g1 (by rw [hge, finer_fn, finer_any, finer_any]; rfl) hq, hg⟩
  | tagL _ _ _ => intro u g _ h; exact absurd rfl h
  | wrapR _ _ _ _ _ _ _ _ _ => intro u g h; cases h
  | wrapB _ _ _ _ _ _ _ _ _ _ _ _ _ _ _ => intro u g h; cases h
  | tagR hg h _ => intro u g he _; cases he; exact ⟨_, h, hg⟩
/-- A tagged value, where one says less. -/
theorem lv_tagL {p : Bool} {v v' : V} {τ τ' : Ty} (h : LV p v τ v' τ') : ∀ u g, v = .tag u g → Plain g ∧ ∃ q, LV q u g v' .any := by
  have no : ∀ {p : Bool} {u v' : V} {g g' : Ty}, LV p (.tag u g) τ v' g' → VT (.tag u g) τ := fun h => h.left
  induction h with
  | num => intro u g h; cases h
  | tru => intro u g h; cases h
  | clo _ _ _ _ _ _ _ _ _ _ _ _ => intro u g h; cases h
  | wrapL _ _ _ _ _ _ _ _ _ => intro u g h; cases h
  | wrapB _ _ _ _ _ _ _ _ _ _ _ _ _ _ _ => intro u g h; cases h
  | tagL hg h _ => intro u g he; cases he; exact ⟨hg, _, h⟩
  | wrapR _ _ _ _ _ _ hft h _ =>
    intro u g he; subst he
    have := h.left
    cases this with
    | tag _ _ => simp [Ty.any, Ty.finer] at hft
  | tagR hg h _ =>
    intro u g he; subst he
    have h1 := h.left
    cases h1 with
    | tag _ _ =>
      have := h.finer
      have := any_finer .any (plain_right hg) rfl this
      subst this
      exact absurd rfl (plain_ground hg).1
/-- A cast of what says more. -/
theorem castV_L {p : Bool} {v v' u : V} {f t τ' : Ty} {n : Int} {b : Bool} (hf : Right f) (ht : Right t) (hr' : Right τ') (hs : f.fits t = true) (hft : t.finer τ' = true) (h : LV p v f v' τ') (hc : castV v f t n b = .inl u) : ∃ q, LV q u t v' τ' := by
  unfold castV at hc
  split at hc
  · rename_i h1; cases hc; have := same_eq h1; subst this; exact ⟨p, h⟩
  split at hc
  · rename_i hk
    cases hc
    simp only [Bool.and_eq_true, beq_iff_eq] at hk
    exact ⟨true, lv_wrapL hf ht hk.1 hk.2 hs hft h⟩
  split at hc
  · rename_i h1 h2 h0
    cases hc
    have := right_zero ht (by simpa using h0)
    subst this
    have := any_finer .any hr' rfl hft
    subst this
    have hfk : f.k ≠ 0 := fun e => by have := right_zero hf e; subst this; exact h1 rfl
    split
    · rename_i hg
      have hg := same_eq hg
      exact ⟨true, .tagL (by rw [← hg, hg]; exact ground_plain hf hfk) (by rw [← hg]; exact h)⟩
    · rename_i hg
      have h3 : f.k = 3 := Decidable.byContradiction fun h3 => hg (by rw [right_base hf h3]; exact same_refl f)
      exact ⟨true, .tagL (ground_plain hf hfk) (lv_wrapL hf hf.ground h3 (by rw [ground_k]; exact h3) (fits_ground hf).1 (finer_any _) h)⟩
  split at hc
  · rename_i h0
    have := right_zero hf (by simpa using h0)
    subst this
    have := any_finer .any hr' rfl h.finer
    subst this
    split at hc
    · obtain ⟨hg, q, h⟩ := lv_tagL h _ _ rfl
      split at hc
      · rename_i hgt
        have hgt := same_eq hgt
        split at hc
        · rename_i he
          have he := same_eq he
          cases hc
          rw [hgt, he] at h
          exact ⟨q, h⟩
        · split at hc
          · rename_i h3
            have h3 : t.k = 3 := by simpa using h3
            cases hc
            rw [hgt] at h
            exact ⟨true, lv_wrapL ht.ground ht (by rw [ground_k]; exact h3) h3 (fits_ground ht).2 (finer_any _) h⟩
          · cases hc
      · cases hc
    · cases hc
  · cases hc
/-- A cast of what says less is not blamed. -/
theorem castV_R {p : Bool} {v v' : V} {f t τ : Ty} {n : Int} {b : Bool} (hf : Right f) (ht : Right t) (hr : Right τ) (hs : f.fits t = true) (hft : τ.finer t = true) (h : LV p v τ v' f) : ∃ u q, castV v' f t n b = .inl u ∧ LV q v τ u t := by
  unfold castV
  by_cases h1 : f.same t = true
  · rw [if_pos h1]; have := same_eq h1; subst this; exact ⟨v', p, rfl, h⟩
  rw [if_neg h1]
  by_cases hk : (f.k == 3 && t.k == 3) = true
  · rw [if_pos hk]
    simp only [Bool.and_eq_true, beq_iff_eq] at hk
    exact ⟨_, false, rfl, lv_wrapR hf ht hk.1 hk.2 hs hft h⟩
  rw [if_neg hk]
  by_cases h0 : (t.k == 0) = true
  · rw [if_pos h0]
    have := right_zero ht (by simpa using h0)
    subst this
    have hfk : f.k ≠ 0 := fun e => by have := right_zero hf e; subst this; exact h1 rfl
    refine ⟨_, false, rfl, .tagR (ground_plain hf hfk) (p := if f.same f.ground then p else false) ?_⟩
    split
    · rename_i hg; have hg := same_eq hg; rw [← hg]; exact h
    · rename_i hg
      have h3 : f.k = 3 := Decidable.byContradiction fun h3 => hg (by rw [right_base hf h3]; exact same_refl f)
      exact lv_wrapR hf hf.ground h3 (by rw [ground_k]; exact h3) (fits_ground hf).1 (finer_trans hr hf hf.ground h.finer (finer_ground hf)) h
  rw [if_neg h0]
  have ht0 : t.k ≠ 0 := by simpa using h0
  have hτ : τ.k = t.k := finer_kind hft ht0
  by_cases hf0 : (f.k == 0) = true
  · rw [if_pos hf0]
    have := right_zero hf (by simpa using hf0)
    subst this
    obtain ⟨u, g, rfl, _, _⟩ := vt_any h.right
    obtain ⟨q, hq, hg⟩ := lv_tag h u g rfl (by rw [hτ]; exact ht0)
    have hgk : t.k = g.k := by rw [← hτ]; exact finer_kind hq.finer (plain_ground hg).1
    have hge : t.ground = g := (plain_ground hg).2 t hgk
    dsimp only
    rw [if_pos (by rw [hge]; exact same_refl g)]
    by_cases he : t.ground.same t = true
    · rw [if_pos he]
      have he := same_eq he
      exact ⟨u, q, rfl, by rw [← he, hge]; exact hq⟩
    · rw [if_neg he]
      have h3 : t.k = 3 := Decidable.byContradiction fun h3 => he (by rw [right_base ht h3]; exact same_refl t)
      rw [if_pos (by simpa using h3)]
      exact ⟨_, false, rfl, lv_wrapR ht.ground ht (by rw [ground_k]; exact h3) h3 (fits_ground ht).2 hft (by rw [hge]; exact hq)⟩
  · exfalso
    have hf0 : f.k ≠ 0 := by simpa using hf0
    rw [fits_eta] at hs
    simp [hf0, ht0] at hs
    apply h1
    have hfk : f.k ≠ 3 := fun e => hk (by rw [← hs.1, e]; rfl)
    cases hf with
    | fn _ _ => exact absurd rfl hfk
    | base hb =>
      cases ht with
      | fn _ _ => simp at hs hfk; exact absurd hs.1 (by omega)
      | base hb' => simp at hs; rw [hs.1]; exact same_refl _
theorem LV.rl {p : Bool} {v v' : V} {τ τ' : Ty} (h : LV p v τ v' τ') : Right τ := by
  induction h with
  | num => exact .num
  | tru => exact .truth
  | clo r0 r1 _ _ _ _ _ _ _ _ _ _ => exact .to r0 r1
  | wrapL _ _ h2 h3 _ _ _ _ _ => exact .to h2 h3
  | tagL _ _ _ => exact .any
  | wrapR _ _ _ _ _ _ _ _ ih => exact ih
  | tagR _ _ ih => exact ih
  | wrapB _ _ h2 h3 _ _ _ _ _ _ _ _ _ _ _ => exact .to h2 h3
theorem LV.rr {p : Bool} {v v' : V} {τ τ' : Ty} (h : LV p v τ v' τ') : Right τ' := by
  induction h with
  | num => exact .num
  | tru => exact .truth
  | clo _ _ r0 r1 _ _ _ _ _ _ _ _ => exact .to r0 r1
  | wrapL _ _ _ _ _ _ _ _ ih => exact ih
  | tagL _ _ ih => exact ih
  | wrapR _ _ h2 h3 _ _ _ _ _ => exact .to h2 h3
  | tagR _ _ ih => exact .any
  | wrapB _ _ _ _ _ _ _ _ h2 h3 _ _ _ _ _ => exact .to h2 h3
/-- A cast of both. -/
theorem castV_B {p : Bool} {v v' u : V} {f t f' t' : Ty} {n n' : Int} {b b' : Bool} (hf : Right f) (ht : Right t) (hf' : Right f') (ht' : Right t') (hs : f.fits t = true) (hs' : f'.fits t' = true) (hft : t.finer t' = true) (h : LV p v f v' f') (hc : castV v f t n b = .inl u) :
    ∃ u' q, castV v' f' t' n' b' = .inl u' ∧ LV q u t u' t' := by
  by_cases h1 : t.finer f' = true
  · obtain ⟨q, hu⟩ := castV_L hf ht hf' hs h1 h hc
    exact castV_R hf' ht' ht hs' hft hu
  by_cases h2 : f.finer t' = true
  · obtain ⟨u', q, hc', hu'⟩ := castV_R (n := n') (b := b') hf' ht' hf hs' h2 h
    obtain ⟨q', hu⟩ := castV_L hf ht ht' hs hft hu' hc
    exact ⟨u', q', hc', hu⟩
  have hff := h.finer
  have k1 : f'.k ≠ 0 := fun e => h1 (by rw [right_zero hf' e]; exact finer_any _)
  have k2 : t'.k ≠ 0 := fun e => h2 (by rw [right_zero ht' e]; exact finer_any _)
  have e1 := finer_kind hff k1
  have e2 := finer_kind hft k2
  have e3 : f'.k = t'.k := by
    rw [fits_eta] at hs'
    simp [k1, k2] at hs'
    exact hs'.1
  have k3 : f.k = 3 := by
    cases hf with
    | fn _ _ => rfl
    | base hb =>
      exfalso
      cases ht' with
      | fn _ _ => simp at e1 e3 hb; omega
      | base hb' =>
        apply h2
        simp at e1 e3
        simp [Ty.finer, finerL]
        omega
  have n1 : ¬ f.same t = true := fun e => h2 (by have := same_eq e; subst this; exact hft)
  have n2 : ¬ f'.same t' = true := fun e => h1 (by have := same_eq e; subst this; exact hft)
  unfold castV at hc ⊢
  rw [if_neg n1, if_pos (by simp; omega)] at hc
  rw [if_neg n2, if_pos (by simp; omega)]
  cases hc
  obtain ⟨_, _, rfl, a0, a1⟩ := right_fn hf k3
  obtain ⟨_, _, rfl, a2, a3⟩ := right_fn ht (by omega)
  obtain ⟨_, _, rfl, c0, c1⟩ := right_fn hf' (by omega)
  obtain ⟨_, _, rfl, c2, c3⟩ := right_fn ht' (by omega)
  rw [fits_to, Bool.and_eq_true] at hs hs'
  exact ⟨_, true, rfl, .wrapB a0 a1 a2 a3 hs.1 hs.2 c0 c1 c2 c3 hs'.1 hs'.2 hft h⟩
def RL : Res → Ty → Res → Ty → Prop
  | .ok v F, τ, r', τ' => ∃ v' p, r' = .ok v' F ∧ LV p v τ v' τ'
  | .out o, _, r', _ => r' = .out o
structure LE (env env' : List V) (Γ Γ' : List Ty) : Prop where
  hl : Γ.length ≤ env.length
  hl' : Γ'.length ≤ env'.length
  he : ∃ pf : Nat → Bool, ∀ (i : Nat) (v v' : V) (ρ ρ' : Ty), env[i]? = some v → env'[i]? = some v' → Γ[i]? = some ρ → Γ'[i]? = some ρ' → LV (pf i) v ρ v' ρ'
  hv : ∀ (i : Nat) (v : V) (ρ : Ty), env[i]? = some v → Γ[i]? = some ρ → VT v ρ
  hv' : ∀ (i : Nat) (v : V) (ρ : Ty), env'[i]? = some v → Γ'[i]? = some ρ → VT v ρ
theorem LE.cons {env env' : List V} {Γ Γ' : List Ty} {v v' : V} {ρ ρ' : Ty} {p : Bool} (h : LE env env' Γ Γ') (hv : LV p v ρ v' ρ') : LE (v :: env) (v' :: env') (ρ :: Γ) (ρ' :: Γ') where
  hl := by simpa using h.hl
  hl' := by simpa using h.hl'
  he := by
    obtain ⟨pf, hp⟩ := h.he
    refine ⟨fun i => match i with | 0 => p | i + 1 => pf i, fun i u u' σ σ' h1 h2 h3 h4 => ?_⟩
    cases i with
    | zero => simp at h1 h2 h3 h4; subst h1 h2 h3 h4; exact hv
    | succ i => exact hp i u u' σ σ' (by simpa using h1) (by simpa using h2) (by simpa using h3) (by simpa using h4)
  hv := fun i u σ h1 h3 => by
    cases i with
    | zero => simp at h1 h3; subst h1 h3; exact hv.left
    | succ i => exact h.hv i u σ (by simpa using h1) (by simpa using h3)
  hv' := fun i u σ h1 h3 => by
    cases i with
    | zero => simp at h1 h3; subst h1 h3; exact hv.right
    | succ i => exact h.hv' i u σ (by simpa using h1) (by simpa using h3)
theorem RL.castR {r r' : Res} {τ f t : Ty} {n : Int} {y : Tm} {env' : List V} {F : Nat} (hr : Right τ) (ht : Right t) (hf : Right f) (hs : f.fits t = true) (hft : τ.finer t = true) (h1 : Ev (.tm y env') F r') (h2 : RL r τ r' f) : ∃ r', Ev (.tm (.mk 10 n t f [y]) env') F r' ∧ RL r τ r' t := by
  cases r with
  | out o =>
    have h2 : r' = _ := h2
    subst h2
    exact ⟨_, .castO h1, rfl⟩
  | ok v F' =>
    obtain ⟨v', p, rfl, hv⟩ := h2
    obtain ⟨u, q, hc, hu⟩ := castV_R (n := n) (b := false) hf ht hr hs hft hv
    refine ⟨_, .cast h1, ?_⟩
    unfold Go.Proofs.YtnflnbdlgdjfmaaDoor.castR
    rw [hc]
    exact ⟨u, q, rfl, hu⟩
/-- Casts of what says less are carried out. -/
theorem lt_close {Γ Γ' : List Ty} {env' : List V} {F : Nat} {r : Res} {p : Bool} {x y : Tm} {τ τ' : Ty} (h : LT p Γ Γ' x τ y τ') : (∀ y τ', LT true Γ Γ' x τ y τ' → ∃ r', Ev (.tm y env') F r' ∧ RL r τ r' τ') → ∃ r', Ev (.tm y env') F r' ∧ RL r τ r' τ' := by
  induction h with
  | castR hr ht hf hs hft h ih =>
    intro H
    obtain ⟨r', h1, h2⟩ := ih H
    exact RL.castR hr ht hf hs hft h1 h2
  | ref h0 h h' hf => exact fun H => H _ _ (.ref h0 h h' hf)
  | lit h => exact fun H => H _ _ (.lit h)
  | says h => exact fun H => H _ _ (.says h)
  | add ha hb => exact fun H => H _ _ (.add ha hb)
  | less ha hb => exact fun H => H _ _ (.less ha hb)
  | ife ha hb hc => exact fun H => H _ _ (.ife ha hb hc)
  | fn hr hr' hq hq' ht h => exact fun H => H _ _ (.fn hr hr' hq hq' ht h)
  | call ha hb => exact fun H => H _ _ (.call ha hb)
  | as h => exact fun H => H _ _ (.as h)
  | castL hr ht hf hs hft h => exact fun H => H _ _ (.castL hr ht hf hs hft h)
  | castB ht hf hs ht' hf' hs' hft h => exact fun H => H _ _ (.castB ht hf hs ht' hf' hs' hft h)
/-- Wrapped functions that say less are called. -/
theorem lv_close {f x : V} {F : Nat} {r : Res} {T : Ty} {σ τ : Ty} (hT : T = .mk 3 [σ, τ]) {p : Bool} {f' : V} {T' : Ty} (h : LV p f T f' T') : (∀ f' x' σ' τ' q, LV true f T f' (.mk 3 [σ', τ']) → LV q x σ x' σ' → ∃ r', Ev (.ap f' x') F r' ∧ RL r τ r' τ') →
    ∀ x' σ' τ' q, T' = .mk 3 [σ', τ'] → LV q x σ x' σ' → ∃ r', Ev (.ap f' x') F r' ∧ RL r τ r' τ' := by
  induction h with
  | num => cases hT
  | tru => cases hT
  | tagL _ _ _ => cases hT
  | tagR _ _ _ => intro _ _ _ _ _ h; cases h
  | clo r0 r1 r2 r3 hl hl' hs he hv hv' hb _ => intro H x' σ' τ' q h hx; cases h; exact H _ _ _ _ _ (.clo r0 r1 r2 r3 hl hl' hs he hv hv' hb) hx
  | wrapL h0 h1 h2 h3 g0 g1 hft h _ => intro H x' σ' τ' q e hx; subst e; exact H _ _ _ _ _ (.wrapL h0 h1 h2 h3 g0 g1 hft h) hx
  | wrapB h0 h1 h2 h3 g0 g1 h0' h1' h2' h3' g0' g1' hft h _ => intro H x' σ' τ' q e hx; cases e; exact H _ _ _ _ _ (.wrapB h0 h1 h2 h3 g0 g1 h0' h1' h2' h3' g0' g1' hft h) hx
  | wrapR h0 h1 h2 h3 g0 g1 hft h ih =>
    rename_i at' back
    intro H x' σ' τ' q e hx
    cases e
    subst hT
    have hf := h.finer
    rw [finer_fn, Bool.and_eq_true] at hf hft
    obtain ⟨y', q', hc, hy⟩ := castV_R (n := at') (b := !back) h2 h0 hx.rl (by rw [fits_comm]; exact g0) hf.1 hx
    obtain ⟨r', h4, h5⟩ := ih rfl H y' _ _ q' rfl hy
    cases r with
    | out o =>
      have h5 : r' = _ := h5
      subst h5
      exact ⟨_, .wrapP hc h4, rfl⟩
    | ok v F' =>
      obtain ⟨v', p', rfl, hv⟩ := h5
      obtain ⟨u, q2, hc2, hu⟩ := castV_R (n := at') (b := back) h1 h3 hv.rl g1 hft.2 hv
      refine ⟨_, .wrap hc h4, ?_⟩
      unfold castR
      rw [hc2]
      exact ⟨u, q2, rfl, hu⟩
def LC : Cmd → Ty → Cmd → Ty → Prop
  | .tm t env, τ, c', τ' => ∃ Γ Γ' t' env' p, c' = .tm t' env' ∧ LE env env' Γ Γ' ∧ LT p Γ Γ' t τ t' τ'
  | .ap f x, τ, c', τ' => ∃ σ σ' f' x' p q, c' = .ap f' x' ∧ LV p f (.mk 3 [σ, τ]) f' (.mk 3 [σ', τ']) ∧ LV q x σ x' σ'
theorem lv_num {p : Bool} {n : Int} {v' : V} (h : LV p (.num n) .num v' .num) : v' = .num n := by
  have := h.seen
  obtain ⟨m, rfl⟩ := vt_num h.right
  simp [V.seen] at this
  rw [this]
theorem lv_tru {p : Bool} {n : Int} {v' : V} (h : LV p (.tru n) .truth v' .truth) : v' = .tru n := by
  have := h.seen
  obtain ⟨m, rfl⟩ := vt_truth h.right
  simp [V.seen] at this
  rw [this]
/-- WHO SAYS LESS COMES TO THE SAME, AS LONG AS NOBODY IS BLAMED. -/
theorem ev_lt {c : Cmd} {F : Nat} {r : Res} (h : Ev c F r) : Well r → ∀ τ c' τ', LC c τ c' τ' → ∃ r', Ev c' F r' ∧ RL r τ r' τ' := by
  induction h with
  | ref hv =>
    rintro hr τ _ τ' ⟨Γ, Γ', t', env', p, rfl, he, ht⟩
    refine lt_close ht fun y τ' ht => ?_
    cases ht with
    | ref h0 h1 h2 hf =>
      have hlt := Nat.lt_of_lt_of_le (List.getElem?_eq_some_iff.1 h2).1 he.hl'
      have hv' := List.getElem?_eq_getElem hlt
      obtain ⟨pf, hp⟩ := he.he
      exact ⟨_, .ref hv', _, _, rfl, hp _ _ _ _ _ hv hv' h1 h2⟩
  | refS hv => intro hw; exact absurd hw not_stuck
  | lit =>
    rintro hr τ _ τ' ⟨Γ, Γ', t', env', p, rfl, he, ht⟩
    refine lt_close ht fun y τ' ht => ?_
    cases ht with
    | lit h => exact ⟨_, .lit, _, _, rfl, .num⟩
  | says =>
    rintro hr τ _ τ' ⟨Γ, Γ', t', env', p, rfl, he, ht⟩
    refine lt_close ht fun y τ' ht => ?_
    cases ht with
    | says h => exact ⟨_, .says, _, _, rfl, .tru⟩
  | fn =>
    rintro hr τ _ τ' ⟨Γ, Γ', t', env', p, rfl, he, ht⟩
    refine lt_close ht fun y τ' ht => ?_
    cases ht with
    | fn r0 r0' r1 r1' hf h =>
      obtain ⟨pf, hp⟩ := he.he
      exact ⟨_, .fn, _, true, rfl, .clo r0 r1 r0' r1' he.hl he.hl' hf hp he.hv he.hv' h⟩
  | as _ ih =>
    rintro hr τ _ τ' ⟨Γ, Γ', t', env', p, rfl, he, ht⟩
    refine lt_close ht fun y τ' ht => ?_
    cases ht with
    | as h =>
      obtain ⟨r', h1, h2⟩ := ih hr _ _ _ ⟨Γ, Γ', _, env', _, rfl, he, h⟩
      exact ⟨r', .as h1, h2⟩
  | castO _ ih =>
    rintro hr τ _ τ' ⟨Γ, Γ', t', env', p, rfl, he, ht⟩
    refine lt_close ht fun y τ' ht => ?_
    cases ht with
    | castL _ _ _ _ _ h =>
      obtain ⟨r', h1, h2⟩ := ih hr _ _ _ ⟨Γ, Γ', _, env', _, rfl, he, h⟩
      exact ⟨r', h1, h2⟩
    | castB _ _ _ _ _ _ _ h =>
      obtain ⟨r', h1, h2⟩ := ih hr _ _ _ ⟨Γ, Γ', _, env', _, rfl, he, h⟩
      have h2 : r' = _ := h2
      subst h2
      exact ⟨_, .castO h1, rfl⟩
  | cast _ ih =>
    rintro hr τ _ τ' ⟨Γ, Γ', t', env', p, rfl, he, ht⟩
    refine lt_close ht fun y τ' ht => ?_
    cases ht with
    | castL hr' h6 hf hs hft h =>
      obtain ⟨r', h1, v', q, rfl, hv⟩ := ih well_ok _ _ _ ⟨Γ, Γ', _, env', _, rfl, he, h⟩
      obtain ⟨u, h3, h4⟩ := well_cast hr
      obtain ⟨q', hu⟩ := castV_L hf h6 hr' hs hft hv h3
      exact ⟨_, h1, by rw [h4]; exact ⟨v', q', rfl, hu⟩⟩
    | castB h6 hf hs h6' hf' hs' hft h =>
      obtain ⟨r', h1, v', q, rfl, hv⟩ := ih well_ok _ _ _ ⟨Γ, Γ', _, env', _, rfl, he, h⟩
      obtain ⟨u, h3, h4⟩ := well_cast hr
      obtain ⟨u', q', hc', hu⟩ := castV_B hf h6 hf' h6' hs hs' hft hv h3
      refine ⟨_, .cast h1, ?_⟩
      rw [h4, castR, hc']
      exact ⟨u', q', rfl, hu⟩
  | ifO _ ih =>
    rintro hr τ _ τ' ⟨Γ, Γ', t', env', p, rfl, he, ht⟩
    refine lt_close ht fun y τ' ht => ?_
    cases ht with
    | ife ha hb hc =>
      obtain ⟨r', h1, h2⟩ := ih hr _ _ _ ⟨Γ, Γ', _, env', _, rfl, he, ha⟩
      have h2 : r' = _ := h2
      subst h2
      exact ⟨_, .ifO h1, rfl⟩
  | ifS _ hv ih => intro hw; exact absurd hw not_stuck
  | ifT _ _ ih1 ih2 =>
    rintro hr τ _ τ' ⟨Γ, Γ', t', env', p, rfl, he, ht⟩
    refine lt_close ht fun y τ' ht => ?_
    cases ht with
    | ife ha hb hc =>
      obtain ⟨r', h1, v', q, rfl, hv⟩ := ih1 well_ok _ _ _ ⟨Γ, Γ', _, env', _, rfl, he, ha⟩
      obtain rfl := lv_tru hv
      obtain ⟨r', h3, h4⟩ := ih2 hr _ _ _ ⟨Γ, Γ', _, env', _, rfl, he, hb⟩
      exact ⟨_, .ifT h1 h3, h4⟩
  | ifF _ _ ih1 ih2 =>
    rintro hr τ _ τ' ⟨Γ, Γ', t', env', p, rfl, he, ht⟩
    refine lt_close ht fun y τ' ht => ?_
    cases ht with
    | ife ha hb hc =>
      obtain ⟨r', h1, v', q, rfl, hv⟩ := ih1 well_ok _ _ _ ⟨Γ, Γ', _, env', _, rfl, he, ha⟩
      obtain rfl := lv_tru hv
      obtain ⟨r', h3, h4⟩ := ih2 hr _ _ _ ⟨Γ, Γ', _, env', _, rfl, he, hc⟩
      exact ⟨_, .ifF h1 h3, h4⟩
  | binO hk _ ih =>
    rintro hr τ _ τ' ⟨Γ, Γ', t', env', p, rfl, he, ht⟩
    refine lt_close ht fun y τ' ht => ?_
    cases ht with
    | add ha hb =>
      obtain ⟨r', h1, h2⟩ := ih hr _ _ _ ⟨Γ, Γ', _, env', _, rfl, he, ha⟩
      have h2 : r' = _ := h2
      subst h2
      exact ⟨_, .binO hk h1, rfl⟩
    | less ha hb =>
      obtain ⟨r', h1, h2⟩ := ih hr _ _ _ ⟨Γ, Γ', _, env', _, rfl, he, ha⟩
      have h2 : r' = _ := h2
      subst h2
      exact ⟨_, .binO hk h1, rfl⟩
    | call ha hb =>
      obtain ⟨r', h1, h2⟩ := ih hr _ _ _ ⟨Γ, Γ', _, env', _, rfl, he, ha⟩
      have h2 : r' = _ := h2
      subst h2
      exact ⟨_, .binO hk h1, rfl⟩
  | binP hk _ _ ih1 ih2 =>
    rintro hr τ _ τ' ⟨Γ, Γ', t', env', p, rfl, he, ht⟩
    refine lt_close ht fun y τ' ht => ?_
    cases ht with
    | add ha hb =>
      obtain ⟨r', h1, v', q, rfl, hv⟩ := ih1 well_ok _ _ _ ⟨Γ, Γ', _, env', _, rfl, he, ha⟩
      obtain ⟨r', h3, h2⟩ := ih2 hr _ _ _ ⟨Γ, Γ', _, env', _, rfl, he, hb⟩
      have h2 : r' = _ := h2
      subst h2
      exact ⟨_, .binP hk h1 h3, rfl⟩
    | less ha hb =>
      obtain ⟨r', h1, v', q, rfl, hv⟩ := ih1 well_ok _ _ _ ⟨Γ, Γ', _, env', _, rfl, he, ha⟩
      obtain ⟨r', h3, h2⟩ := ih2 hr _ _ _ ⟨Γ, Γ', _, env', _, rfl, he, hb⟩
      have h2 : r' = _ := h2
      subst h2
      exact ⟨_, .binP hk h1 h3, rfl⟩
    | call ha hb =>
      obtain ⟨r', h1, v', q, rfl, hv⟩ := ih1 well_ok _ _ _ ⟨Γ, Γ', _, env', _, rfl, he, ha⟩
      obtain ⟨r', h3, h2⟩ := ih2 hr _ _ _ ⟨Γ, Γ', _, env', _, rfl, he, hb⟩
      have h2 : r' = _ := h2
      subst h2
      exact ⟨_, .binP hk h1 h3, rfl⟩
  | twoV hk _ _ h2 ih1 ih2 =>
    rintro hr τ _ τ' ⟨Γ, Γ', t', env', p, rfl, he, ht⟩
    refine lt_close ht fun y τ' ht => ?_
    cases ht with
    | add ha hb =>
      obtain ⟨r', h1, v', q, rfl, hv⟩ := ih1 well_ok _ _ _ ⟨Γ, Γ', _, env', _, rfl, he, ha⟩
      obtain ⟨r', h3, w', q', rfl, hw⟩ := ih2 well_ok _ _ _ ⟨Γ, Γ', _, env', _, rfl, he, hb⟩
      obtain ⟨n, rfl⟩ := vt_num hv.left
      obtain ⟨m, rfl⟩ := vt_num hw.left
      obtain rfl := lv_num hv
      obtain rfl := lv_num hw
      refine ⟨_, .twoV hk h1 h3 h2, _, true, rfl, ?_⟩
      simp only [twoV] at h2
      split at h2
      · cases h2; exact .num
      · cases h2
    | less ha hb =>
      obtain ⟨r', h1, v', q, rfl, hv⟩ := ih1 well_ok _ _ _ ⟨Γ, Γ', _, env', _, rfl, he, ha⟩
      obtain ⟨r', h3, w', q', rfl, hw⟩ := ih2 well_ok _ _ _ ⟨Γ, Γ', _, env', _, rfl, he, hb⟩
      obtain ⟨n, rfl⟩ := vt_num hv.left
      obtain ⟨m, rfl⟩ := vt_num hw.left
      obtain rfl := lv_num hv
      obtain rfl := lv_num hw
      refine ⟨_, .twoV hk h1 h3 h2, _, true, rfl, ?_⟩
      simp only [twoV] at h2
      split at h2
      · cases h2; exact .tru
      · cases h2
    | call _ _ => omega
  | twoO hk _ _ h2 ih1 ih2 => intro hw; rw [twoV_out h2] at hw; exact absurd hw not_stuck
  | call _ _ _ ih1 ih2 ih3 =>
    rintro hr τ _ τ' ⟨Γ, Γ', t', env', p, rfl, he, ht⟩
    refine lt_close ht fun y τ' ht => ?_
    cases ht with
    | call ha hb =>
      obtain ⟨r', h1, v', q, rfl, hv⟩ := ih1 well_ok _ _ _ ⟨Γ, Γ', _, env', _, rfl, he, ha⟩
      obtain ⟨r', h3, w', q', rfl, hw⟩ := ih2 well_ok _ _ _ ⟨Γ, Γ', _, env', _, rfl, he, hb⟩
      obtain ⟨r', h5, h6⟩ := ih3 hr _ _ _ ⟨_, _, v', w', q, q', rfl, hv, hw⟩
      exact ⟨_, .call h1 h3 h5, h6⟩
  | clo0 =>
    rintro hr τ _ τ' ⟨σ, σ', f', x', p, q, rfl, hf, hx⟩
    refine lv_close rfl hf (fun f' x' σ' τ' q hf hx => ?_) x' σ' τ' q rfl hx
    cases hf with
    | clo r0 r1 r2 r3 hl hl' hs he hv hv' hb => exact ⟨_, .clo0, rfl⟩
  | clo _ ih =>
    rintro hr τ _ τ' ⟨σ, σ', f', x', p, q, rfl, hf, hx⟩
    refine lv_close rfl hf (fun f' x' σ' τ' q hf hx => ?_) x' σ' τ' q rfl hx
    cases hf with
    | clo r0 r1 r2 r3 hl hl' hs he hv hv' hb =>
      obtain ⟨r', h1, h2⟩ := ih hr _ _ _ ⟨_, _, _, _, _, rfl, LE.cons ⟨hl, hl', ⟨_, he⟩, hv, hv'⟩ hx, hb⟩
      exact ⟨_, .clo h1, h2⟩
  | wrapO hc =>
    intro hr
    have := hr _ rfl
    subst this
    exact absurd hc castV_fuel
  | wrapP hc _ ih =>
    rintro hr τ _ τ' ⟨σ, σ', f', x', p, q, rfl, hf, hx⟩
    refine lv_close rfl hf (fun f' x' σ' τ' q hf hx => ?_) x' σ' τ' q rfl hx
    cases hf with
    | wrapL h0 h1 h2 h3 g0 g1 hft h =>
      have hff := h.finer
      rw [finer_fn, Bool.and_eq_true] at hff hft
      obtain ⟨q', hy⟩ := castV_L h2 h0 hx.rr (by rw [fits_comm]; exact g0) hff.1 hx hc
      obtain ⟨r', h4, h5⟩ := ih hr _ _ _ ⟨_, _, f', x', _, _, rfl, h, hy⟩
      exact ⟨r', h4, h5⟩
    | wrapB h0 h1 h2 h3 g0 g1 h0' h1' h2' h3' g0' g1' hft h =>
      have hff := h.finer
      rw [finer_fn, Bool.and_eq_true] at hff hft
      obtain ⟨y', q', hc', hy⟩ := castV_B h2 h0 h2' h0' (by rw [fits_comm]; exact g0) (by rw [fits_comm]; exact g0') hff.1 hx hc
      obtain ⟨r', h4, h5⟩ := ih hr _ _ _ ⟨_, _, _, y', _, _, rfl, h, hy⟩
      have h5 : r' = _ := h5
      subst h5
      exact ⟨_, .wrapP hc' h4, rfl⟩
  | wrap hc _ ih =>
    rintro hr τ _ τ' ⟨σ, σ', f', x', p, q, rfl, hf, hx⟩
    refine lv_close rfl hf (fun f' x' σ' τ' q hf hx => ?_) x' σ' τ' q rfl hx
    cases hf with
    | wrapL h0 h1 h2 h3 g0 g1 hft h =>
      have hff := h.finer
      rw [finer_fn, Bool.and_eq_true] at hff hft
      obtain ⟨q', hy⟩ := castV_L h2 h0 hx.rr (by rw [fits_comm]; exact g0) hff.1 hx hc
      obtain ⟨r', h4, v', q2, rfl, hv⟩ := ih well_ok _ _ _ ⟨_, _, f', x', _, _, rfl, h, hy⟩
      obtain ⟨u, h5, h6⟩ := well_cast hr
      obtain ⟨q3, hu⟩ := castV_L h1 h3 hv.rr g1 hft.2 hv h5
      exact ⟨_, h4, by rw [h6]; exact ⟨v', q3, rfl, hu⟩⟩
    | wrapB h0 h1 h2 h3 g0 g1 h0' h1' h2' h3' g0' g1' hft h =>
      have hff := h.finer
      rw [finer_fn, Bool.and_eq_true] at hff hft
      obtain ⟨y', q', hc', hy⟩ := castV_B h2 h0 h2' h0' (by rw [fits_comm]; exact g0) (by rw [fits_comm]; exact g0') hff.1 hx hc
      obtain ⟨r', h4, v', q2, rfl, hv⟩ := ih well_ok _ _ _ ⟨_, _, _, y', _, _, rfl, h, hy⟩
      obtain ⟨u, h5, h6⟩ := well_cast hr
      obtain ⟨u', q3, hc2, hu⟩ := castV_B h1 h3 h1' h3' g1 g1' hft.2 hv h5
      refine ⟨_, .wrap hc' h4, ?_⟩
      rw [h6, castR, hc2]
      exact ⟨u', q3, rfl, hu⟩
  | apN => intro hw; exact absurd hw not_stuck
  | apT => intro hw; exact absurd hw not_stuck
  | apG => intro hw; exact absurd hw not_stuck
/-- Who says less is told the same. -/
theorem looser {p : Bool} {x y : Tm} {τ τ' : Ty} {F : Nat} {r : Res} (ht : LT p [] [] x τ y τ') (h : Ev (.tm x []) F r) (hb : r.told.kind ≠ 4) : ∃ r', Ev (.tm y []) F r' ∧ r'.told = r.told := by
  have hrt := ev_rt h τ ⟨[], ⟨Nat.le_refl _, fun i v ρ h => by simp at h⟩, ht.left⟩
  have hw : Well r := fun o ho => by
    subst ho
    rcases hrt with rfl | ⟨n, b, rfl⟩
    · rfl
    · exact absurd rfl hb
  obtain ⟨r', h1, h2⟩ := ev_lt h hw _ _ _ ⟨[], [], y, [], p, rfl, ⟨Nat.le_refl _, Nat.le_refl _, ⟨fun _ => true, fun i v v' ρ ρ' h => by simp at h⟩, fun i v ρ h => by simp at h, fun i v ρ h => by simp at h⟩, ht⟩
  refine ⟨r', h1, ?_⟩
  cases r with
  | ok v F' =>
    obtain ⟨v', q, rfl, h3⟩ := h2
    exact h3.seen.symm
  | out o => rw [show r' = _ from h2]
end Go.Proofs.YtnflnbdlgdjfmaaDoor
namespace Go.Proofs.YtnflnbdlgdjfmaaDoor
set_option linter.unusedVariables false
set_option linter.unusedSimpArgs false
theorem fits_base {k k' : Int} : (Ty.mk k []).fits (.mk k' []) = true ↔ k = 0 ∨ k' = 0 ∨ k = k' := by
  simp [Ty.fits, fitsL]
  omega
theorem finer_base {k k' : Int} : (Ty.mk k []).finer (.mk k' []) = true ↔ k' = 0 ∨ k = k' := by
  simp [Ty.finer, finerL]
theorem fits_bf {k : Int} {a b : Ty} (h : k ≠ 3) : (Ty.mk k []).fits (.mk 3 [a, b]) = true ↔ k = 0 := by simp [Ty.fits, fitsL]
theorem fits_fb {k : Int} {a b : Ty} (h : k ≠ 3) : (Ty.mk 3 [a, b]).fits (.mk k []) = true ↔ k = 0 := by simp [Ty.fits, fitsL]
theorem finer_bf {k : Int} {a b : Ty} (h : k ≠ 3) : (Ty.mk k []).finer (.mk 3 [a, b]) = true ↔ False := by simp [Ty.finer, finerL]
theorem finer_fb {k : Int} {a b : Ty} (h : k ≠ 3) : (Ty.mk 3 [a, b]).finer (.mk k []) = true ↔ k = 0 := by simp [Ty.finer, finerL]
/-- What fits fits what says less. -/
theorem fits_mono {k w k' w' : Ty} (hk : Right k) (hw : Right w) (hk' : Right k') (hw' : Right w') (h : k.fits w = true) (h1 : k.finer k' = true) (h2 : w.finer w' = true) : k'.fits w' = true := by
  induction hk generalizing w k' w' with
  | base b =>
    cases hk' with
    | fn _ _ => exact absurd h1 (by rw [finer_bf (by omega)]; exact id)
    | base b' =>
      rw [finer_base] at h1
      cases hw' with
      | fn _ _ =>
        cases hw with
        | base b2 => exact absurd h2 (by rw [finer_bf (by omega)]; exact id)
        | fn _ _ => rw [fits_bf (by omega)] at h ⊢; omega
      | base b3 =>
        cases hw with
        | base b2 => rw [fits_base] at h ⊢; rw [finer_base] at h2; omega
        | fn _ _ => rw [finer_fb (by omega)] at h2; rw [fits_base]; omega
  | fn ha hb iha ihb =>
    cases hk' with
    | base b' =>
      rw [finer_fb (by omega)] at h1
      subst h1
      exact any_fits _
    | fn c d =>
      cases hw' with
      | base b3 =>
        cases hw with
        | base b2 => rw [fits_fb (by omega)] at h; rw [finer_base] at h2; rw [fits_fb (by omega)]; omega
        | fn _ _ => rw [finer_fb (by omega)] at h2; rw [fits_fb (by omega)]; exact h2
      | fn c' d' =>
        cases hw with
        | base b2 => exact absurd h2 (by rw [finer_bf (by omega)]; exact id)
        | fn a2 b2 =>
          rw [fits_to, Bool.and_eq_true] at h ⊢
          rw [finer_fn, Bool.and_eq_true] at h1 h2
          exact ⟨iha a2 c c' h.1 h1.1 h2.1, ihb b2 d d' h.2 h1.2 h2.2⟩
theorem join_fn {a b c d : Ty} : (Ty.mk 3 [a, b]).join (.mk 3 [c, d]) = .mk 3 [a.join c, b.join d] := by simp [Ty.join, joinL]
theorem join_base {k k' : Int} : (Ty.mk k []).join (.mk k' []) = if k = k' then .mk k [] else .any := by
  by_cases h : k = k' <;> simp [Ty.join, joinL, h, Ty.any]
theorem join_bf {k : Int} {a b : Ty} : (Ty.mk k []).join (.mk 3 [a, b]) = .any := by simp [Ty.join, Ty.any]
theorem join_fb {k : Int} {a b : Ty} : (Ty.mk 3 [a, b]).join (.mk k []) = .any := by simp [Ty.join, Ty.any]
/-- What both say says less, if each says less. -/
theorem join_mono {a b a' b' : Ty} (ha : Right a) (hb : Right b) (ha' : Right a') (hb' : Right b') (h1 : a.finer a' = true) (h2 : b.finer b' = true) : (a.join b).finer (a'.join b') = true := by
  induction ha generalizing b a' b' with
  | base p =>
    cases ha' with
    | fn _ _ => exact absurd h1 (by rw [finer_bf (by omega)]; exact id)
    | base p' =>
      rw [finer_base] at h1
      cases hb' with
      | fn _ _ => rw [join_bf]; exact finer_any _
      | base q' =>
        rw [join_base]
        split
        · rename_i e
          subst e
          cases hb with
          | base q =>
            rw [finer_base] at h2
            rw [join_base]
            split
            · rw [finer_base]; omega
            · rw [Ty.any, finer_base]; omega
          | fn _ _ =>
            rw [finer_fb (by omega)] at h2
            subst h2
            exact finer_any _
        · exact finer_any _
  | fn p1 p2 ih1 ih2 =>
    cases ha' with
    | base p' =>
      rw [finer_fb (by omega)] at h1
      subst h1
      cases hb' with
      | base q' =>
        rw [join_base]
        split
        · exact finer_any _
        · exact finer_any _
      | fn _ _ => rw [join_bf]; exact finer_any _
    | fn c d =>
      cases hb' with
      | base q' => rw [join_fb]; exact finer_any _
      | fn c' d' =>
        cases hb with
        | base q => exact absurd h2 (by rw [finer_bf (by omega)]; exact id)
        | fn e f =>
          rw [finer_fn, Bool.and_eq_true] at h1 h2
          rw [join_fn, join_fn, finer_fn, Bool.and_eq_true]
          exact ⟨ih1 e c c' h1.1 h2.1, ih2 f d d' h1.2 h2.2⟩
/-- A term, and one that says less. -/
inductive TPr : Tm → Tm → Prop
  | mk {k n : Int} {t t' f : Ty} {l l' : List Tm} (ht : t = t' ∨ (t' = .any ∧ (k = 7 ∨ k = 9))) (hl : l.length = l'.length) (h : ∀ (i : Nat) (a b : Tm), l[i]? = some a → l'[i]? = some b → TPr a b) : TPr (.mk k n t f l) (.mk k n t' f l')
theorem TPr.parts {k n k' n' : Int} {t t' f f' : Ty} {l l' : List Tm} (h : TPr (.mk k n t f l) (.mk k' n' t' f' l')) : k' = k ∧ n' = n ∧ f' = f ∧ (t = t' ∨ (t' = .any ∧ (k = 7 ∨ k = 9))) ∧ l.length = l'.length ∧ ∀ (i : Nat) (a b : Tm), l[i]? = some a → l'[i]? = some b → TPr a b := by
  cases h with
  | mk ht hl h => exact ⟨rfl, rfl, rfl, ht, hl, h⟩
theorem TPr.refl : ∀ t : Tm, TPr t t := fun t => by
  induction t using Tm.ind' with
  | h a ih =>
  obtain ⟨k, n, t, f, l⟩ := a
  exact .mk (.inl rfl) rfl fun i a b h1 h2 => by rw [h1] at h2; cases h2; exact ih a (List.mem_of_getElem? h1)
theorem loose_pr : ∀ (a : Tm) (j : Int), TPr a (looseT a j).1 := fun a => by
  induction a using Tm.ind' with
  | h a ih =>
  intro j
  obtain ⟨k, n, t, f, l⟩ := a
  have hL : ∀ (l : List Tm) (j n : Int), (∀ x ∈ l, ∀ j, TPr x (looseT x j).1) → ∀ (i : Nat) (a b : Tm), l[i]? = some a → (looseL l j n).1[i]? = some b → TPr a b := by
    intro l
    induction l with
    | nil => intro j n _ i a b h; simp at h
    | cons x l ihl =>
      intro j n h i a b h1 h2
      simp only [looseL] at h2
      cases i with
      | zero => simp at h1 h2; subst h1 h2; exact h x (List.mem_cons_self ..) _
      | succ i => exact ihl _ _ (fun y hy => h y (List.mem_cons_of_mem _ hy)) i a b (by simpa using h1) (by simpa using h2)
  simp only [looseT]
  refine .mk ?_ (looseL_length ..).symm (hL l _ _ fun x hx j => ih x hx j)
  split
  · rename_i h
    simp at h
    exact .inr ⟨rfl, h.1⟩
  · exact .inl rfl
theorem nodesL_pr : ∀ {l l' : List Tm}, l.length = l'.length → (∀ (i : Nat) (a b : Tm), l[i]? = some a → l'[i]? = some b → a.nodes = b.nodes) → nodesL l = nodesL l'
  | [], [], _, _ => rfl
  | a :: l, b :: l', hl, h => by
    simp only [nodesL]
    rw [h 0 a b rfl rfl, nodesL_pr (l := l) (l' := l') (by simpa using hl) fun i a b h1 h2 => h (i + 1) a b (by simpa using h1) (by simpa using h2)]
  | [], _ :: _, h, _ => by simp at h
  | _ :: _, [], h, _ => by simp at h
theorem TPr.nodes {a b : Tm} (h : TPr a b) : a.nodes = b.nodes := by
  induction h with
  | mk _ hl _ ih => simp only [Tm.nodes]; rw [nodesL_pr hl ih]
theorem goodL_pr : ∀ {l l' : List Tm} {ar ow : Int}, l.length = l'.length → (∀ (i : Nat) (a b : Tm), l[i]? = some a → l'[i]? = some b → a.good ar ow = true → b.good ar ow = true) → goodL l ar ow = true → goodL l' ar ow = true
  | [], [], _, _, _, _, _ => rfl
  | a :: l, b :: l', ar, ow, hl, h, hg => by
    simp only [goodL, Bool.and_eq_true] at hg ⊢
    exact ⟨h 0 a b rfl rfl hg.1, goodL_pr (by simpa using hl) (fun i a b h1 h2 => h (i + 1) a b (by simpa using h1) (by simpa using h2)) hg.2⟩
  | [], _ :: _, _, _, h, _, _ => by simp at h
  | _ :: _, [], _, _, h, _, _ => by simp at h
theorem TPr.good {a b : Tm} (h : TPr a b) : ∀ {ar ow : Int}, a.good ar ow = true → b.good ar ow = true := by
  induction h with
  | mk ht hl _ ih =>
    rename_i k n t t' f l l' _
    intro ar ow hg
    rw [goodT_eta, Bool.and_eq_true] at hg ⊢
    simp only [Tm.k_mk, Tm.l_mk] at hg ⊢
    refine ⟨?_, goodL_pr hl (fun i a b h1 h2 h3 => ih i a b h1 h2 h3) hg.2⟩
    have hf := hg.1
    rcases ht with rfl | ⟨rfl, hk⟩
    · simp only [Tm.fit, Tm.k_mk, Tm.l_mk, Tm.f_mk, Tm.t_mk, Tm.num, Tm.n_mk] at hf ⊢
      rw [← hl]; exact hf
    · have any4 : Ty.any.good 4 = true := rfl
      rcases hk with rfl | rfl
      · simp [Tm.fit, Tm.num, any4] at hf ⊢
        rw [← hl]
        simp_all
      · simp [Tm.fit, Tm.num, any4] at hf ⊢
        rw [← hl]
        simp_all
theorem kid_lt {Γ Γ' : List Ty} {p : Bool} {x y x2 : Tm} {k k' w w' : Ty} {n n' : Int} (h : LT p Γ Γ' x k y k') (hk : Right k) (hk' : Right k') (hw : Right w) (hw' : Right w') (hww : w.finer w' = true) (hx : (Kid.mk x k n).to w = some x2) :
    ∃ y2 q, (Kid.mk y k' n').to w' = some y2 ∧ LT q Γ Γ' x2 w y2 w' := by
  unfold Kid.to at hx ⊢
  simp only at hx ⊢
  split at hx
  · rename_i hs
    have hs' := fits_mono hk hw hk' hw' hs h.finer hww
    rw [if_pos hs']
    cases hx
    unfold asT
    by_cases h1 : k.same w = true <;> by_cases h2 : k'.same w' = true
    · rw [if_pos h1, if_pos h2]
      have := same_eq h1; subst this
      have := same_eq h2; subst this
      exact ⟨_, p, rfl, h⟩
    · rw [if_pos h1, if_neg h2]
      have := same_eq h1; subst this
      exact ⟨_, _, rfl, .castR hk hw' hk' hs' hww h⟩
    · rw [if_neg h1, if_pos h2]
      have := same_eq h2; subst this
      exact ⟨_, _, rfl, .castL hk' hw hk hs hww h⟩
    · rw [if_neg h1, if_neg h2]
      exact ⟨_, _, rfl, .castB hw hk hs hw' hk' hs' hww h⟩
  · cases hx
theorem casts_some {x : Kid} {xs : List Kid} {w : Ty} {ws : List Ty} {y : Tm} {l : List Tm} (h1 : x.to w = some y) (h2 : casts xs ws = some l) : casts (x :: xs) (w :: ws) = some (y :: l) := by
  simp only [casts, h1, h2]; rfl
theorem walkL_some {a : Tm} {l : List Tm} {env : List Ty} {m : Int} {x : Tm} {k : Ty} {ks : List Kid} (h1 : walkT a env m = some (x, k)) (h2 : walkL l env (m + a.nodes) = some ks) : walkL (a :: l) env m = some (⟨x, k, m⟩ :: ks) := by
  simp only [walkL, h1, h2]; rfl
theorem walkT_of {a : Tm} {env : List Ty} {m : Int} {k : Ty} {ks : List Kid} {ws : List Ty} {l' : List Tm} (h1 : a.k ≠ 1) (h2 : a.k ≠ 2) (h3 : a.k ≠ 3) (hks : walkL a.l (if a.k == 7 then env ++ [a.t] else env) (m + 1) = some ks) (hw : wants a ks = some (ws, k)) (hc : casts ks ws = some l') :
    walkT a env m = some (.mk a.k a.n a.t a.f l', k) := by
  rw [walkT_eta, if_neg (by simpa using h1), if_neg (by simpa using h2), if_neg (by simpa using h3), hks]
  simp only [hw, hc]; rfl
structure EnvP (env env' : List Ty) : Prop where
  hl : env.length = env'.length
  r : ∀ t ∈ env, Right t
  r' : ∀ t ∈ env', Right t
  h : ∀ (i : Nat) (a b : Ty), env[i]? = some a → env'[i]? = some b → a.finer b = true
theorem EnvP.snoc {env env' : List Ty} {t t' : Ty} (h : EnvP env env') (ht : Right t) (ht' : Right t') (hf : t.finer t' = true) : EnvP (env ++ [t]) (env' ++ [t']) where
  hl := by simp [h.hl]
  r := fun u hu => by
    rcases List.mem_append.1 hu with hu | hu
    · exact h.r u hu
    · rw [List.mem_singleton.1 hu]; exact ht
  r' := fun u hu => by
    rcases List.mem_append.1 hu with hu | hu
    · exact h.r' u hu
    · rw [List.mem_singleton.1 hu]; exact ht'
  h := fun i a b h1 h2 => by
    by_cases hi : i < env.length
    · rw [List.getElem?_append_left hi] at h1
      rw [List.getElem?_append_left (by rw [← h.hl]; exact hi)] at h2
      exact h.h i a b h1 h2
    · rw [List.getElem?_append_right (by omega)] at h1
      rw [List.getElem?_append_right (by rw [← h.hl]; omega), ← h.hl] at h2
      have : i - env.length = 0 := by
        have := (List.getElem?_eq_some_iff.1 h1).1
        simp at this; omega
      rw [this] at h1 h2
      simp at h1 h2
      subst h1 h2
      exact hf
/-- WHO SAYS LESS IS NOT REFUSED FOR IT; what it is says less, too. -/
theorem walk_lt : ∀ (a b : Tm) (env env' : List Ty) (m : Int) (x : Tm) (k : Ty), TPr a b → a.good 0 env.length = true → EnvP env env' → walkT a env m = some (x, k) →
    ∃ y k' p, walkT b env' m = some (y, k') ∧ LT p env.reverse env'.reverse x k y k' ∧ Right k ∧ Right k' := fun a => by
  induction a using Tm.ind' with
  | h a ih =>
  intro b env env' m x k hp hg he h
  have hnodes := hp.nodes
  obtain ⟨ak, an, t, f, al⟩ := a
  obtain ⟨bk, bn, t', f', bl⟩ := b
  obtain ⟨rfl, rfl, rfl, ht, hl, hparts⟩ := hp.parts
  rcases good_cases hg with ⟨e, el, hn, hn2, _⟩ | ⟨e, el, hn, _⟩ | ⟨e, el, hn, _⟩ | ⟨e, _, et, p, q, el, gp, gq⟩ | ⟨e, _, et, p, q, s, el, gp, gq, gs⟩ | ⟨e, _, ht4, p, el, gp⟩ | ⟨e, _, ht4, p, el, gp⟩ <;> simp only [Tm.k_mk, Tm.n_mk, Tm.t_mk, Tm.f_mk, Tm.l_mk] at e el
  · subst e el
    have : bl = [] := List.eq_nil_of_length_eq_zero hl.symm
    subst this
    rw [walkT_eta] at h; simp at h
    obtain ⟨rfl, rfl⟩ := h
    simp only [Tm.n_mk] at hn hn2
    have hlt : env.length - 1 - bn.toNat < env.length := by omega
    have hlt' : env.length - 1 - bn.toNat < env'.length := by rw [← he.hl]; exact hlt
    have hget : env[env.length - 1 - bn.toNat]? = some env[env.length - 1 - bn.toNat] := List.getElem?_eq_getElem hlt
    have hget' : env'[env.length - 1 - bn.toNat]? = some env'[env.length - 1 - bn.toNat] := List.getElem?_eq_getElem hlt'
    rw [hget]
    refine ⟨.mk 1 bn t' f' [], env'[env.length - 1 - bn.toNat], true, by rw [walkT_eta]; simp [← he.hl, hget'], .ref hn ?_ ?_ (he.h _ _ _ hget hget'), he.r _ (List.getElem_mem hlt), he.r' _ (List.getElem_mem hlt')⟩
    · rw [List.getElem?_reverse (by omega), hget]; rfl
    · rw [List.getElem?_reverse (by rw [← he.hl]; omega), ← he.hl, hget']
  · subst e el
    have : bl = [] := List.eq_nil_of_length_eq_zero hl.symm
    subst this
    rw [walkT_eta] at h; simp at h; obtain ⟨rfl, rfl⟩ := h
    exact ⟨.mk 2 bn t' f' [], .num, true, by rw [walkT_eta]; simp, .lit hn, .num, .num⟩
  · subst e el
    have : bl = [] := List.eq_nil_of_length_eq_zero hl.symm
    subst this
    rw [walkT_eta] at h; simp at h; obtain ⟨rfl, rfl⟩ := h
    exact ⟨.mk 3 bn t' f' [], .truth, true, by rw [walkT_eta]; simp, .says hn, .truth, .truth⟩
  · obtain ⟨ks, ws, l', hks, hw, hc, rfl⟩ := walkT_node (by simp; omega) (by simp; omega) (by simp; omega) h
    rw [if_neg (by simp; omega)] at hks
    subst el
    obtain ⟨p', q', rfl⟩ := len2 hl.symm
    have hp1 := hparts 0 p p' rfl rfl
    have hp2 := hparts 1 q q' rfl rfl
    simp only [Tm.k_mk, Tm.n_mk, Tm.t_mk, Tm.f_mk, Tm.l_mk] at *
    obtain ⟨x1, k1, ks1, rfl, w1, hks⟩ := walkL_cons hks
    obtain ⟨x2, k2, ks2, rfl, w2, hks⟩ := walkL_cons hks
    obtain rfl := walkL_nil hks
    obtain ⟨y1, k1', p1, w1', t1, r1, r1'⟩ := ih p (by simp) p' env env' _ x1 k1 hp1 gp he w1
    obtain ⟨y2, k2', p2, w2', t2, r2, r2'⟩ := ih q (by simp) q' env env' _ x2 k2 hp2 gq he w2
    have hks' : walkL [p', q'] env' (m + 1) = some [⟨y1, k1', m + 1⟩, ⟨y2, k2', m + 1 + p.nodes⟩] := by
      refine walkL_some w1' ?_
      rw [← hp1.nodes]
      exact walkL_some w2' (by simp [walkL])
    have fin : ∀ {ws' : List Ty} {k' : Ty} {l2 : List Tm}, wants (.mk bk bn t' f' [p', q']) [⟨y1, k1', m + 1⟩, ⟨y2, k2', m + 1 + p.nodes⟩] = some (ws', k') → casts [⟨y1, k1', m + 1⟩, ⟨y2, k2', m + 1 + p.nodes⟩] ws' = some l2 → walkT (.mk bk bn t' f' [p', q']) env' m = some (.mk bk bn t' f' l2, k') := fun h1 h2 =>
      walkT_of (by simp; omega) (by simp; omega) (by simp; omega) (by rw [if_neg (by simp; omega)]; exact hks') h1 h2
    rcases e with rfl | rfl | rfl
    · simp [wants] at hw
      obtain ⟨rfl, rfl⟩ := hw
      obtain ⟨z1, l1, rfl, c1, hc⟩ := casts_cons hc
      obtain ⟨z2, rfl, c2⟩ := casts1 hc
      obtain ⟨u1, q1, d1, s1⟩ := kid_lt t1 r1 r1' .num .num (finer_refl _) c1
      obtain ⟨u2, q2, d2, s2⟩ := kid_lt t2 r2 r2' .num .num (finer_refl _) c2
      exact ⟨_, _, true, fin (by simp [wants]; rfl) (casts_some d1 (casts_some d2 (by simp [casts]))), .add s1 s2, .num, .num⟩
    · simp [wants] at hw
      obtain ⟨rfl, rfl⟩ := hw
      obtain ⟨z1, l1, rfl, c1, hc⟩ := casts_cons hc
      obtain ⟨z2, rfl, c2⟩ := casts1 hc
      obtain ⟨u1, q1, d1, s1⟩ := kid_lt t1 r1 r1' .num .num (finer_refl _) c1
      obtain ⟨u2, q2, d2, s2⟩ := kid_lt t2 r2 r2' .num .num (finer_refl _) c2
      exact ⟨_, _, true, fin (by simp [wants]; rfl) (casts_some d1 (casts_some d2 (by simp [casts]))), .less s1 s2, .truth, .truth⟩
    · have hgr : ∀ {k : Ty}, Right k → Right (if k.k = 0 then (Ty.mk 3 []).ground else k) := fun h => by
        split
        · exact .to .any .any
        · exact h
      have hg1 := hgr r1
      have hg1' := hgr r1'
      have hg0' : (if k1'.k = 0 then (Ty.mk 3 []).ground else k1').k ≠ 0 := by
        split
        · simp [Ty.ground, Ty.to]
        · assumption
      have hgf : (if k1.k = 0 then (Ty.mk 3 []).ground else k1).k = 3 → (if k1.k = 0 then (Ty.mk 3 []).ground else k1).finer (if k1'.k = 0 then (Ty.mk 3 []).ground else k1') = true := fun h3 => by
        have hf := t1.finer
        by_cases a0 : k1.k = 0
        · have := any_finer r1 r1' a0 hf
          subst this
          rw [if_pos a0, if_pos (by rfl)]; exact finer_refl _
        · rw [if_neg a0] at h3 ⊢
          split
          · obtain ⟨_, _, rfl, _, _⟩ := right_fn r1 h3
            show (Ty.mk 3 [_, _]).finer (.mk 3 [.any, .any]) = true
            rw [finer_fn, finer_any, finer_any]; rfl
          · exact hf
      simp [wants] at hw
      have hw' : ∀ {a b : Ty}, (if k1'.k = 0 then (Ty.mk 3 []).ground else k1') = .mk 3 [a, b] → wants (.mk 8 bn t' f' [p', q']) [⟨y1, k1', m + 1⟩, ⟨y2, k2', m + 1 + p.nodes⟩] = some ([.mk 3 [a, b], a], b) := fun {a b} h => by
        simp [wants, h]
      generalize (if k1.k = 0 then (Ty.mk 3 []).ground else k1) = g at hw hg1 hgf
      generalize (if k1'.k = 0 then (Ty.mk 3 []).ground else k1') = g' at hg1' hg0' hgf hw'
      obtain ⟨h3, hw⟩ := hw
      obtain ⟨a, b, rfl, ra, rb⟩ := right_fn hg1 h3
      have hgf := hgf rfl
      cases hg1' with
      | base hb => exact absurd hgf (by
          rcases hb with rfl | rfl | rfl
          · exact absurd rfl hg0'
          · simp [Ty.finer]
          · simp [Ty.finer])
      | fn ra' rb' =>
        simp at hw
        obtain ⟨rfl, rfl⟩ := hw
        obtain ⟨z1, l1, rfl, c1, hc⟩ := casts_cons hc
        obtain ⟨z2, rfl, c2⟩ := casts1 hc
        have hgf2 := hgf
        rw [finer_fn, Bool.and_eq_true] at hgf2
        obtain ⟨u1, q1, d1, s1⟩ := kid_lt t1 r1 r1' (.fn ra rb) (.fn ra' rb') hgf c1
        obtain ⟨u2, q2, d2, s2⟩ := kid_lt t2 r2 r2' ra ra' hgf2.1 c2
        exact ⟨_, _, true, fin (hw' rfl) (casts_some d1 (casts_some d2 (by simp [casts]))), .call s1 s2, rb, rb'⟩
  · subst e
    obtain ⟨ks, ws, l', hks, hw, hc, rfl⟩ := walkT_node (by simp) (by simp) (by simp) h
    subst el
    simp at hks
    obtain ⟨p', q', s', rfl⟩ := len3 hl.symm
    have hp1 := hparts 0 p p' rfl rfl
    have hp2 := hparts 1 q q' rfl rfl
    have hp3 := hparts 2 s s' rfl rfl
    simp only [Tm.k_mk, Tm.n_mk, Tm.t_mk, Tm.f_mk, Tm.l_mk] at *
    obtain ⟨x1, k1, ks1, rfl, w1, hks⟩ := walkL_cons hks
    obtain ⟨x2, k2, ks2, rfl, w2, hks⟩ := walkL_cons hks
    obtain ⟨x3, k3, ks3, rfl, w3, hks⟩ := walkL_cons hks
    obtain rfl := walkL_nil hks
    obtain ⟨y1, k1', p1, w1', t1, r1, r1'⟩ := ih p (by simp) p' env env' _ x1 k1 hp1 gp he w1
    obtain ⟨y2, k2', p2, w2', t2, r2, r2'⟩ := ih q (by simp) q' env env' _ x2 k2 hp2 gq he w2
    obtain ⟨y3, k3', p3, w3', t3, r3, r3'⟩ := ih s (by simp) s' env env' _ x3 k3 hp3 gs he w3
    have hks' : walkL [p', q', s'] env' (m + 1) = some [⟨y1, k1', m + 1⟩, ⟨y2, k2', m + 1 + p.nodes⟩, ⟨y3, k3', m + 1 + p.nodes + q.nodes⟩] := by
      refine walkL_some w1' ?_
      rw [← hp1.nodes]
      refine walkL_some w2' ?_
      rw [← hp2.nodes]
      exact walkL_some w3' (by simp [walkL])
    simp [wants] at hw
    obtain ⟨hf, rfl, rfl⟩ := hw
    obtain ⟨z1, l1, rfl, c1, hc⟩ := casts_cons hc
    obtain ⟨z2, l2, rfl, c2, hc⟩ := casts_cons hc
    obtain ⟨z3, rfl, c3⟩ := casts1 hc
    have hf' := fits_mono r2 r3 r2' r3' hf t2.finer t3.finer
    have hj := join_mono r2 r3 r2' r3' t2.finer t3.finer
    have rj := right_join r2 r3
    have rj' := right_join r2' r3'
    obtain ⟨u1, q1, d1, s1⟩ := kid_lt t1 r1 r1' .truth .truth (finer_refl _) c1
    obtain ⟨u2, q2, d2, s2⟩ := kid_lt t2 r2 r2' rj rj' hj c2
    obtain ⟨u3, q3, d3, s3⟩ := kid_lt t3 r3 r3' rj rj' hj c3
    exact ⟨_, _, true, walkT_of (a := .mk 6 bn t' f' [p', q', s']) (by simp) (by simp) (by simp) (by simpa using hks') (by simp [wants, hf']; rfl) (casts_some d1 (casts_some d2 (casts_some d3 (by simp [casts])))), .ife s1 s2 s3, rj, rj'⟩
  · subst e
    obtain ⟨ks, ws, l', hks, hw, hc, rfl⟩ := walkT_node (by simp) (by simp) (by simp) h
    subst el
    simp at hks
    obtain ⟨p', rfl⟩ := len1 hl.symm
    have hp1 := hparts 0 p p' rfl rfl
    have rt : Right t := good_right ht4
    have rt' : Right t' := by
      rcases ht with rfl | ⟨rfl, _⟩
      · exact rt
      · exact .any
    have hft : t.finer t' = true := by
      rcases ht with rfl | ⟨rfl, _⟩
      · exact finer_refl _
      · exact finer_any _
    simp only [Tm.k_mk, Tm.n_mk, Tm.t_mk, Tm.f_mk, Tm.l_mk] at *
    obtain ⟨x1, k1, ks1, rfl, w1, hks⟩ := walkL_cons hks
    obtain rfl := walkL_nil hks
    obtain ⟨y1, k1', p1, w1', t1, r1, r1'⟩ := ih p (by simp) p' (env ++ [t]) (env' ++ [t']) _ x1 k1 hp1 (by simpa using gp) (he.snoc rt rt' hft) w1
    simp [wants] at hw
    obtain ⟨rfl, rfl⟩ := hw
    obtain ⟨z1, rfl, c1⟩ := casts1 hc
    obtain ⟨u1, q1, d1, s1⟩ := kid_lt t1 r1 r1' r1 r1' t1.finer c1
    rw [List.reverse_append, List.reverse_singleton, List.singleton_append, List.reverse_append, List.reverse_singleton, List.singleton_append] at s1
    exact ⟨_, _, true, walkT_of (a := .mk 7 bn t' f' [p']) (ks := [⟨y1, k1', m + 1⟩]) (by simp) (by simp) (by simp) (by simpa using walkL_some (ks := []) w1' (by simp [walkL])) (by simp [wants]; rfl) (casts_some d1 (by simp [casts])), .fn rt rt' r1 r1' hft s1, .to rt r1, .to rt' r1'⟩
  · subst e
    obtain ⟨ks, ws, l', hks, hw, hc, rfl⟩ := walkT_node (by simp) (by simp) (by simp) h
    subst el
    simp at hks
    obtain ⟨p', rfl⟩ := len1 hl.symm
    have hp1 := hparts 0 p p' rfl rfl
    have rt : Right t := good_right ht4
    have rt' : Right t' := by
      rcases ht with rfl | ⟨rfl, _⟩
      · exact rt
      · exact .any
    have hft : t.finer t' = true := by
      rcases ht with rfl | ⟨rfl, _⟩
      · exact finer_refl _
      · exact finer_any _
    simp only [Tm.k_mk, Tm.n_mk, Tm.t_mk, Tm.f_mk, Tm.l_mk] at *
    obtain ⟨x1, k1, ks1, rfl, w1, hks⟩ := walkL_cons hks
    obtain rfl := walkL_nil hks
    obtain ⟨y1, k1', p1, w1', t1, r1, r1'⟩ := ih p (by simp) p' env env' _ x1 k1 hp1 gp he w1
    simp [wants] at hw
    obtain ⟨rfl, rfl⟩ := hw
    obtain ⟨z1, rfl, c1⟩ := casts1 hc
    obtain ⟨u1, q1, d1, s1⟩ := kid_lt t1 r1 r1' rt rt' hft c1
    exact ⟨_, _, true, walkT_of (a := .mk 9 bn t' f' [p']) (ks := [⟨y1, k1', m + 1⟩]) (by simp) (by simp) (by simp) (by simpa using walkL_some (ks := []) w1' (by simp [walkL])) (by simp [wants]; rfl) (casts_some d1 (by simp [casts])), .as s1, rt, rt'⟩
end Go.Proofs.YtnflnbdlgdjfmaaDoor
