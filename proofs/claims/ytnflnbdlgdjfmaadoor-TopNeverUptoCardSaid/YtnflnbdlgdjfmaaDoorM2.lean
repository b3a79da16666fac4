/-
  What stays so while the machine steps: the numbers are ints. Conditions: those typed in each theorem.
  Who is blamed is one of the casts; what all casts keep. Conditions: those typed in each theorem.
  Without casts and types all is as with them, as long as nobody is blamed. Conditions: those typed in each theorem.
  Who says less comes to the same, as long as nobody is blamed. Conditions: those typed in each theorem.
  Who says less is not refused for it. Conditions: those typed in each theorem.
-/
import Derived.Test.YtnflnbdlgdjfmaaDoorM1
namespace Go.Proofs.YtnflnbdlgdjfmaaDoor
set_option linter.unusedVariables false
set_option linter.unusedSimpArgs false
/-- All its numbers are ints. -/
inductive NB : Tm → Prop
  | mk {t : Tm} (h : t.n ≤ 9223372036854775807) (hl : ∀ x ∈ t.l, NB x) : NB t
theorem NB.n {t : Tm} (h : NB t) : t.n ≤ 9223372036854775807 := by cases h; assumption
theorem NB.l {t : Tm} (h : NB t) : ∀ x ∈ t.l, NB x := by cases h; assumption
inductive VB : V → Prop
  | num {n : Int} : VB (.num n)
  | tru {n : Int} : VB (.tru n)
  | clo {b : Tm} {env : List V} (hb : NB b) (he : ∀ v ∈ env, VB v) : VB (.clo b env)
  | wrap {v : V} {f t : Ty} {at' : Int} {back : Bool} (hv : VB v) : VB (.wrap v f t at' back)
  | tag {v : V} {g : Ty} (hv : VB v) : VB (.tag v g)
def FB : Fr → Prop
  | .term t env => NB t ∧ ∀ v ∈ env, VB v
  | .second t v => NB t ∧ VB v
  | .given v => VB v
  | .casts _ _ _ _ => True
def KB : Ctl → Prop
  | .ent t env => NB t ∧ ∀ v ∈ env, VB v
  | .val v => VB v
structure MB (m : Mch) : Prop where
  c : KB m.ctl
  s : ∀ f ∈ m.stk, FB f
  f : m.fuel ≤ 1000
theorem cons_all {α : Type} {p : α → Prop} {a : α} {l : List α} (ha : p a) (hl : ∀ x ∈ l, p x) : ∀ x ∈ a :: l, p x := fun x hx => by
  rcases List.mem_cons.1 hx with rfl | hx
  · exact ha
  · exact hl x hx
theorem castV_b {v u : V} {f t : Ty} {at' : Int} {back : Bool} (hv : VB v) (h : castV v f t at' back = .inl u) : VB u := by
  unfold castV at h
  split at h
  · cases h; exact hv
  split at h
  · cases h; exact .wrap hv
  split at h
  · cases h
    refine .tag ?_
    split
    · exact hv
    · exact .wrap hv
  split at h
  · split at h
    · cases hv with
      | tag hv =>
      split at h
      · split at h
        · cases h; exact hv
        · split at h
          · cases h; exact .wrap hv
          · cases h
      · cases h
    · cases h
  · cases h
theorem callM_b {f x : V} {s : List Fr} {F : Nat} {m : Mch} (hf : VB f) (hx : VB x) (hs : ∀ f ∈ s, FB f) (hF : F ≤ 1000) (h : callM f x s F = some (.inl m)) : MB m := by
  unfold callM at h
  split at h
  · split at h
    · cases h
    · cases h
      cases hf with
      | clo hb he => exact ⟨⟨hb, cons_all hx he⟩, hs, Nat.le_trans (Nat.le_succ _) hF⟩
  · split at h
    · split at h
      · rename_i hc
        cases h
        cases hf with
        | wrap hv => exact ⟨castV_b hx hc, cons_all (by exact hv) (cons_all (by exact trivial) hs), hF⟩
      · cases h
    · cases h
  · cases h
theorem enterM_b {t : Tm} {env : List V} {s : List Fr} {F : Nat} {m : Mch} (ht : NB t) (he : ∀ v ∈ env, VB v) (hs : ∀ f ∈ s, FB f) (hF : F ≤ 1000) (h : enterM t env s F = some (.inl m)) : MB m := by
  unfold enterM at h
  split at h
  · split at h
    · rename_i hv; cases h; exact ⟨he _ (List.mem_of_getElem? hv), hs, hF⟩
    · cases h
  split at h
  · cases h; exact ⟨.num, hs, hF⟩
  split at h
  · cases h; exact ⟨.tru, hs, hF⟩
  split at h
  · cases h
  rename_i b l hl
  have hb : NB b := ht.l b (by rw [hl]; simp)
  split at h
  · cases h; exact ⟨.clo hb he, hs, hF⟩
  split at h
  · cases h; exact ⟨⟨hb, he⟩, cons_all (by exact trivial) hs, hF⟩
  split at h
  · cases h; exact ⟨⟨hb, he⟩, hs, hF⟩
  · cases h; exact ⟨⟨hb, he⟩, cons_all (by exact ⟨ht, he⟩) hs, hF⟩
theorem leaveM_b {v : V} {f : Fr} {s : List Fr} {F : Nat} {m : Mch} (hv : VB v) (hf : FB f) (hs : ∀ f ∈ s, FB f) (hF : F ≤ 1000) (h : leaveM v f s F = some (.inl m)) : MB m := by
  cases f with
  | term t env =>
    obtain ⟨ht, he⟩ := hf
    simp only [leaveM] at h
    split at h
    · split at h
      · split at h
        · rename_i hl
          split at h
          · cases h; exact ⟨⟨ht.l _ (by rw [hl]; simp), he⟩, hs, hF⟩
          · split at h
            · cases h; exact ⟨⟨ht.l _ (by rw [hl]; simp), he⟩, hs, hF⟩
            · cases h
        · cases h
      · cases h
    · split at h
      · split at h
        · rename_i hl
          cases h
          exact ⟨⟨ht.l _ (by rw [hl]; simp), he⟩, cons_all (by exact ⟨ht, hv⟩) hs, hF⟩
        · cases h
      · cases h
  | second t g =>
    obtain ⟨ht, hg⟩ := hf
    simp only [leaveM] at h
    split at h
    · exact callM_b hg hv hs hF h
    · split at h
      · rename_i hu
        cases h
        refine ⟨?_, hs, hF⟩
        unfold twoV at hu
        split at hu
        · split at hu
          · cases hu
            split
            · exact .tru
            · exact .num
          · cases hu
        · cases hu
        · cases hu
      · cases h
      · cases h
  | given g => exact callM_b hf hv hs hF h
  | casts a b c d =>
    simp only [leaveM] at h
    split at h
    · rename_i hc; cases h; exact ⟨castV_b hv hc, hs, hF⟩
    · cases h
theorem step_b {m m' : Mch} (hm : MB m) (h : step m = some (.inl m')) : MB m' := by
  obtain ⟨ctl, s, F⟩ := m
  obtain ⟨hc, hs, hF⟩ := hm
  cases ctl with
  | ent t env => exact enterM_b hc.1 hc.2 hs hF h
  | val v =>
    cases s with
    | nil => cases h
    | cons f s => exact leaveM_b hc (hs f (by simp)) (fun g hg => hs g (by simp [hg])) hF h
theorem asT_nb {x : Tm} {k w : Ty} {n : Int} (h : NB x) (hn : n ≤ 9223372036854775807) : NB (asT x k w n) := by
  unfold asT
  split
  · exact h
  · exact .mk hn fun y hy => by rw [List.mem_singleton.1 hy]; exact h
theorem casts_nb : ∀ {ks : List Kid} {ws : List Ty} {l : List Tm}, (∀ x ∈ ks, NB x.t ∧ x.at' ≤ 9223372036854775807) → casts ks ws = some l → ∀ y ∈ l, NB y
  | [], ws, l, hk, h => by simp [casts] at h; subst h; intro y hy; cases hy
  | x :: xs, [], l, hk, h => by simp [casts] at h
  | x :: xs, w :: ws, l, hk, h => by
    obtain ⟨y, l', rfl, hy, hl⟩ := casts_cons h
    refine cons_all ?_ (casts_nb (fun x hx => hk x (List.mem_cons_of_mem _ hx)) hl)
    unfold Kid.to at hy
    split at hy
    · cases hy; exact asT_nb (hk x (List.mem_cons_self ..)).1 (hk x (List.mem_cons_self ..)).2
    · cases hy
theorem walkL_nb : ∀ {l : List Tm} {env : List Ty} {m : Int} {ks : List Kid}, (∀ a ∈ l, ∀ (m : Int) x k, m + a.nodes ≤ 1000000 → walkT a env m = some (x, k) → NB x) → m + nodesL l ≤ 1000000 → walkL l env m = some ks → ∀ x ∈ ks, NB x.t ∧ x.at' ≤ 9223372036854775807
  | [], env, m, ks, h, hm, hw => by have := walkL_nil hw; subst this; intro x hx; cases hx
  | a :: l, env, m, ks, h, hm, hw => by
    obtain ⟨x, k, ks', rfl, h1, h2⟩ := walkL_cons hw
    simp only [nodesL] at hm
    have := nodes_pos a
    refine cons_all ⟨h a (List.mem_cons_self ..) m x k (by omega) h1, by show m ≤ _; omega⟩ (walkL_nb (fun b hb => h b (List.mem_cons_of_mem _ hb)) (by omega) h2)
theorem walk_nb : ∀ (a : Tm) (env : List Ty) (m : Int) (x : Tm) (k : Ty), NB a → m + a.nodes ≤ 1000000 → walkT a env m = some (x, k) → NB x := fun a => by
  induction a using Tm.ind' with
  | _ a ih =>
    intro env m x k hn hm h
    rw [nodes_eta] at hm
    rw [walkT_eta] at h
    split at h
    · cases h; exact hn
    split at h
    · cases h; exact hn
    split at h
    · cases h; exact hn
    split at h
    · cases h
    rename_i ks hks
    split at h
    · cases h
    rename_i ws out hw
    cases hc : casts ks ws with
    | none => rw [hc] at h; cases h
    | some l' =>
      rw [hc] at h; cases h
      refine .mk hn.n (casts_nb (walkL_nb (fun b hb m x k hm => ih b hb _ m x k (hn.l b hb) hm) (by omega) hks) hc)
theorem TmOk.nb : ∀ {a : Tm}, TmOk a → NB a := fun {a} => by
  induction a using Tm.ind' with
  | _ a ih => intro h; exact .mk h.n fun x hx => ih x hx (h.l x hx)
end Go.Proofs.YtnflnbdlgdjfmaaDoor
namespace Go.Proofs.YtnflnbdlgdjfmaaDoor
set_option linter.unusedVariables false
set_option linter.unusedSimpArgs false
section
variable {P : Ty → Ty → Int → Bool → Prop}
inductive PT (P : Ty → Ty → Int → Bool → Prop) : Tm → Prop
  | mk {k n : Int} {t f : Ty} {l : List Tm} (h : k = 10 → Right t ∧ Right f ∧ P f t n false) (hl : ∀ x ∈ l, PT P x) : PT P (.mk k n t f l)
theorem PT.part {k n : Int} {t f : Ty} {l : List Tm} (h : PT P (.mk k n t f l)) : ∀ x ∈ l, PT P x := by cases h; assumption
theorem right_fn {f : Ty} (hf : Right f) (h : f.k = 3) : ∃ a b, f = .mk 3 [a, b] ∧ Right a ∧ Right b := by
  cases hf with
  | base hb => simp at h; omega
  | fn ha hb => exact ⟨_, _, rfl, ha, hb⟩
theorem ground_k {f : Ty} : f.ground.k = f.k := by
  unfold Ty.ground
  split
  · rename_i h; simp at h; rw [h]; rfl
  · rfl
end
theorem finer_fn {a b c d : Ty} : (Ty.mk 3 [a, b]).finer (.mk 3 [c, d]) = (a.finer c && b.finer d) := by simp [Ty.finer, finerL]
theorem finer_any (a : Ty) : a.finer .any = true := by cases a; simp [Ty.any, Ty.finer]
theorem finer_refl : ∀ a : Ty, a.finer a = true := Ty.ind fun k l ih => by
  simp only [Ty.finer, beq_self_eq_true, Bool.true_and]
  have : finerL l l = true := by
    induction l with
    | nil => rfl
    | cons a l ihl => simp only [finerL, ih a (List.mem_cons_self ..), ihl fun t ht => ih t (List.mem_cons_of_mem _ ht), Bool.and_self]
  rw [this, Bool.or_true]
theorem finer_ground {a : Ty} (h : Right a) : a.finer a.ground = true := by
  cases h with
  | base h => rw [right_base (.base h) (by simp; omega)]; exact finer_refl _
  | fn ha hb => rw [ground_fn, finer_fn, finer_any, finer_any]; rfl
theorem right_zero {a : Ty} (ha : Right a) (h0 : a.k = 0) : a = .any := by
  cases ha with
  | base hb => simp at h0; subst h0; rfl
  | fn _ _ => simp at h0
end Go.Proofs.YtnflnbdlgdjfmaaDoor
namespace Go.Proofs.YtnflnbdlgdjfmaaDoor
set_option linter.unusedVariables false
set_option linter.unusedSimpArgs false
/-- A value, and the same without casts. -/
inductive ER : V → V → Prop
  | num {n : Int} : ER (.num n) (.num n)
  | tru {n : Int} : ER (.tru n) (.tru n)
  | clo {b : Tm} {env env' : List V} (hb : WfT b) (hl : env.length = env'.length) (he : ∀ (i : Nat) (v v' : V), env[i]? = some v → env'[i]? = some v' → ER v v') : ER (.clo b env) (.clo (eraseT b) env')
  | wrap {v v' : V} {f t : Ty} {at' : Int} {back : Bool} (h : ER v v') : ER (.wrap v f t at' back) v'
  | tag {v v' : V} {g : Ty} (h : ER v v') : ER (.tag v g) v'
def EE (env env' : List V) : Prop := env.length = env'.length ∧ ∀ (i : Nat) (v v' : V), env[i]? = some v → env'[i]? = some v' → ER v v'
theorem EE.cons {env env' : List V} {v v' : V} (h : EE env env') (hv : ER v v') : EE (v :: env) (v' :: env') :=
  ⟨by simp [h.1], fun i u u' h1 h2 => by
    cases i with
    | zero => simp at h1 h2; subst h1; subst h2; exact hv
    | succ i => exact h.2 i u u' (by simpa using h1) (by simpa using h2)⟩
end Go.Proofs.YtnflnbdlgdjfmaaDoor
namespace Go.Proofs.YtnflnbdlgdjfmaaDoor
set_option linter.unusedVariables false
set_option linter.unusedSimpArgs false
theorem finer_trans : ∀ {a b c : Ty}, Right a → Right b → Right c → a.finer b = true → b.finer c = true → a.finer c = true := by
  intro a b c ha
  induction ha generalizing b c with
  | base h =>
    intro hb hc h1 h2
    cases hc with
    | base h' =>
      cases hb with
      | base h'' =>
        simp [Ty.finer, finerL] at h1 h2 ⊢
        omega
      | fn _ _ => simp [Ty.finer, finerL] at h1
    | fn _ _ =>
      cases hb with
      | base h'' => simp [Ty.finer, finerL] at h2
      | fn _ _ => simp [Ty.finer, finerL] at h1
  | fn ha1 ha2 ih1 ih2 =>
    intro hb hc h1 h2
    cases hc with
    | base h' =>
      cases hb with
      | base h'' =>
        simp [Ty.finer, finerL] at h1 h2 ⊢
        rcases h2 with h2 | h2
        · exact h2
        · omega
      | fn _ _ => simp [Ty.finer, finerL] at h2 ⊢; exact h2
    | fn hc1 hc2 =>
      cases hb with
      | base h'' => simp [Ty.finer, finerL] at h2
      | fn hb1 hb2 =>
        rw [finer_fn, Bool.and_eq_true] at *
        exact ⟨ih1 hb1 hc1 h1.1 h2.1, ih2 hb2 hc2 h1.2 h2.2⟩
theorem finer_kind {a b : Ty} (h : a.finer b = true) (h0 : b.k ≠ 0) : a.k = b.k := by
  rw [finer_eta] at h
  simp [h0] at h
  exact h.1
theorem plain_ground {g : Ty} (h : Plain g) : g.k ≠ 0 ∧ ∀ t : Ty, t.k = g.k → t.ground = g := by
  rcases h with rfl | rfl | rfl
  · exact ⟨by decide, fun t ht => by unfold Ty.ground; rw [ht]; rfl⟩
  · exact ⟨by decide, fun t ht => by unfold Ty.ground; rw [ht]; rfl⟩
  · exact ⟨by decide, fun t ht => by unfold Ty.ground; rw [ht]; rfl⟩
theorem ground_plain {t : Ty} (ht : Right t) (h0 : t.k ≠ 0) : Plain t.ground := by
  cases ht with
  | base hb =>
    rcases hb with rfl | rfl | rfl
    · exact absurd rfl h0
    · exact .inl rfl
    · exact .inr (.inl rfl)
  | fn _ _ => exact .inr (.inr rfl)
/-- A term with its casts, and one that says less; false: the last that was done is a cast of the one that says less. -/
inductive LT : Bool → List Ty → List Ty → Tm → Ty → Tm → Ty → Prop
  | ref {Γ Γ' : List Ty} {n : Int} {t f t' f' τ τ' : Ty} (h0 : 0 ≤ n) (h : Γ[n.toNat]? = some τ) (h' : Γ'[n.toNat]? = some τ') (hf : τ.finer τ' = true) : LT true Γ Γ' (.mk 1 n t f []) τ (.mk 1 n t' f' []) τ'
  | lit {Γ Γ' : List Ty} {n : Int} {t f t' f' : Ty} (h : inB n = true) : LT true Γ Γ' (.mk 2 n t f []) .num (.mk 2 n t' f' []) .num
  | says {Γ Γ' : List Ty} {n : Int} {t f t' f' : Ty} (h : n = 0 ∨ n = 1) : LT true Γ Γ' (.mk 3 n t f []) .truth (.mk 3 n t' f' []) .truth
  | add {Γ Γ' : List Ty} {n n' : Int} {t f t' f' : Ty} {a b a' b' : Tm} {p q : Bool} (ha : LT p Γ Γ' a .num a' .num) (hb : LT q Γ Γ' b .num b' .num) : LT true Γ Γ' (.mk 4 n t f [a, b]) .num (.mk 4 n' t' f' [a', b']) .num
  | less {Γ Γ' : List Ty} {n n' : Int} {t f t' f' : Ty} {a b a' b' : Tm} {p q : Bool} (ha : LT p Γ Γ' a .num a' .num) (hb : LT q Γ Γ' b .num b' .num) : LT true Γ Γ' (.mk 5 n t f [a, b]) .truth (.mk 5 n' t' f' [a', b']) .truth
  | ife {Γ Γ' : List Ty} {n n' : Int} {t f t' f' τ τ' : Ty} {a b c a' b' c' : Tm} {p q s : Bool} (ha : LT p Γ Γ' a .truth a' .truth) (hb : LT q Γ Γ' b τ b' τ') (hc : LT s Γ Γ' c τ c' τ') : LT true Γ Γ' (.mk 6 n t f [a, b, c]) τ (.mk 6 n' t' f' [a', b', c']) τ'
  | fn {Γ Γ' : List Ty} {n n' : Int} {t f t' f' τ τ' : Ty} {b b' : Tm} {p : Bool} (hr : Right t) (hr' : Right t') (hq : Right τ) (hq' : Right τ') (ht : t.finer t' = true) (h : LT p (t :: Γ) (t' :: Γ') b τ b' τ') : LT true Γ Γ' (.mk 7 n t f [b]) (.to t τ) (.mk 7 n' t' f' [b']) (.to t' τ')
  | call {Γ Γ' : List Ty} {n n' : Int} {t f t' f' σ τ σ' τ' : Ty} {a b a' b' : Tm} {p q : Bool} (ha : LT p Γ Γ' a (.to σ τ) a' (.to σ' τ')) (hb : LT q Γ Γ' b σ b' σ') : LT true Γ Γ' (.mk 8 n t f [a, b]) τ (.mk 8 n' t' f' [a', b']) τ'
  | as {Γ Γ' : List Ty} {n n' : Int} {t f t' f' : Ty} {b b' : Tm} {p : Bool} (h : LT p Γ Γ' b t b' t') : LT true Γ Γ' (.mk 9 n t f [b]) t (.mk 9 n' t' f' [b']) t'
  | castL {Γ Γ' : List Ty} {n : Int} {t f τ' : Ty} {b b' : Tm} {p : Bool} (hr : Right τ') (ht : Right t) (hf : Right f) (hs : f.fits t = true) (hft : t.finer τ' = true) (h : LT p Γ Γ' b f b' τ') : LT true Γ Γ' (.mk 10 n t f [b]) t b' τ'
  | castR {Γ Γ' : List Ty} {n : Int} {t f τ : Ty} {b b' : Tm} {p : Bool} (hr : Right τ) (ht : Right t) (hf : Right f) (hs : f.fits t = true) (hft : τ.finer t = true) (h : LT p Γ Γ' b τ b' f) : LT false Γ Γ' b τ (.mk 10 n t f [b']) t
  | castB {Γ Γ' : List Ty} {n n' : Int} {t f t' f' : Ty} {b b' : Tm} {p : Bool} (ht : Right t) (hf : Right f) (hs : f.fits t = true) (ht' : Right t') (hf' : Right f') (hs' : f'.fits t' = true) (hft : t.finer t' = true) (h : LT p Γ Γ' b f b' f') : LT true Γ Γ' (.mk 10 n t f [b]) t (.mk 10 n' t' f' [b']) t'
theorem LT.left {p : Bool} {Γ Γ' : List Ty} {x y : Tm} {τ τ' : Ty} (h : LT p Γ Γ' x τ y τ') : HT Γ x τ := by
  induction h with
  | ref h0 h _ _ => exact .ref h0 h
  | lit h => exact .lit h
  | says h => exact .says h
  | add _ _ iha ihb => exact .add iha ihb
  | less _ _ iha ihb => exact .less iha ihb
  | ife _ _ _ iha ihb ihc => exact .ife iha ihb ihc
  | fn _ _ _ _ _ _ ih => exact .fn ih
  | call _ _ iha ihb => exact .call iha ihb
  | as _ ih => exact .as ih
  | castL _ ht hf hs _ _ ih => exact .cast ht hf hs ih
  | castR _ _ _ _ _ _ ih => exact ih
  | castB ht hf hs _ _ _ _ _ ih => exact .cast ht hf hs ih
theorem LT.right {p : Bool} {Γ Γ' : List Ty} {x y : Tm} {τ τ' : Ty} (h : LT p Γ Γ' x τ y τ') : HT Γ' y τ' := by
  induction h with
  | ref h0 _ h _ => exact .ref h0 h
  | lit h => exact .lit h
  | says h => exact .says h
  | add _ _ iha ihb => exact .add iha ihb
  | less _ _ iha ihb => exact .less iha ihb
  | ife _ _ _ iha ihb ihc => exact .ife iha ihb ihc
  | fn _ _ _ _ _ _ ih => exact .fn ih
  | call _ _ iha ihb => exact .call iha ihb
  | as _ ih => exact .as ih
  | castL _ _ _ _ _ _ ih => exact ih
  | castR _ ht hf hs _ _ ih => exact .cast ht hf hs ih
  | castB _ _ _ ht hf hs _ _ ih => exact .cast ht hf hs ih
theorem LT.finer {p : Bool} {Γ Γ' : List Ty} {x y : Tm} {τ τ' : Ty} (h : LT p Γ Γ' x τ y τ') : τ.finer τ' = true := by
  induction h with
  | ref _ _ _ hf => exact hf
  | lit h => exact finer_refl _
  | says h => exact finer_refl _
  | add _ _ iha ihb => exact finer_refl _
  | less _ _ iha ihb => exact finer_refl _
  | ife _ _ _ iha ihb ihc => exact ihb
  | fn _ _ _ _ ht _ ih => rw [Ty.to, Ty.to, finer_fn, ht, ih]; rfl
  | call _ _ iha ihb => rw [Ty.to, Ty.to, finer_fn, Bool.and_eq_true] at iha; exact iha.2
  | as _ ih => exact ih
  | castL _ _ _ _ hft _ ih => exact hft
  | castR _ _ _ _ hft _ ih => exact hft
  | castB _ _ _ _ _ _ hft _ ih => exact hft
/-- A value, and one that says less. -/
inductive LV : Bool → V → Ty → V → Ty → Prop
  | num {n : Int} : LV true (.num n) .num (.num n) .num
  | tru {n : Int} : LV true (.tru n) .truth (.tru n) .truth
  | clo {b b' : Tm} {env env' : List V} {Γ Γ' : List Ty} {σ σ' τ τ' : Ty} {p : Bool} {pf : Nat → Bool} (r0 : Right σ) (r1 : Right τ) (r0' : Right σ') (r1' : Right τ') (hl : Γ.length ≤ env.length) (hl' : Γ'.length ≤ env'.length) (hs : σ.finer σ' = true)
      (he : ∀ (i : Nat) (v v' : V) (ρ ρ' : Ty), env[i]? = some v → env'[i]? = some v' → Γ[i]? = some ρ → Γ'[i]? = some ρ' → LV (pf i) v ρ v' ρ')
      (hv : ∀ (i : Nat) (v : V) (ρ : Ty), env[i]? = some v → Γ[i]? = some ρ → VT v ρ) (hv' : ∀ (i : Nat) (v : V) (ρ : Ty), env'[i]? = some v → Γ'[i]? = some ρ → VT v ρ)
      (hb : LT p (σ :: Γ) (σ' :: Γ') b τ b' τ') : LV true (.clo b env) (.to σ τ) (.clo b' env') (.to σ' τ')
  | wrapL {p : Bool} {v v' : V} {f0 f1 t0 t1 τ' : Ty} {at' : Int} {back : Bool} (h0 : Right f0) (h1 : Right f1) (h2 : Right t0) (h3 : Right t1) (g0 : f0.fits t0 = true) (g1 : f1.fits t1 = true) (hft : (Ty.mk 3 [t0, t1]).finer τ' = true) (h : LV p v (.mk 3 [f0, f1]) v' τ') :
      LV true (.wrap v (.mk 3 [f0, f1]) (.mk 3 [t0, t1]) at' back) (.mk 3 [t0, t1]) v' τ'
  | tagL {p : Bool} {v v' : V} {g : Ty} (hg : Plain g) (h : LV p v g v' .any) : LV true (.tag v g) .any v' .any
  | wrapR {p : Bool} {v v' : V} {f0 f1 t0 t1 τ : Ty} {at' : Int} {back : Bool} (h0 : Right f0) (h1 : Right f1) (h2 : Right t0) (h3 : Right t1) (g0 : f0.fits t0 = true) (g1 : f1.fits t1 = true) (hft : τ.finer (Ty.mk 3 [t0, t1]) = true) (h : LV p v τ v' (.mk 3 [f0, f1])) :
      LV false v τ (.wrap v' (.mk 3 [f0, f1]) (.mk 3 [t0, t1]) at' back) (.mk 3 [t0, t1])
  | wrapB {p : Bool} {v v' : V} {f0 f1 t0 t1 f0' f1' t0' t1' : Ty} {at' at'' : Int} {back back' : Bool} (h0 : Right f0) (h1 : Right f1) (h2 : Right t0) (h3 : Right t1) (g0 : f0.fits t0 = true) (g1 : f1.fits t1 = true)
      (h0' : Right f0') (h1' : Right f1') (h2' : Right t0') (h3' : Right t1') (g0' : f0'.fits t0' = true) (g1' : f1'.fits t1' = true) (hft : (Ty.mk 3 [t0, t1]).finer (.mk 3 [t0', t1']) = true) (h : LV p v (.mk 3 [f0, f1]) v' (.mk 3 [f0', f1'])) :
      LV true (.wrap v (.mk 3 [f0, f1]) (.mk 3 [t0, t1]) at' back) (.mk 3 [t0, t1]) (.wrap v' (.mk 3 [f0', f1']) (.mk 3 [t0', t1']) at'' back') (.mk 3 [t0', t1'])
  | tagR {p : Bool} {v v' : V} {g τ : Ty} (hg : Plain g) (h : LV p v τ v' g) : LV false v τ (.tag v' g) .any
theorem LV.left {p : Bool} {v v' : V} {τ τ' : Ty} (h : LV p v τ v' τ') : VT v τ := by
  induction h with
  | num => exact .num
  | tru => exact .tru
  | clo _ _ _ _ hl _ _ _ hv _ hb _ => exact .clo hl hv hb.left
  | wrapL h0 h1 h2 h3 g0 g1 _ _ ih => exact .wrap h0 h1 h2 h3 g0 g1 ih
  | tagL hg _ ih => exact .tag hg ih
  | wrapR _ _ _ _ _ _ _ _ ih => exact ih
  | tagR _ _ ih => exact ih
  | wrapB h0 h1 h2 h3 g0 g1 _ _ _ _ _ _ _ _ ih => exact .wrap h0 h1 h2 h3 g0 g1 ih
theorem LV.right {p : Bool} {v v' : V} {τ τ' : Ty} (h : LV p v τ v' τ') : VT v' τ' := by
  induction h with
  | num => exact .num
  | tru => exact .tru
  | clo _ _ _ _ _ hl _ _ _ hv hb _ => exact .clo hl hv hb.right
  | wrapL _ _ _ _ _ _ _ _ ih => exact ih
  | tagL _ _ ih => exact ih
  | wrapR h0 h1 h2 h3 g0 g1 _ _ ih => exact .wrap h0 h1 h2 h3 g0 g1 ih
  | tagR hg _ ih => exact .tag hg ih
  | wrapB _ _ _ _ _ _ h0 h1 h2 h3 g0 g1 _ _ ih => exact .wrap h0 h1 h2 h3 g0 g1 ih
theorem LV.finer {p : Bool} {v v' : V} {τ τ' : Ty} (h : LV p v τ v' τ') : τ.finer τ' = true := by
  induction h with
  | num => exact finer_refl _
  | tru => exact finer_refl _
  | clo _ _ _ _ _ _ hs _ _ _ hb _ => rw [Ty.to, Ty.to, finer_fn, hs, hb.finer]; rfl
  | wrapL _ _ _ _ _ _ hft _ _ => exact hft
  | tagL _ _ _ => exact finer_refl _
  | wrapR _ _ _ _ _ _ hft _ _ => exact hft
  | tagR _ _ _ => exact finer_any _
  | wrapB _ _ _ _ _ _ _ _ _ _ _ _ hft _ _ => exact hft
/-- What is seen is the same. -/
theorem LV.seen {p : Bool} {v v' : V} {τ τ' : Ty} (h : LV p v τ v' τ') : v.seen = v'.seen := by
  have key : ∀ {v : V} {a b : Ty}, VT v (.mk 3 [a, b]) → v.seen = ⟨3, 0, false⟩ := fun h => by
    cases h <;> rfl
  induction h with
  | num => rfl
  | tru => rfl
  | clo _ _ _ _ _ _ _ _ _ _ _ _ => rfl
  | wrapL _ _ _ _ _ _ _ h ih => rw [← ih, key h.left]; rfl
  | tagL _ _ ih => exact ih
  | wrapR _ _ _ _ _ _ _ h ih => rw [ih, key h.right]; rfl
  | tagR _ _ ih => exact ih
  | wrapB _ _ _ _ _ _ _ _ _ _ _ _ _ _ _ => rfl
theorem lv_wrapR {p : Bool} {v v' : V} {f t τ : Ty} {n : Int} {b : Bool} (hf : Right f) (ht : Right t) (h1 : f.k = 3) (h2 : t.k = 3) (hs : f.fits t = true) (hft : τ.finer t = true) (h : LV p v τ v' f) : LV false v τ (.wrap v' f t n b) t := by
  obtain ⟨_, _, rfl, a, b⟩ := right_fn hf h1
  obtain ⟨_, _, rfl, c, d⟩ := right_fn ht h2
  rw [fits_to, Bool.and_eq_true] at hs
  exact .wrapR a b c d hs.1 hs.2 hft h
theorem fits_ground {t : Ty} (ht : Right t) : t.fits t.ground = true ∧ t.ground.fits t = true := by
  have : t.fits t.ground = true := by
    cases ht with
    | base h => rw [right_base (.base h) (by simp; omega)]; simp [Ty.fits, fitsL]
    | fn _ _ => rw [ground_fn, fits_to, fits_any, fits_any]; rfl
  exact ⟨this, by rw [fits_comm]; exact this⟩
/-- A function's kind, where one says less. -/
theorem lv_tag {p : Bool} {v v' : V} {τ τ' : Ty} (h : LV p v τ v' τ') : ∀ u g, v' = .tag u g → τ.k ≠ 0 → ∃ q, LV q v τ u g ∧ Plain g := by
  induction h with
  | num => intro u g h; cases h
  | tru => intro u g h; cases h
  | clo _ _ _ _ _ _ _ _ _ _ _ _ => intro u g h; cases h
  | wrapL h0 h1 h2 h3 g0 g1 hft h ih =>
    rename_i f0 f1 t0 t1 τ' at' back
    intro u g he _
    obtain ⟨q, hq, hg⟩ := ih u g he (by simp)
    have hk : g.k = 3 := (finer_kind hq.finer (plain_ground hg).1).symm
    have hge : g = .mk 3 [.any, .any] := ((plain_ground hg).2 (.mk 3 [f0, f1]) hk.symm).symm
    exact ⟨true, .wrapL h0 h1 h2 h3 g0 g1 (by rw [hge, finer_fn, finer_any, finer_any]; rfl) hq, hg⟩
  | tagL _ _ _ => intro u g _ h; exact absurd rfl h
  | wrapR _ _ _ _ _ _ _ _ _ => intro u g h; cases h
  | wrapB _ _ _ _ _ _ _ _ _ _ _ _ _ _ _ => intro u g h; cases h
  | tagR hg h _ => intro u g he _; cases he; exact ⟨_, h, hg⟩
/-- A cast of what says less is not blamed. -/
theorem castV_R {p : Bool} {v v' : V} {f t τ : Ty} {n : Int} {b : Bool} (hf : Right f) (ht : Right t) (hr : Right τ) (hs : f.fits t = true) (hft : τ.finer t = true) (h : LV p v τ v' f) : ∃ u q, castV v' f t n b = .inl u ∧ LV q v τ u t := by
  unfold castV
  by_cases h1 : f.same t = true
  · rw [if_pos h1]; have := same_eq h1; subst this; exact ⟨v', p, rfl, h⟩
  rw [if_neg h1]
  by_cases hk : (f.k == 3 && t.k == 3) = true
  · rw [if_pos hk]
    simp only [Bool.and_eq_true, beq_iff_eq] at hk
    exact ⟨_, false, rfl, lv_wrapR hf ht hk.1 hk.2 hs hft h⟩
  rw [if_neg hk]
  by_cases h0 : (t.k == 0) = true
  · rw [if_pos h0]
    have := right_zero ht (by simpa using h0)
    subst this
    have hfk : f.k ≠ 0 := fun e => by have := right_zero hf e; subst this; exact h1 rfl
    refine ⟨_, false, rfl, .tagR (ground_plain hf hfk) (p := if f.same f.ground then p else false) ?_⟩
    split
    · rename_i hg; have hg := same_eq hg; rw [← hg]; exact h
    · rename_i hg
      have h3 : f.k = 3 := Decidable.byContradiction fun h3 => hg (by rw [right_base hf h3]; exact same_refl f)
      exact lv_wrapR hf hf.ground h3 (by rw [ground_k]; exact h3) (fits_ground hf).1 (finer_trans hr hf hf.ground h.finer (finer_ground hf)) h
  rw [if_neg h0]
  have ht0 : t.k ≠ 0 := by simpa using h0
  have hτ : τ.k = t.k := finer_kind hft ht0
  by_cases hf0 : (f.k == 0) = true
  · rw [if_pos hf0]
    have := right_zero hf (by simpa using hf0)
    subst this
    obtain ⟨u, g, rfl, _, _⟩ := vt_any h.right
    obtain ⟨q, hq, hg⟩ := lv_tag h u g rfl (by rw [hτ]; exact ht0)
    have hgk : t.k = g.k := by rw [← hτ]; exact finer_kind hq.finer (plain_ground hg).1
    have hge : t.ground = g := (plain_ground hg).2 t hgk
    dsimp only
    rw [if_pos (by rw [hge]; exact same_refl g)]
    by_cases he : t.ground.same t = true
    · rw [if_pos he]
      have he := same_eq he
      exact ⟨u, q, rfl, by rw [← he, hge]; exact hq⟩
    · rw [if_neg he]
      have h3 : t.k = 3 := Decidable.byContradiction fun h3 => he (by rw [right_base ht h3]; exact same_refl t)
      rw [if_pos (by simpa using h3)]
      exact ⟨_, false, rfl, lv_wrapR ht.ground ht (by rw [ground_k]; exact h3) h3 (fits_ground ht).2 hft (by rw [hge]; exact hq)⟩
  · exfalso
    have hf0 : f.k ≠ 0 := by simpa using hf0
    rw [fits_eta] at hs
    simp [hf0, ht0] at hs
    apply h1
    have hfk : f.k ≠ 3 := fun e => hk (by rw [← hs.1, e]; rfl)
    cases hf with
    | fn _ _ => exact absurd rfl hfk
    | base hb =>
      cases ht with
      | fn _ _ => simp at hs hfk; exact absurd hs.1 (by omega)
      | base hb' => simp at hs; rw [hs.1]; exact same_refl _
def RL : Res → Ty → Res → Ty → Prop
  | .ok v F, τ, r', τ' => ∃ v' p, r' = .ok v' F ∧ LV p v τ v' τ'
  | .out o, _, r', _ => r' = .out o
structure LE (env env' : List V) (Γ Γ' : List Ty) : Prop where
  hl : Γ.length ≤ env.length
  hl' : Γ'.length ≤ env'.length
  he : ∃ pf : Nat → Bool, ∀ (i : Nat) (v v' : V) (ρ ρ' : Ty), env[i]? = some v → env'[i]? = some v' → Γ[i]? = some ρ → Γ'[i]? = some ρ' → LV (pf i) v ρ v' ρ'
  hv : ∀ (i : Nat) (v : V) (ρ : Ty), env[i]? = some v → Γ[i]? = some ρ → VT v ρ
  hv' : ∀ (i : Nat) (v : V) (ρ : Ty), env'[i]? = some v → Γ'[i]? = some ρ → VT v ρ
theorem LE.cons {env env' : List V} {Γ Γ' : List Ty} {v v' : V} {ρ ρ' : Ty} {p : Bool} (h : LE env env' Γ Γ') (hv : LV p v ρ v' ρ') : LE (v :: env) (v' :: env') (ρ :: Γ) (ρ' :: Γ') where
  hl := by simpa using h.hl
  hl' := by simpa using h.hl'
  he := by
    obtain ⟨pf, hp⟩ := h.he
    refine ⟨fun i => match i with | 0 => p | i + 1 => pf i, fun i u u' σ σ' h1 h2 h3 h4 => ?_⟩
    cases i with
    | zero => simp at h1 h2 h3 h4; subst h1 h2 h3 h4; exact hv
    | succ i => exact hp i u u' σ σ' (by simpa using h1) (by simpa using h2) (by simpa using h3) (by simpa using h4)
  hv := fun i u σ h1 h3 => by
    cases i with
    | zero => simp at h1 h3; subst h1 h3; exact hv.left
    | succ i => exact h.hv i u σ (by simpa using h1) (by simpa using h3)
  hv' := fun i u σ h1 h3 => by
    cases i with
    | zero => simp at h1 h3; subst h1 h3; exact hv.right
    | succ i => exact h.hv' i u σ (by simpa using h1) (by simpa using h3)
theorem RL.castR {r r' : Res} {τ f t : Ty} {n : Int} {y : Tm} {env' : List V} {F : Nat} (hr : Right τ) (ht : Right t) (hf : Right f) (hs : f.fits t = true) (hft : τ.finer t = true) (h1 : Ev (.tm y env') F r') (h2 : RL r τ r' f) : ∃ r', Ev (.tm (.mk 10 n t f [y]) env') F r' ∧ RL r τ r' t := by
  cases r with
  | out o =>
    have h2 : r' = _ := h2
    subst h2
    exact ⟨_, .castO h1, rfl⟩
  | ok v F' =>
    obtain ⟨v', p, rfl, hv⟩ := h2
    obtain ⟨u, q, hc, hu⟩ := castV_R (n := n) (b := false) hf ht hr hs hft hv
    refine ⟨_, .cast h1, ?_⟩
    unfold Go.Proofs.YtnflnbdlgdjfmaaDoor.castR
    rw [hc]
    exact ⟨u, q, rfl, hu⟩
end Go.Proofs.YtnflnbdlgdjfmaaDoor
namespace Go.Proofs.YtnflnbdlgdjfmaaDoor
set_option linter.unusedVariables false
set_option linter.unusedSimpArgs false
/-- A term, and one that says less. -/
inductive TPr : Tm → Tm → Prop
  | mk {k n : Int} {t t' f : Ty} {l l' : List Tm} (ht : t = t' ∨ (t' = .any ∧ (k = 7 ∨ k = 9))) (hl : l.length = l'.length) (h : ∀ (i : Nat) (a b : Tm), l[i]? = some a → l'[i]? = some b → TPr a b) : TPr (.mk k n t f l) (.mk k n t' f l')
theorem TPr.parts {k n k' n' : Int} {t t' f f' : Ty} {l l' : List Tm} (h : TPr (.mk k n t f l) (.mk k' n' t' f' l')) : k' = k ∧ n' = n ∧ f' = f ∧ (t = t' ∨ (t' = .any ∧ (k = 7 ∨ k = 9))) ∧ l.length = l'.length ∧ ∀ (i : Nat) (a b : Tm), l[i]? = some a → l'[i]? = some b → TPr a b := by
  cases h with
  | mk ht hl h => exact ⟨rfl, rfl, rfl, ht, hl, h⟩
theorem TPr.refl : ∀ t : Tm, TPr t t := fun t => by
  induction t using Tm.ind' with
  | h a ih =>
  obtain ⟨k, n, t, f, l⟩ := a
  exact .mk (.inl rfl) rfl fun i a b h1 h2 => by rw [h1] at h2; cases h2; exact ih a (List.mem_of_getElem? h1)
theorem nodesL_pr : ∀ {l l' : List Tm}, l.length = l'.length → (∀ (i : Nat) (a b : Tm), l[i]? = some a → l'[i]? = some b → a.nodes = b.nodes) → nodesL l = nodesL l'
  | [], [], _, _ => rfl
  | a :: l, b :: l', hl, h => by
    simp only [nodesL]
    rw [h 0 a b rfl rfl, nodesL_pr (l := l) (l' := l') (by simpa using hl) fun i a b h1 h2 => h (i + 1) a b (by simpa using h1) (by simpa using h2)]
  | [], _ :: _, h, _ => by simp at h
  | _ :: _, [], h, _ => by simp at h
theorem TPr.nodes {a b : Tm} (h : TPr a b) : a.nodes = b.nodes := by
  induction h with
  | mk _ hl _ ih => simp only [Tm.nodes]; rw [nodesL_pr hl ih]
theorem goodL_pr : ∀ {l l' : List Tm} {ar ow : Int}, l.length = l'.length → (∀ (i : Nat) (a b : Tm), l[i]? = some a → l'[i]? = some b → a.good ar ow = true → b.good ar ow = true) → goodL l ar ow = true → goodL l' ar ow = true
  | [], [], _, _, _, _, _ => rfl
  | a :: l, b :: l', ar, ow, hl, h, hg => by
    simp only [goodL, Bool.and_eq_true] at hg ⊢
    exact ⟨h 0 a b rfl rfl hg.1, goodL_pr (by simpa using hl) (fun i a b h1 h2 => h (i + 1) a b (by simpa using h1) (by simpa using h2)) hg.2⟩
  | [], _ :: _, _, _, h, _, _ => by simp at h
  | _ :: _, [], _, _, h, _, _ => by simp at h
theorem TPr.good {a b : Tm} (h : TPr a b) : ∀ {ar ow : Int}, a.good ar ow = true → b.good ar ow = true := by
  induction h with
  | mk ht hl _ ih =>
    rename_i k n t t' f l l' _
    intro ar ow hg
    rw [goodT_eta, Bool.and_eq_true] at hg ⊢
    simp only [Tm.k_mk, Tm.l_mk] at hg ⊢
    refine ⟨?_, goodL_pr hl (fun i a b h1 h2 h3 => ih i a b h1 h2 h3) hg.2⟩
    have hf := hg.1
    rcases ht with rfl | ⟨rfl, hk⟩
    · simp only [Tm.fit, Tm.k_mk, Tm.l_mk, Tm.f_mk, Tm.t_mk, Tm.num, Tm.n_mk] at hf ⊢
      rw [← hl]; exact hf
    · have any4 : Ty.any.good 4 = true := rfl
      rcases hk with rfl | rfl
      · simp [Tm.fit, Tm.num, any4] at hf ⊢
        rw [← hl]
        simp_all
      · simp [Tm.fit, Tm.num, any4] at hf ⊢
        rw [← hl]
        simp_all
end Go.Proofs.YtnflnbdlgdjfmaaDoor
