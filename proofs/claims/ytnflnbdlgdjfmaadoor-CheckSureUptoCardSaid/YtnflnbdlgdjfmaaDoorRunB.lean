/-
  Who is blamed is one of the casts; what all casts keep. Conditions: those typed in each theorem.
-/
import Derived.Test.YtnflnbdlgdjfmaaDoorChkH
namespace Go.Proofs.YtnflnbdlgdjfmaaDoor
set_option linter.unusedVariables false
set_option linter.unusedSimpArgs false

/-- What is asked of casts holds of those that come of them. -/
structure Clos (P : Ty → Ty → Int → Bool → Prop) : Prop where
  fn : ∀ {f0 f1 t0 t1 : Ty} {n : Int} {b : Bool}, Right f0 → Right f1 → Right t0 → Right t1 → P (.mk 3 [f0, f1]) (.mk 3 [t0, t1]) n b → P t0 f0 n (!b) ∧ P f1 t1 n b
  up : ∀ {f t : Ty} {n : Int} {b : Bool}, Right f → Right t → t.k = 0 → P f t n b → P f f.ground n b
  down : ∀ {f t : Ty} {n : Int} {b : Bool}, Right f → Right t → f.k = 0 → P f t n b → P t.ground t n b

section
variable {P : Ty → Ty → Int → Bool → Prop}
inductive PT (P : Ty → Ty → Int → Bool → Prop) : Tm → Prop
  | mk {k n : Int} {t f : Ty} {l : List Tm} (h : k = 10 → Right t ∧ Right f ∧ P f t n false) (hl : ∀ x ∈ l, PT P x) : PT P (.mk k n t f l)
inductive PV (P : Ty → Ty → Int → Bool → Prop) : V → Prop
  | num {n : Int} : PV P (.num n)
  | tru {n : Int} : PV P (.tru n)
  | clo {b : Tm} {env : List V} (hb : PT P b) (he : ∀ v ∈ env, PV P v) : PV P (.clo b env)
  | wrap {v : V} {f0 f1 t0 t1 : Ty} {at' : Int} {back : Bool} (h0 : Right f0) (h1 : Right f1) (h2 : Right t0) (h3 : Right t1) (h : P (.mk 3 [f0, f1]) (.mk 3 [t0, t1]) at' back) (hv : PV P v) : PV P (.wrap v (.mk 3 [f0, f1]) (.mk 3 [t0, t1]) at' back)
  | tag {v : V} {g : Ty} (hv : PV P v) : PV P (.tag v g)
theorem PT.here {k n : Int} {t f : Ty} {l : List Tm} (h : PT P (.mk k n t f l)) : k = 10 → Right t ∧ Right f ∧ P f t n false := by cases h; assumption
theorem PT.part {k n : Int} {t f : Ty} {l : List Tm} (h : PT P (.mk k n t f l)) : ∀ x ∈ l, PT P x := by cases h; assumption
/-- Blamed, of a cast from Any. -/
def Blamed (P : Ty → Ty → Int → Bool → Prop) (o : Out) : Prop := o = .fuel ∨ o = .stuck ∨ ∃ n b f t, o = .blame n b ∧ P f t n b ∧ Right f ∧ Right t ∧ f.k = 0 ∧ t.k ≠ 0
theorem right_fn {f : Ty} (hf : Right f) (h : f.k = 3) : ∃ a b, f = .mk 3 [a, b] ∧ Right a ∧ Right b := by
  cases hf with
  | base hb => simp at h; omega
  | fn ha hb => exact ⟨_, _, rfl, ha, hb⟩
theorem pv_wrap {v : V} {f t : Ty} {n : Int} {b : Bool} (hf : Right f) (ht : Right t) (h1 : f.k = 3) (h2 : t.k = 3) (hp : P f t n b) (hv : PV P v) : PV P (.wrap v f t n b) := by
  obtain ⟨_, _, rfl, a, b⟩ := right_fn hf h1
  obtain ⟨_, _, rfl, c, d⟩ := right_fn ht h2
  exact .wrap a b c d hp hv
theorem ground_k {f : Ty} : f.ground.k = f.k := by
  unfold Ty.ground
  split
  · rename_i h; simp at h; rw [h]; rfl
  · rfl
theorem castV_p (C : Clos P) {v : V} {f t : Ty} {n : Int} {b : Bool} (hf : Right f) (ht : Right t) (hp : P f t n b) (hv : PV P v) : (∀ u, castV v f t n b = .inl u → PV P u) ∧ ∀ o, castV v f t n b = .inr o → Blamed P o := by
  unfold castV
  split
  · exact ⟨fun u h => (by cases h; exact hv), fun o h => (by cases h)⟩
  split
  · rename_i hk
    simp only [Bool.and_eq_true, beq_iff_eq] at hk
    exact ⟨fun u h => (by cases h; exact pv_wrap hf ht hk.1 hk.2 hp hv), fun o h => (by cases h)⟩
  split
  · rename_i h0
    have h0 : t.k = 0 := by simpa using h0
    refine ⟨fun u h => ?_, fun o h => by cases h⟩
    cases h
    refine .tag ?_
    split
    · exact hv
    · rename_i hs
      have h3 : f.k = 3 := Decidable.byContradiction fun h3 => hs (by rw [right_base hf h3]; exact same_refl f)
      exact pv_wrap hf hf.ground h3 (by rw [ground_k]; exact h3) (C.up hf ht h0 hp) hv
  rename_i ht0
  have ht0 : t.k ≠ 0 := by simpa using ht0
  split
  · rename_i hf0
    have hf0 : f.k = 0 := by simpa using hf0
    split
    · cases hv with
      | tag hv =>
      split
      · split
        · exact ⟨fun u h => (by cases h; exact hv), fun o h => (by cases h)⟩
        · split
          · rename_i h3
            have h3 : t.k = 3 := by simpa using h3
            exact ⟨fun u h => (by cases h; exact pv_wrap ht.ground ht (by rw [ground_k]; exact h3) h3 (C.down hf ht hf0 hp) hv), fun o h => (by cases h)⟩
          · exact ⟨fun u h => (by cases h), fun o h => by cases h; exact .inr (.inl rfl)⟩
      · exact ⟨fun u h => (by cases h), fun o h => by cases h; exact .inr (.inr ⟨_, _, _, _, rfl, hp, hf, ht, hf0, ht0⟩)⟩
    · exact ⟨fun u h => (by cases h), fun o h => by cases h; exact .inr (.inl rfl)⟩
  · exact ⟨fun u h => (by cases h), fun o h => by cases h; exact .inr (.inl rfl)⟩

def PC (P : Ty → Ty → Int → Bool → Prop) : Cmd → Prop
  | .tm t env => PT P t ∧ ∀ v ∈ env, PV P v
  | .ap f x => PV P f ∧ PV P x
def PR (P : Ty → Ty → Int → Bool → Prop) : Res → Prop
  | .ok v _ => PV P v
  | .out o => Blamed P o
theorem castR_p (C : Clos P) {v : V} {f t : Ty} {n : Int} {b : Bool} {F : Nat} (hf : Right f) (ht : Right t) (hp : P f t n b) (hv : PV P v) : PR P (castR v f t n b F) := by
  unfold castR
  have := castV_p C hf ht hp hv
  cases h : castV v f t n b with
  | inl u => exact this.1 u h
  | inr o => exact this.2 o h
theorem ev_p (C : Clos P) {c : Cmd} {F : Nat} {r : Res} (h : Ev c F r) : PC P c → PR P r := by
  induction h with
  | ref hv => rintro ⟨ht, he⟩; exact he _ (List.mem_of_getElem? hv)
  | refS hv => rintro ⟨ht, he⟩; exact .inr (.inl rfl)
  | lit => rintro ⟨ht, he⟩; exact .num
  | says => rintro ⟨ht, he⟩; exact .tru
  | fn => rintro ⟨ht, he⟩; exact .clo (ht.part _ (List.mem_cons_self ..)) he
  | as _ ih => rintro ⟨ht, he⟩; exact ih ⟨ht.part _ (List.mem_cons_self ..), he⟩
  | castO _ ih => rintro ⟨ht, he⟩; exact ih ⟨ht.part _ (List.mem_cons_self ..), he⟩
  | cast _ ih => rintro ⟨ht, he⟩; obtain ⟨h1, h2, h3⟩ := ht.here rfl; exact castR_p C h2 h1 h3 (ih ⟨ht.part _ (List.mem_cons_self ..), he⟩)
  | ifO _ ih => rintro ⟨ht, he⟩; exact ih ⟨ht.part _ (by simp), he⟩
  | ifS _ hv ih => rintro ⟨ht, he⟩; exact .inr (.inl rfl)
  | ifT _ _ ih1 ih2 => rintro ⟨ht, he⟩; exact ih2 ⟨ht.part _ (by simp), he⟩
  | ifF _ _ ih1 ih2 => rintro ⟨ht, he⟩; exact ih2 ⟨ht.part _ (by simp), he⟩
  | binO hk _ ih => rintro ⟨ht, he⟩; exact ih ⟨ht.part _ (by simp), he⟩
  | binP hk _ _ ih1 ih2 => rintro ⟨ht, he⟩; exact ih2 ⟨ht.part _ (by simp), he⟩
  | twoV hk _ _ h2 ih1 ih2 =>
    rintro ⟨ht, he⟩
    unfold twoV at h2
    split at h2
    · split at h2
      · simp only [Option.some.injEq, Sum.inl.injEq] at h2
        subst h2
        split
        · exact .tru
        · exact .num
      · cases h2
    · cases h2
    · cases h2
  | twoO hk _ _ h2 ih1 ih2 => rintro ⟨ht, he⟩; exact .inr (.inl (twoV_out h2))
  | call _ _ _ ih1 ih2 ih3 => rintro ⟨ht, he⟩; exact ih3 ⟨ih1 ⟨ht.part _ (by simp), he⟩, ih2 ⟨ht.part _ (by simp), he⟩⟩
  | clo0 => rintro _; exact .inl rfl
  | clo _ ih =>
    rintro ⟨hf, hx⟩
    cases hf with
    | clo hb he =>
      exact ih ⟨hb, fun v hv => by
        rcases List.mem_cons.1 hv with rfl | hv
        · exact hx
        · exact he v hv⟩
  | wrapO hc => rintro ⟨hf, hx⟩; cases hf with | wrap h0 h1 h2 h3 hp hv => exact (castV_p C h2 h0 (C.fn h0 h1 h2 h3 hp).1 hx).2 _ hc
  | wrapP hc _ ih => rintro ⟨hf, hx⟩; cases hf with | wrap h0 h1 h2 h3 hp hv => exact ih ⟨hv, (castV_p C h2 h0 (C.fn h0 h1 h2 h3 hp).1 hx).1 _ hc⟩
  | wrap hc _ ih => rintro ⟨hf, hx⟩; cases hf with | wrap h0 h1 h2 h3 hp hv => exact castR_p C h1 h3 (C.fn h0 h1 h2 h3 hp).2 (ih ⟨hv, (castV_p C h2 h0 (C.fn h0 h1 h2 h3 hp).1 hx).1 _ hc⟩)
  | apN => rintro _; exact .inr (.inl rfl)
  | apT => rintro _; exact .inr (.inl rfl)
  | apG => rintro _; exact .inr (.inl rfl)
end

/-- A cast that is safe. -/
def Safe (m : Int) (p : Bool) (f t : Ty) (n : Int) (b : Bool) : Prop := n = m → if b = p then f.finer t = true else t.finer f = true
theorem finer_fn {a b c d : Ty} : (Ty.mk 3 [a, b]).finer (.mk 3 [c, d]) = (a.finer c && b.finer d) := by simp [Ty.finer, finerL]
theorem finer_any (a : Ty) : a.finer .any = true := by cases a; simp [Ty.any, Ty.finer]
theorem finer_refl : ∀ a : Ty, a.finer a = true := Ty.ind fun k l ih => by
  simp only [Ty.finer, beq_self_eq_true, Bool.true_and]
  have : finerL l l = true := by
    induction l with
    | nil => rfl
    | cons a l ihl => simp only [finerL, ih a (List.mem_cons_self ..), ihl fun t ht => ih t (List.mem_cons_of_mem _ ht), Bool.and_self]
  rw [this, Bool.or_true]
theorem finer_ground {a : Ty} (h : Right a) : a.finer a.ground = true := by
  cases h with
  | base h => rw [right_base (.base h) (by simp; omega)]; exact finer_refl _
  | fn ha hb => rw [ground_fn, finer_fn, finer_any, finer_any]; rfl
theorem any_finer {a b : Ty} (ha : Right a) (hb : Right b) (h0 : a.k = 0) (h : a.finer b = true) : b = .any := by
  rw [finer_eta, h0] at h
  cases hb with
  | base hb =>
    simp at h
    rcases h with h | ⟨h, _⟩ <;> (subst h; rfl)
  | fn _ _ => simp at h
theorem right_zero {a : Ty} (ha : Right a) (h0 : a.k = 0) : a = .any := by
  cases ha with
  | base hb => simp at h0; subst h0; rfl
  | fn _ _ => simp at h0
theorem safe_clos (m : Int) (p : Bool) : Clos (Safe m p) where
  fn := fun {f0 f1 t0 t1 n b} h0 h1 h2 h3 h => by
    constructor
    · intro hn
      have := h hn
      rw [finer_fn, finer_fn] at this
      by_cases hb : b = p
      · subst hb
        rw [if_pos rfl, Bool.and_eq_true] at this
        rw [if_neg (by cases b <;> simp)]; exact this.1
      · rw [if_neg hb, Bool.and_eq_true] at this
        rw [if_pos (by cases b <;> cases p <;> simp_all)]; exact this.1
    · intro hn
      have := h hn
      rw [finer_fn, finer_fn] at this
      split
      · rename_i hb; rw [if_pos hb, Bool.and_eq_true] at this; exact this.2
      · rename_i hb; rw [if_neg hb, Bool.and_eq_true] at this; exact this.2
  up := fun {f t n b} hf ht h0 h hn => by
    have := h hn
    have ht := right_zero ht h0
    subst ht
    split
    · exact finer_ground hf
    · rename_i hb
      rw [if_neg hb] at this
      have := any_finer .any hf rfl this
      subst this
      rfl
  down := fun {f t n b} hf ht h0 h hn => by
    have := h hn
    split
    · rename_i hb
      rw [if_pos hb] at this
      have := any_finer hf ht h0 this
      subst this
      rfl
    · exact finer_ground ht
theorem seen_ne4 : ∀ v : V, v.seen.kind ≠ 4
  | .num n => by simp [V.seen]
  | .tru n => by simp [V.seen]
  | .clo b env => by simp [V.seen]
  | .wrap v f t n b => by simp [V.seen]
  | .tag v g => by rw [V.seen]; exact seen_ne4 v
/-- Never blamed so. -/
theorem safe_blame {m : Int} {p : Bool} {t : Tm} {F : Nat} {r : Res} (h : Ev (.tm t []) F r) (ht : PT (Safe m p) t) : r.told ≠ .blame m p := by
  have := ev_p (safe_clos m p) h ⟨ht, fun v hv => by cases hv⟩
  cases r with
  | ok v F =>
    intro he
    exact seen_ne4 v (by rw [show v.seen = _ from he]; rfl)
  | out o =>
    intro he
    have he : o = .blame m p := he
    subst he
    rcases this with h | h | ⟨n, b, f, t, h1, h2, h3, h4, h5, h6⟩
    · simp [Out.blame, Out.fuel] at h
    · simp [Out.blame, Out.stuck] at h
    · simp [Out.blame] at h1
      obtain ⟨rfl, rfl⟩ := h1
      have := h2 rfl
      rw [if_pos rfl] at this
      have := any_finer h3 h4 h5 this
      subst this
      exact h6 rfl
end Go.Proofs.YtnflnbdlgdjfmaaDoor
