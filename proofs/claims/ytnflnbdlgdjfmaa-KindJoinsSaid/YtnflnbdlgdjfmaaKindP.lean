/-
  Plain laws of types. Conditions: none.
-/
import Derived.Test.YtnflnbdlgdjfmaaKindS
namespace Go.Proofs.Ytnflnbdlgdjfmaa
set_option linter.unusedVariables false

theorem good_k {d : Nat} {t : Ty} (h : t.good d = true) : 0 ≤ t.k ∧ t.k ≤ 3 := by
  cases d with
  | zero => cases t; simp [Ty.good] at h
  | succ d => cases t; simp [Ty.good] at h; exact ⟨h.1.1, h.1.2⟩
theorem good_three {d : Nat} {k : Int} {l : List Ty} (h : (Ty.mk k l).good (d + 1) = true) (hk : k = 3) : ∃ a b, l = [a, b] ∧ a.good d = true ∧ b.good d = true := by
  subst hk
  simp only [Ty.good] at h
  match l, h with
  | [a, b], h => simp at h; exact ⟨a, b, rfl, h.1, h.2⟩
theorem good_other {d : Nat} {k : Int} {l : List Ty} (h : (Ty.mk k l).good (d + 1) = true) (hk : k ≠ 3) : l = [] := by
  simp [Ty.good, hk] at h
  exact h.2
/-- A good type is one of four. -/
theorem good_cases {d : Nat} {t : Ty} (h : t.good (d + 1) = true) : t = .mk 0 [] ∨ t = .mk 1 [] ∨ t = .mk 2 [] ∨ ∃ a b, t = .to a b ∧ a.good d = true ∧ b.good d = true := by
  obtain ⟨k, l⟩ := t
  by_cases hk : k = 3
  · obtain ⟨a, b, rfl, ha, hb⟩ := good_three h hk
    subst hk
    exact .inr (.inr (.inr ⟨a, b, rfl, ha, hb⟩))
  · obtain rfl := good_other h hk
    have := good_k h
    simp only [Ty.k_mk] at this
    have : k = 0 ∨ k = 1 ∨ k = 2 := by omega
    rcases this with rfl | rfl | rfl <;> simp

theorem same_refl : ∀ t : Ty, t.same t = true := by
  intro t
  induction t using Ty.ind with
  | h k l ih =>
    simp [Ty.same]
    induction l with
    | nil => rfl
    | cons a l ihl => simp [sameL, ih a (List.mem_cons_self ..)]; exact ihl fun t ht => ih t (List.mem_cons_of_mem _ ht)

section
variable {t : Ty} (h : t.good 4 = true) (hk : t.k ≠ 0)
include h hk
theorem grounds_plain : t.ground.plain = true := by
  rcases good_cases h with rfl | rfl | rfl | ⟨a, b, rfl, _⟩ <;> simp_all [Ty.ground, Ty.plain, Ty.to, Ty.any]
theorem grounds_finer : t.finer t.ground = true := by
  rcases good_cases h with rfl | rfl | rfl | ⟨a, b, rfl, _⟩ <;> simp_all [Ty.ground, Ty.finer, finerL, Ty.to, Ty.any, finer_eta]
theorem grounds_k : t.ground.k = t.k := by
  rcases good_cases h with rfl | rfl | rfl | ⟨a, b, rfl, _⟩ <;> simp_all [Ty.ground, Ty.to]
theorem grounds_same : t.ground.ground.same t.ground = true := by
  rcases good_cases h with rfl | rfl | rfl | ⟨a, b, rfl, _⟩ <;> simp_all [Ty.ground, Ty.to, same_refl]
end

/-- Induction over two types at once. -/
theorem Ty.ind2 {p : Ty → Ty → Prop} {q : List Ty → List Ty → Prop} (h : ∀ k l k' l', q l l' → p (.mk k l) (.mk k' l')) (h0 : q [] []) (h1 : ∀ a l b m, p a b → q l m → q (a :: l) (b :: m)) (h2 : ∀ b m, q [] (b :: m)) (h3 : ∀ a l, q (a :: l) []) :
    (∀ a b, p a b) := fun a => Ty.rec (motive_1 := fun a => ∀ b, p a b) (motive_2 := fun l => ∀ m, q l m) (fun k l ih b => by obtain ⟨k', l'⟩ := b; exact h k l k' l' (ih l'))
    (fun m => by cases m with | nil => exact h0 | cons b m => exact h2 b m) (fun a l iha ihl m => by cases m with | nil => exact h3 a l | cons b m => exact h1 a l b m (iha b) (ihl m)) a

theorem fits_symm : ∀ a b : Ty, a.fits b = b.fits a :=
  Ty.ind2 (q := fun l m => fitsL l m = fitsL m l) (fun k l k' l' h => by
    simp only [Ty.fits, h]
    cases h1 : k == 0 <;> cases h2 : k' == 0 <;> simp
    by_cases h3 : k = k'
    · subst h3; rfl
    · have : ¬ k' = k := fun e => h3 e.symm
      rw [show (k == k') = false by simpa using h3, show (k' == k) = false by simpa using this]) rfl (fun a l b m h1 h2 => by simp [fitsL, h1, h2]) (fun b m => by simp [fitsL]) (fun a l => by simp [fitsL])
theorem fits_refl : ∀ t : Ty, t.fits t = true := by
  intro t
  induction t using Ty.ind with
  | h k l ih =>
    simp only [Ty.fits, beq_self_eq_true, Bool.true_and, Bool.or_eq_true]
    refine .inr ?_
    induction l with
    | nil => rfl
    | cons a l ihl => simp [fitsL, ih a (List.mem_cons_self ..)]; exact ihl fun t ht => ih t (List.mem_cons_of_mem _ ht)
theorem finer_fits : ∀ a b : Ty, a.finer b = true → a.fits b = true :=
  Ty.ind2 (q := fun l m => finerL l m = true → fitsL l m = true) (fun k l k' l' h => by
    simp only [Ty.finer, Ty.fits, Bool.or_eq_true, Bool.and_eq_true]
    rintro (h1 | ⟨h1, h2⟩)
    · exact .inl (.inr h1)
    · exact .inr ⟨h1, h h2⟩) (fun _ => rfl) (fun a l b m h1 h2 => by simp only [finerL, fitsL, Bool.and_eq_true]; exact fun h => ⟨h1 h.1, h2 h.2⟩) (fun b m => by simp [finerL]) (fun a l => by simp [finerL])
theorem sure_fits : ∀ a b : Ty, a.sure = true → a.fits b = a.finer b :=
  Ty.ind2 (q := fun l m => sureL l = true → fitsL l m = finerL l m) (fun k l k' l' h => by
    simp only [Ty.sure, Ty.finer, Ty.fits, Bool.and_eq_true]
    rintro ⟨h1, h2⟩
    have : (k == 0) = false := by simpa using h1
    rw [this, h h2]; simp) (fun _ => rfl) (fun a l b m h1 h2 => by simp only [sureL, finerL, fitsL, Bool.and_eq_true]; exact fun h => by rw [h1 h.1, h2 h.2]) (fun b m _ => by simp [finerL, fitsL]) (fun a l _ => by simp [finerL, fitsL])

theorem fitsL_finerL : ∀ l : List Ty, (∀ t ∈ l, ∀ b c : Ty, t.fits b = true → b.finer c = true → t.fits c = true) → ∀ m n, fitsL l m = true → finerL m n = true → fitsL l n = true
  | [], _, [], [], _, _ => rfl
  | [], _, _ :: _, _, h, _ => by simp [fitsL] at h
  | _ :: _, _, [], _, h, _ => by simp [fitsL] at h
  | [], _, [], _ :: _, _, h => by simp [finerL] at h
  | _ :: _, _, _ :: _, [], _, h => by simp [finerL] at h
  | a :: l, ih, b :: m, c :: n, h1, h2 => by
    simp only [fitsL, finerL, Bool.and_eq_true] at *
    exact ⟨ih a (List.mem_cons_self ..) b c h1.1 h2.1, fitsL_finerL l (fun t ht => ih t (List.mem_cons_of_mem _ ht)) m n h1.2 h2.2⟩
theorem fits_finer : ∀ a b c : Ty, a.fits b = true → b.finer c = true → a.fits c = true := by
  intro a
  induction a using Ty.ind with
  | h k l ih =>
    rintro ⟨k', l'⟩ ⟨k'', l''⟩ h1 h2
    simp only [Ty.fits, Ty.finer, Bool.or_eq_true, Bool.and_eq_true, beq_iff_eq] at *
    rcases h2 with h2 | ⟨h2, h3⟩
    · exact .inl (.inr h2)
    · rcases h1 with (h1 | h1) | ⟨h1, h4⟩
      · exact .inl (.inl h1)
      · exact .inl (.inr (h2 ▸ h1))
      · exact .inr ⟨h1.trans h2, fitsL_finerL l ih _ _ h4 h3⟩
theorem finerL_trans : ∀ l : List Ty, (∀ t ∈ l, ∀ b c : Ty, t.finer b = true → b.finer c = true → t.finer c = true) → ∀ m n, finerL l m = true → finerL m n = true → finerL l n = true
  | [], _, [], [], _, _ => rfl
  | [], _, _ :: _, _, h, _ => by simp [finerL] at h
  | _ :: _, _, [], _, h, _ => by simp [finerL] at h
  | [], _, [], _ :: _, _, h => by simp [finerL] at h
  | _ :: _, _, _ :: _, [], _, h => by simp [finerL] at h
  | a :: l, ih, b :: m, c :: n, h1, h2 => by
    simp only [finerL, Bool.and_eq_true] at *
    exact ⟨ih a (List.mem_cons_self ..) b c h1.1 h2.1, finerL_trans l (fun t ht => ih t (List.mem_cons_of_mem _ ht)) m n h1.2 h2.2⟩
theorem finer_trans : ∀ a b c : Ty, a.finer b = true → b.finer c = true → a.finer c = true := by
  intro a
  induction a using Ty.ind with
  | h k l ih =>
    rintro ⟨k', l'⟩ ⟨k'', l''⟩ h1 h2
    simp only [Ty.finer, Bool.or_eq_true, Bool.and_eq_true, beq_iff_eq] at *
    rcases h2 with h2 | ⟨h2, h3⟩
    · exact .inl h2
    · rcases h1 with h1 | ⟨h1, h4⟩
      · exact .inl (h2 ▸ h1)
      · exact .inr ⟨h1.trans h2, finerL_trans l ih _ _ h4 h3⟩
theorem finer_anti : ∀ (d : Nat) (a b : Ty), a.good d = true → b.good d = true → a.finer b = true → b.finer a = true → a.same b = true
  | 0, a, b, ha, _, _, _ => by cases a; simp [Ty.good] at ha
  | d + 1, a, b, ha, hb, h1, h2 => by
    have ih := finer_anti d
    rcases good_cases ha with rfl | rfl | rfl | ⟨a1, a2, rfl, ha1, ha2⟩ <;> rcases good_cases hb with rfl | rfl | rfl | ⟨b1, b2, rfl, hb1, hb2⟩ <;> simp [Ty.finer, finerL, Ty.same, sameL, Ty.to] at *
    exact ⟨ih a1 b1 ha1 hb1 h1.1 h2.1, ih a2 b2 ha2 hb2 h1.2 h2.2⟩

section
variable {a b c : Ty}
theorem fits_r3 : (a.fits b != b.fits a || !a.fits a || a.finer b && !a.fits b) = false := by
  rw [fits_symm a b, fits_refl a]
  cases h : a.finer b
  · simp
  · have := finer_fits a b h
    rw [fits_symm] at this
    simp [this]
theorem fits_r5 : (a.fits b && b.finer c && !a.fits c || a.sure && a.fits b != a.finer b) = false := by
  cases h1 : a.fits b && b.finer c
  · cases h2 : a.sure
    · simp
    · simp [sure_fits a b h2]
  · simp only [Bool.and_eq_true] at h1
    rw [fits_finer a b c h1.1 h1.2]
    cases h2 : a.sure
    · simp
    · simp [sure_fits a b h2]
theorem fits_r7 (ha : a.good 4 = true) (hb : b.good 4 = true) : ((!a.finer b || !b.finer c || a.finer c) && (!a.finer b || !b.finer a || a.same b)) = true := by
  rw [Bool.and_eq_true]
  constructor
  · cases h1 : a.finer b <;> cases h2 : b.finer c <;> simp
    exact finer_trans a b c h1 h2
  · cases h1 : a.finer b <;> cases h2 : b.finer a <;> simp
    exact finer_anti 4 a b ha hb h1 h2
end

theorem join_len {k k' : Int} {l l' : List Ty} (h : ¬ (k = k' ∧ l.length = l'.length)) : (Ty.mk k l).join (.mk k' l') = .any := by
  simp only [Ty.join, Bool.and_eq_true, beq_iff_eq, if_neg h]; rfl
theorem join_comm : ∀ a b : Ty, a.join b = b.join a :=
  Ty.ind2 (q := fun l m => joinL l m = joinL m l) (fun k l k' l' h => by
    by_cases hc : k = k' ∧ l.length = l'.length
    · obtain ⟨rfl, hl⟩ := hc
      simp [Ty.join, hl, h]
    · rw [join_len hc, join_len fun e => hc ⟨e.1.symm, e.2.symm⟩]) rfl (fun a l b m h1 h2 => by simp [joinL, h1, h2]) (fun b m => by simp [joinL]) (fun a l => by simp [joinL])
theorem join_self : ∀ a : Ty, a.join a = a := by
  intro a
  induction a using Ty.ind with
  | h k l ih =>
    simp only [Ty.join, beq_self_eq_true, Bool.and_self, if_true]
    congr 1
    induction l with
    | nil => rfl
    | cons a l ihl => simp only [joinL]; rw [ih a (List.mem_cons_self ..), ihl fun t ht => ih t (List.mem_cons_of_mem _ ht)]
theorem finer_join : ∀ a b : Ty, a.finer (a.join b) = true :=
  Ty.ind2 (q := fun l m => l.length = m.length → finerL l (joinL l m) = true) (fun k l k' l' h => by
    by_cases hc : k = k' ∧ l.length = l'.length
    · obtain ⟨rfl, hl⟩ := hc
      rw [show (Ty.mk k l).join (.mk k l') = .mk k (joinL l l') by simp [Ty.join, hl], Ty.finer, h hl]; simp
    · rw [join_len hc, Ty.any, Ty.finer]; rfl) (fun _ => rfl) (fun a l b m h1 h2 h => by simp [joinL, finerL, h1, h2 (by simpa using h)]) (fun b m h => by cases h) (fun a l h => by cases h)
theorem join_good : ∀ (d : Nat) (a b : Ty), a.good d = true → b.good d = true → (a.join b).good d = true
  | 0, a, b, ha, _ => by cases a; simp [Ty.good] at ha
  | d + 1, a, b, ha, hb => by
    have ih := join_good d
    rcases good_cases ha with rfl | rfl | rfl | ⟨a1, a2, rfl, ha1, ha2⟩ <;> rcases good_cases hb with rfl | rfl | rfl | ⟨b1, b2, rfl, hb1, hb2⟩ <;> simp [Ty.join, joinL, Ty.to, Ty.good]
    exact ⟨ih a1 b1 ha1 hb1, ih a2 b2 ha2 hb2⟩
theorem finerL_len' : ∀ {l m : List Ty}, finerL l m = true → l.length = m.length
  | [], [], _ => rfl
  | _ :: l, _ :: m, h => by simp only [finerL, Bool.and_eq_true] at h; simp [finerL_len' h.2]
  | [], _ :: _, h => by simp [finerL] at h
  | _ :: _, [], h => by simp [finerL] at h
theorem joinL_finerL : ∀ l : List Ty, (∀ t ∈ l, ∀ b c : Ty, t.finer c = true → b.finer c = true → (t.join b).finer c = true) → ∀ m n, finerL l n = true → finerL m n = true → finerL (joinL l m) n = true
  | [], _, [], [], _, _ => rfl
  | [], _, _, _ :: _, h, _ => by simp [finerL] at h
  | _ :: _, _, _, [], h, _ => by simp [finerL] at h
  | _, _, [], _ :: _, _, h => by simp [finerL] at h
  | _, _, _ :: _, [], _, h => by simp [finerL] at h
  | a :: l, ih, b :: m, c :: n, h1, h2 => by
    simp only [joinL, finerL, Bool.and_eq_true] at *
    exact ⟨ih a (List.mem_cons_self ..) b c h1.1 h2.1, joinL_finerL l (fun t ht => ih t (List.mem_cons_of_mem _ ht)) m n h1.2 h2.2⟩
theorem join_least : ∀ a b c : Ty, a.finer c = true → b.finer c = true → (a.join b).finer c = true := by
  intro a
  induction a using Ty.ind with
  | h k l ih =>
    rintro ⟨k', l'⟩ ⟨k'', l''⟩ h1 h2
    simp only [Ty.finer, Bool.or_eq_true, Bool.and_eq_true, beq_iff_eq] at h1 h2
    rcases h1 with h1 | ⟨h1, h3⟩
    · rw [finer_eta]; simp [h1]
    · rcases h2 with h2 | ⟨h2, h4⟩
      · rw [finer_eta]; simp [h2]
      · subst h1 h2
        have e1 := finerL_len' h3
        have e2 := finerL_len' h4
        simp only [Ty.join, beq_self_eq_true, e1, e2, Bool.and_self, if_true, Ty.finer, Bool.true_and, Bool.or_eq_true]
        exact .inr (joinL_finerL l ih _ _ h3 h4)
section
variable {a b c : Ty}
theorem joins_r4 (ha : a.good 4 = true) (hb : b.good 4 = true) : (!(a.join b).good 4 || !a.finer (a.join b) || !b.finer (a.join b) || !(a.join b).same (b.join a) || !(a.join a).same a) = false := by
  rw [join_good 4 a b ha hb, finer_join a b, join_self, same_refl]
  rw [join_comm a b, finer_join b a, same_refl]
  rfl
theorem joins_r6 : (!a.finer c || !b.finer c || (a.join b).finer c) = true := by
  cases h1 : a.finer c <;> cases h2 : b.finer c <;> simp
  exact join_least a b c h1 h2
theorem thin_good : ∀ (d : Nat) (a : Ty), a.good d = true → Thin a
  | 0, a, ha => by cases a; simp [Ty.good] at ha
  | d + 1, a, ha => by
    have ih := thin_good d
    rcases good_cases ha with rfl | rfl | rfl | ⟨a1, a2, rfl, ha1, ha2⟩
    · exact .mk _ _ (by simp) (by simp)
    · exact .mk _ _ (by simp) (by simp)
    · exact .mk _ _ (by simp) (by simp)
    · exact .mk _ _ (by simp) (by simpa using ⟨ih _ ha1, ih _ ha2⟩)
end
end Go.Proofs.Ytnflnbdlgdjfmaa
