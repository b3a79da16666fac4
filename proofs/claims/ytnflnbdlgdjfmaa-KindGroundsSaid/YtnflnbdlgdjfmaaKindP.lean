/-
  Plain laws of types. Conditions: none.
-/
import Derived.Test.YtnflnbdlgdjfmaaKindS
namespace Go.Proofs.Ytnflnbdlgdjfmaa
set_option linter.unusedVariables false

theorem good_k {d : Nat} {t : Ty} (h : t.good d = true) : 0 ≤ t.k ∧ t.k ≤ 3 := by
  cases d with
  | zero => cases t; simp [Ty.good] at h
  | succ d => cases t; simp [Ty.good] at h; exact ⟨h.1.1, h.1.2⟩
theorem good_three {d : Nat} {k : Int} {l : List Ty} (h : (Ty.mk k l).good (d + 1) = true) (hk : k = 3) : ∃ a b, l = [a, b] ∧ a.good d = true ∧ b.good d = true := by
  subst hk
  simp only [Ty.good] at h
  match l, h with
  | [a, b], h => simp at h; exact ⟨a, b, rfl, h.1, h.2⟩
theorem good_other {d : Nat} {k : Int} {l : List Ty} (h : (Ty.mk k l).good (d + 1) = true) (hk : k ≠ 3) : l = [] := by
  simp [Ty.good, hk] at h
  exact h.2
/-- A good type is one of four. -/
theorem good_cases {d : Nat} {t : Ty} (h : t.good (d + 1) = true) : t = .mk 0 [] ∨ t = .mk 1 [] ∨ t = .mk 2 [] ∨ ∃ a b, t = .to a b ∧ a.good d = true ∧ b.good d = true := by
  obtain ⟨k, l⟩ := t
  by_cases hk : k = 3
  · obtain ⟨a, b, rfl, ha, hb⟩ := good_three h hk
    subst hk
    exact .inr (.inr (.inr ⟨a, b, rfl, ha, hb⟩))
  · obtain rfl := good_other h hk
    have := good_k h
    simp only [Ty.k_mk] at this
    have : k = 0 ∨ k = 1 ∨ k = 2 := by omega
    rcases this with rfl | rfl | rfl <;> simp

theorem same_refl : ∀ t : Ty, t.same t = true := by
  intro t
  induction t using Ty.ind with
  | h k l ih =>
    simp [Ty.same]
    induction l with
    | nil => rfl
    | cons a l ihl => simp [sameL, ih a (List.mem_cons_self ..)]; exact ihl fun t ht => ih t (List.mem_cons_of_mem _ ht)

section
variable {t : Ty} (h : t.good 4 = true) (hk : t.k ≠ 0)
include h hk
theorem grounds_plain : t.ground.plain = true := by
  rcases good_cases h with rfl | rfl | rfl | ⟨a, b, rfl, _⟩ <;> simp_all [Ty.ground, Ty.plain, Ty.to, Ty.any]
theorem grounds_finer : t.finer t.ground = true := by
  rcases good_cases h with rfl | rfl | rfl | ⟨a, b, rfl, _⟩ <;> simp_all [Ty.ground, Ty.finer, finerL, Ty.to, Ty.any, finer_eta]
theorem grounds_k : t.ground.k = t.k := by
  rcases good_cases h with rfl | rfl | rfl | ⟨a, b, rfl, _⟩ <;> simp_all [Ty.ground, Ty.to]
theorem grounds_same : t.ground.ground.same t.ground = true := by
  rcases good_cases h with rfl | rfl | rfl | ⟨a, b, rfl, _⟩ <;> simp_all [Ty.ground, Ty.to, same_refl]
end
end Go.Proofs.Ytnflnbdlgdjfmaa
