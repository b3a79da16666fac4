/-
  A term's casts; a term without casts and types: what is computed, on trees. Conditions: none.
-/
import Derived.Test.YtnflnbdlgdjfmaaDoorChkP
namespace Go.Proofs.YtnflnbdlgdjfmaaDoor
set_option linter.unusedVariables false
set_option linter.unusedSimpArgs false

mutual
/-- A term without casts and types. -/
def eraseT : Tm → Tm
  | .mk k n t f l => if (k == 10 || k == 9) && l.length == 1 then eraseH l else .mk k n .any .any (eraseL l)
def eraseL : List Tm → List Tm
  | [] => []
  | a :: l => eraseT a :: eraseL l
def eraseH : List Tm → Tm
  | [] => .zero
  | a :: _ => eraseT a
end
theorem eraseL_map : ∀ l : List Tm, eraseL l = l.map eraseT
  | [] => rfl
  | a :: l => by simp [eraseL, eraseL_map l]
theorem erase_as {n : Int} {t f : Ty} {a : Tm} : eraseT (.mk 9 n t f [a]) = eraseT a := by simp [eraseT, eraseH]
theorem erase_cast {n : Int} {t f : Ty} {a : Tm} : eraseT (.mk 10 n t f [a]) = eraseT a := by simp [eraseT, eraseH]
theorem erase_node {k n : Int} {t f : Ty} {l : List Tm} (h9 : k ≠ 9) (h10 : k ≠ 10) : eraseT (.mk k n t f l) = .mk k n .any .any (eraseL l) := by simp [eraseT, h9, h10]

theorem eraseT_one {a b : Tm} (h : (a.k == 10 || a.k == 9) && a.l.length == 1) (hl : a.l = [b]) : eraseT a = eraseT b := by
  obtain ⟨k, n, t, f, l⟩ := a
  simp only [Tm.k_mk, Tm.l_mk] at h hl
  subst hl
  rw [eraseT, if_pos h, eraseH]
theorem eraseT_all {a : Tm} (h : ((a.k == 10 || a.k == 9) && a.l.length == 1) = false) : eraseT a = .mk a.k a.n .any .any (eraseL a.l) := by
  obtain ⟨k, n, t, f, l⟩ := a
  simp only [Tm.k_mk, Tm.l_mk, Tm.n_mk] at h ⊢
  rw [eraseT, if_neg (by rw [h]; simp)]
theorem eraseL_take {l : List Tm} {i : Nat} (h : i < l.length) : eraseL (l.take (i + 1)) = eraseL (l.take i) ++ [eraseT l[i]] := by
  rw [eraseL_map, eraseL_map, List.take_add_one, List.getElem?_eq_getElem h, Option.toList_some, List.map_append]; rfl
theorem eraseL_length (l : List Tm) : (eraseL l).length = l.length := by rw [eraseL_map, List.length_map]

/-- Where something is cast: which term it is, from which type, to which. -/
structure Site where
  n : Int
  f : Ty
  t : Ty
def Site.c (s : Site) : List C := [.int .i64 s.n, .int .i64 s.f.k, slOf 2 (tyRows s.f.l), .int .i64 s.t.k, slOf 2 (tyRows s.t.l)]
def siteRows (l : List Site) : List (List C) := l.map Site.c
mutual
/-- The casts of a term, as one reads it. -/
def sitesT : Tm → List Site
  | .mk k n t f l => (if k == 10 then [⟨n, f, t⟩] else []) ++ sitesL l
def sitesL : List Tm → List Site
  | [] => []
  | a :: l => sitesT a ++ sitesL l
end
def ownSite (a : Tm) : List Site := if a.k == 10 then [⟨a.n, a.f, a.t⟩] else []
theorem sitesT_eta (a : Tm) : sitesT a = ownSite a ++ sitesL a.l := by cases a; simp [sitesT, ownSite]
theorem sitesL_append (l m : List Tm) : sitesL (l ++ m) = sitesL l ++ sitesL m := by
  induction l with
  | nil => simp [sitesL]
  | cons a l ih => simp [sitesL, ih]
theorem sitesL_take {l : List Tm} {i : Nat} (h : i < l.length) : sitesL (l.take (i + 1)) = sitesL (l.take i) ++ sitesT l[i] := by
  rw [List.take_add_one, List.getElem?_eq_getElem h, sitesL_append]; simp [sitesL]
theorem sites_len : ∀ a : Tm, (sitesT a).length ≤ a.nodes := fun a => by
  induction a using Tm.ind' with
  | h a ih =>
  rw [sitesT_eta, nodes_eta, List.length_append]
  have h1 : (ownSite a).length ≤ 1 := by unfold ownSite; split <;> simp
  have h2 : ∀ l : List Tm, (∀ x ∈ l, (sitesT x).length ≤ x.nodes) → (sitesL l).length ≤ nodesL l := by
    intro l
    induction l with
    | nil => simp [sitesL]
    | cons b l ihl =>
      intro h
      have h1 := h b (List.mem_cons_self ..)
      have h2 := ihl fun x hx => h x (List.mem_cons_of_mem _ hx)
      simp only [sitesL, nodesL, List.length_append]; omega
  have := h2 a.l ih
  omega
theorem siteRows_append (l m : List Site) : siteRows (l ++ m) = siteRows l ++ siteRows m := List.map_append ..
theorem siteRows_len5 (l : List Site) : ∀ r ∈ siteRows l, r.length = 5 := fun r hr => by
  obtain ⟨a, _, rfl⟩ := List.mem_map.1 hr
  rfl
/-- What Check answers. -/
def checkU (a : Tm) : U := if a.Good 0 then walkU (walkT a [] 0) else errU 1
end Go.Proofs.YtnflnbdlgdjfmaaDoor
