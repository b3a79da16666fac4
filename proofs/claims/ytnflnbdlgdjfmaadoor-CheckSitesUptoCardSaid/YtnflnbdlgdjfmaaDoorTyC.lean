/-
  Types as trees; as cells; what the functions on types compute, on trees. Conditions: none.
-/
import Derived.Test.YtnflnbdlgdjfmaaDoorC
namespace Go.Proofs.YtnflnbdlgdjfmaaDoor
set_option linter.unusedVariables false

/-- A type: its kind, its parts. -/
inductive Ty where
  | mk (k : Int) (l : List Ty)

def Ty.k : Ty → Int | .mk k _ => k
def Ty.l : Ty → List Ty | .mk _ l => l
theorem Ty.eta (t : Ty) : Ty.mk t.k t.l = t := by cases t; rfl
@[simp] theorem Ty.k_mk (k : Int) (l : List Ty) : (Ty.mk k l).k = k := rfl
@[simp] theorem Ty.l_mk (k : Int) (l : List Ty) : (Ty.mk k l).l = l := rfl

/-- Induction over a type and its parts. -/
theorem Ty.ind {p : Ty → Prop} (h : ∀ k l, (∀ t ∈ l, p t) → p (.mk k l)) : ∀ t, p t :=
  fun t => Ty.rec (motive_1 := p) (motive_2 := fun l => ∀ t ∈ l, p t) (fun k l ih => h k l ih) (fun _ h => by cases h)
    (fun a l ha hl t ht => by
      rcases List.mem_cons.1 ht with rfl | ht
      · exact ha
      · exact hl t ht) t

theorem Ty.ind' {p : Ty → Prop} (h : ∀ a, (∀ t ∈ a.l, p t) → p a) : ∀ t, p t := Ty.ind fun k l ih => h (.mk k l) ih

mutual
def Ty.cells : Ty → List C
  | .mk k l => [.int .i64 k, slOf 2 (tyRows l)]
def tyRows : List Ty → List (List C)
  | [] => []
  | a :: l => Ty.cells a :: tyRows l
end
/-- A type's two cells. -/
def Ty.c (t : Ty) : List C := [.int .i64 t.k, slOf 2 (tyRows t.l)]
theorem Ty.cells_c (t : Ty) : t.cells = t.c := by cases t; simp [Ty.cells, Ty.c]
theorem tyRows_map : ∀ l : List Ty, tyRows l = l.map Ty.c
  | [] => by simp [tyRows]
  | a :: l => by simp [tyRows, Ty.cells_c, tyRows_map l]
theorem tyRows_length (l : List Ty) : (tyRows l).length = l.length := by rw [tyRows_map, List.length_map]
theorem tyRows_get {l : List Ty} {i : Nat} (h : i < l.length) : (tyRows l)[i]? = some (l[i].c) := by rw [tyRows_map]; simp [h]
theorem tyRows_append (l m : List Ty) : tyRows (l ++ m) = tyRows l ++ tyRows m := by simp [tyRows_map]
theorem int_ne_of {a b : Nat} (h : (((a : Int) != (b : Int)) = true)) : a ≠ b := fun e => by subst e; simp at h
theorem int_eq_of {a b : Nat} (h : (((a : Int) != (b : Int)) = false)) : a = b := by simp at h; omega
/-- A type, as a value. -/
def Ty.u (t : Ty) : U := .agg t.c
mutual
def Ty.same : Ty → Ty → Bool
  | .mk k l, .mk k' l' => k == k' && sameL l l'
def sameL : List Ty → List Ty → Bool
  | [], [] => true
  | a :: l, b :: m => Ty.same a b && sameL l m
  | [], _ :: _ => false
  | _ :: _, [] => false
end
mutual
def Ty.fits : Ty → Ty → Bool
  | .mk k l, .mk k' l' => k == 0 || k' == 0 || (k == k' && fitsL l l')
def fitsL : List Ty → List Ty → Bool
  | [], [] => true
  | a :: l, b :: m => Ty.fits a b && fitsL l m
  | [], _ :: _ => false
  | _ :: _, [] => false
end
mutual
def Ty.finer : Ty → Ty → Bool
  | .mk k l, .mk k' l' => k' == 0 || (k == k' && finerL l l')
def finerL : List Ty → List Ty → Bool
  | [], [] => true
  | a :: l, b :: m => Ty.finer a b && finerL l m
  | [], _ :: _ => false
  | _ :: _, [] => false
end
mutual
def Ty.join : Ty → Ty → Ty
  | .mk k l, .mk k' l' => if k == k' && l.length == l'.length then .mk k (joinL l l') else .mk 0 []
def joinL : List Ty → List Ty → List Ty
  | a :: l, b :: m => Ty.join a b :: joinL l m
  | [], _ => []
  | _ :: _, [] => []
end
mutual
def Ty.sure : Ty → Bool
  | .mk k l => k != 0 && sureL l
def sureL : List Ty → Bool
  | [] => true
  | a :: l => Ty.sure a && sureL l
end
/-- How many more may be within. -/
def Ty.good : Nat → Ty → Bool
  | 0, _ => false
  | d + 1, .mk k l => (0 ≤ k && k ≤ 3) && (if k != 3 then l.length == 0 else match l with | [a, b] => Ty.good d a && Ty.good d b | _ => false)
def Ty.any : Ty := .mk 0 []
def Ty.to (a b : Ty) : Ty := .mk 3 [a, b]
def Ty.ground (t : Ty) : Ty := if t.k == 3 then .to .any .any else .mk t.k []
def Ty.plain (t : Ty) : Bool := t.k == 1 || t.k == 2 || (t.k == 3 && match t.l with | [a, b] => a.k == 0 && b.k == 0 | _ => false)

theorem same_eta (a b : Ty) : a.same b = (a.k == b.k && sameL a.l b.l) := by cases a; cases b; simp [Ty.same]
theorem fits_eta (a b : Ty) : a.fits b = (a.k == 0 || b.k == 0 || (a.k == b.k && fitsL a.l b.l)) := by cases a; cases b; simp [Ty.fits]
theorem finer_eta (a b : Ty) : a.finer b = (b.k == 0 || (a.k == b.k && finerL a.l b.l)) := by cases a; cases b; simp [Ty.finer]
theorem sure_eta (a : Ty) : a.sure = (a.k != 0 && sureL a.l) := by cases a; simp [Ty.sure]

theorem sameL_len : ∀ {l m : List Ty}, l.length ≠ m.length → sameL l m = false
  | [], [], h => absurd rfl h
  | a :: l, b :: m, h => by simp [sameL, sameL_len (l := l) (m := m) (by simpa using h)]
  | [], _ :: _, _ => by simp [sameL]
  | _ :: _, [], _ => by simp [sameL]
theorem fitsL_len : ∀ {l m : List Ty}, l.length ≠ m.length → fitsL l m = false
  | [], [], h => absurd rfl h
  | a :: l, b :: m, h => by simp [fitsL, fitsL_len (l := l) (m := m) (by simpa using h)]
  | [], _ :: _, _ => by simp [fitsL]
  | _ :: _, [], _ => by simp [fitsL]
theorem finerL_len : ∀ {l m : List Ty}, l.length ≠ m.length → finerL l m = false
  | [], [], h => absurd rfl h
  | a :: l, b :: m, h => by simp [finerL, finerL_len (l := l) (m := m) (by simpa using h)]
  | [], _ :: _, _ => by simp [finerL]
  | _ :: _, [], _ => by simp [finerL]

/-- No list in it is longer than 2^20. -/
inductive Thin : Ty → Prop
  | mk (k : Int) (l : List Ty) (hl : l.length ≤ 1048576) (h : ∀ t ∈ l, Thin t) : Thin (.mk k l)
theorem Thin.len {k : Int} {l : List Ty} (h : Thin (.mk k l)) : l.length ≤ 1048576 := by cases h; assumption
theorem Thin.part {k : Int} {l : List Ty} (h : Thin (.mk k l)) : ∀ t ∈ l, Thin t := by cases h; assumption

theorem joinL_length : ∀ {l m : List Ty}, l.length = m.length → (joinL l m).length = l.length
  | [], [], _ => by simp [joinL]
  | a :: l, b :: m, h => by simp [joinL, joinL_length (l := l) (m := m) (by simpa using h)]
  | [], _ :: _, h => by cases h
  | _ :: _, [], h => by cases h
theorem joinL_get : ∀ {l m : List Ty} {i : Nat} (hl : i < l.length) (hm : i < m.length), (joinL l m)[i]? = some (l[i].join m[i])
  | a :: l, b :: m, 0, _, _ => by simp [joinL]
  | a :: l, b :: m, i + 1, hl, hm => by simp [joinL]; exact joinL_get (by simpa using hl) (by simpa using hm)
  | [], _, _, hl, _ => by cases hl
  | _ :: _, [], _, _, hm => by cases hm
theorem joinL_take {l m : List Ty} {i : Nat} (hl : i < l.length) (hm : i < m.length) : (joinL l m).take (i + 1) = (joinL l m).take i ++ [l[i].join m[i]] := by
  rw [List.take_add_one, joinL_get hl hm]; rfl

/-- One step of a loop over both lists. -/
theorem sameL_drop {l m : List Ty} {i : Nat} (hl : i < l.length) (hm : i < m.length) : sameL (l.drop i) (m.drop i) = (l[i].same m[i] && sameL (l.drop (i + 1)) (m.drop (i + 1))) := by
  rw [List.drop_eq_getElem_cons hl, List.drop_eq_getElem_cons hm]; simp [sameL]
theorem fitsL_drop {l m : List Ty} {i : Nat} (hl : i < l.length) (hm : i < m.length) : fitsL (l.drop i) (m.drop i) = (l[i].fits m[i] && fitsL (l.drop (i + 1)) (m.drop (i + 1))) := by
  rw [List.drop_eq_getElem_cons hl, List.drop_eq_getElem_cons hm]; simp [fitsL]
theorem finerL_drop {l m : List Ty} {i : Nat} (hl : i < l.length) (hm : i < m.length) : finerL (l.drop i) (m.drop i) = (l[i].finer m[i] && finerL (l.drop (i + 1)) (m.drop (i + 1))) := by
  rw [List.drop_eq_getElem_cons hl, List.drop_eq_getElem_cons hm]; simp [finerL]
theorem sureL_drop {l : List Ty} {i : Nat} (hl : i < l.length) : sureL (l.drop i) = (l[i].sure && sureL (l.drop (i + 1))) := by
  rw [List.drop_eq_getElem_cons hl]; simp [sureL]
end Go.Proofs.YtnflnbdlgdjfmaaDoor
