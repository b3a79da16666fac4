/-
  Terms as trees; as cells; what the functions on terms compute, on trees. Conditions: none.
-/
import Derived.Test.YtnflnbdlgdjfmaaDoorTyC
import Derived.Test.YtnflnbdlgdjfmaaDoorGl
namespace Go.Proofs.YtnflnbdlgdjfmaaDoor
set_option linter.unusedVariables false

/-- A term: its kind, its number, its type, the type it is cast from, its parts. -/
inductive Tm where
  | mk (k n : Int) (t f : Ty) (l : List Tm)

def Tm.k : Tm → Int | .mk k _ _ _ _ => k
def Tm.n : Tm → Int | .mk _ n _ _ _ => n
def Tm.t : Tm → Ty | .mk _ _ t _ _ => t
def Tm.f : Tm → Ty | .mk _ _ _ f _ => f
def Tm.l : Tm → List Tm | .mk _ _ _ _ l => l
@[simp] theorem Tm.k_mk (k n : Int) (t f : Ty) (l : List Tm) : (Tm.mk k n t f l).k = k := rfl
@[simp] theorem Tm.n_mk (k n : Int) (t f : Ty) (l : List Tm) : (Tm.mk k n t f l).n = n := rfl
@[simp] theorem Tm.t_mk (k n : Int) (t f : Ty) (l : List Tm) : (Tm.mk k n t f l).t = t := rfl
@[simp] theorem Tm.f_mk (k n : Int) (t f : Ty) (l : List Tm) : (Tm.mk k n t f l).f = f := rfl
@[simp] theorem Tm.l_mk (k n : Int) (t f : Ty) (l : List Tm) : (Tm.mk k n t f l).l = l := rfl
theorem Tm.eta (t : Tm) : Tm.mk t.k t.n t.t t.f t.l = t := by cases t; rfl

/-- Induction over a term and its parts. -/
theorem Tm.ind' {p : Tm → Prop} (h : ∀ a, (∀ t ∈ a.l, p t) → p a) : ∀ t, p t :=
  fun t => Tm.rec (motive_1 := p) (motive_2 := fun l => ∀ t ∈ l, p t) (fun k n t f l ih => h (.mk k n t f l) ih) (fun _ h => by cases h)
    (fun a l ha hl t ht => by
      rcases List.mem_cons.1 ht with rfl | ht
      · exact ha
      · exact hl t ht) t

mutual
def Tm.cells : Tm → List C
  | .mk k n t f l => [.int .i64 k, .int .i64 n, .int .i64 t.k, slOf 2 (tyRows t.l), .int .i64 f.k, slOf 2 (tyRows f.l), slOf 7 (tmRows l)]
def tmRows : List Tm → List (List C)
  | [] => []
  | a :: l => Tm.cells a :: tmRows l
end
/-- A term's seven cells. -/
def Tm.c (t : Tm) : List C := [.int .i64 t.k, .int .i64 t.n, .int .i64 t.t.k, slOf 2 (tyRows t.t.l), .int .i64 t.f.k, slOf 2 (tyRows t.f.l), slOf 7 (tmRows t.l)]
def Tm.u (t : Tm) : U := .agg t.c
theorem Tm.cells_c (t : Tm) : t.cells = t.c := by cases t; simp [Tm.cells, Tm.c]
theorem tmRows_map : ∀ l : List Tm, tmRows l = l.map Tm.c
  | [] => by simp [tmRows]
  | a :: l => by simp [tmRows, Tm.cells_c, tmRows_map l]
theorem tmRows_length (l : List Tm) : (tmRows l).length = l.length := by rw [tmRows_map, List.length_map]
theorem tmRows_get {l : List Tm} {i : Nat} (h : i < l.length) : (tmRows l)[i]? = some (l[i].c) := by rw [tmRows_map]; simp [h]
theorem tmRows_append (l m : List Tm) : tmRows (l ++ m) = tmRows l ++ tmRows m := by simp [tmRows_map]
theorem tmRows_len7 (l : List Tm) : ∀ r ∈ tmRows l, r.length = 7 := fun r hr => by
  rw [tmRows_map] at hr
  obtain ⟨a, _, rfl⟩ := List.mem_map.1 hr
  rfl

mutual
/-- How many terms there are in it, itself too. -/
def Tm.nodes : Tm → Nat
  | .mk _ _ _ _ l => 1 + nodesL l
def nodesL : List Tm → Nat
  | [] => 0
  | a :: l => Tm.nodes a + nodesL l
end
theorem nodes_eta (t : Tm) : t.nodes = 1 + nodesL t.l := by cases t; simp [Tm.nodes]
theorem nodesL_append (l m : List Tm) : nodesL (l ++ m) = nodesL l + nodesL m := by
  induction l with
  | nil => simp [nodesL]
  | cons a l ih => simp [nodesL, ih]; omega
theorem nodesL_take {l : List Tm} {i : Nat} (h : i < l.length) : nodesL (l.take (i + 1)) = nodesL (l.take i) + l[i].nodes := by
  rw [List.take_add_one, List.getElem?_eq_getElem h, Option.toList_some, nodesL_append]; simp [nodesL]
theorem nodesL_take_le (l : List Tm) (i : Nat) : nodesL (l.take i) ≤ nodesL l := by
  have := nodesL_append (l.take i) (l.drop i)
  rw [List.take_append_drop] at this; omega
theorem nodes_mem {l : List Tm} {a : Tm} (h : a ∈ l) : a.nodes ≤ nodesL l := by
  induction l with
  | nil => cases h
  | cons b l ih =>
    simp only [nodesL]
    rcases List.mem_cons.1 h with rfl | h
    · omega
    · have := ih h; omega
theorem nodes_pos (t : Tm) : 1 ≤ t.nodes := by rw [nodes_eta]; omega
theorem nodesL_len (l : List Tm) : l.length ≤ nodesL l := by
  induction l with
  | nil => simp
  | cons a l ih => simp only [List.length_cons, nodesL]; have := nodes_pos a; omega

mutual
def Tm.same : Tm → Tm → Bool
  | .mk k n t f l, .mk k' n' t' f' l' => k == k' && n == n' && t.same t' && f.same f' && sameTL l l'
def sameTL : List Tm → List Tm → Bool
  | [], [] => true
  | a :: l, b :: m => Tm.same a b && sameTL l m
  | [], _ :: _ => false
  | _ :: _, [] => false
end
theorem sameT_eta (a b : Tm) : a.same b = (a.k == b.k && a.n == b.n && a.t.same b.t && a.f.same b.f && sameTL a.l b.l) := by cases a; cases b; simp [Tm.same]
theorem sameTL_len : ∀ {l m : List Tm}, l.length ≠ m.length → sameTL l m = false
  | [], [], h => absurd rfl h
  | a :: l, b :: m, h => by simp [sameTL, sameTL_len (l := l) (m := m) (by simpa using h)]
  | [], _ :: _, _ => by simp [sameTL]
  | _ :: _, [], _ => by simp [sameTL]
theorem sameTL_drop {l m : List Tm} {i : Nat} (hl : i < l.length) (hm : i < m.length) : sameTL (l.drop i) (m.drop i) = (l[i].same m[i] && sameTL (l.drop (i + 1)) (m.drop (i + 1))) := by
  rw [List.drop_eq_getElem_cons hl, List.drop_eq_getElem_cons hm]; simp [sameTL]

/-- How many parts a term of a kind has. -/
def arity (k : Int) : Int := [0, 0, 0, 0, 2, 2, 3, 1, 2, 1].getD k.toNat 0
/-- Is its number one? -/
def Tm.num (t : Tm) (around own : Int) : Bool :=
  if t.k == 1 then decide (t.n ≥ 0) && decide (t.n - own < around)
  else if t.k == 2 then decide (t.n ≥ -1000000) && decide (t.n ≤ 1000000)
  else if t.k == 3 then t.n == 0 || t.n == 1
  else t.n == 0
/-- What is asked of a term without its parts. -/
def Tm.fit (t : Tm) (around own : Int) : Bool :=
  !(decide (t.k < 1)) && !(decide (t.k > 9)) && ((t.l.length : Int) == arity t.k) && t.f.same .any && (if t.k == 7 || t.k == 9 then t.t.good 4 else t.t.same .any) && t.num around own
mutual
def Tm.good : Tm → Int → Int → Bool
  | .mk k n t f l, ar, ow => (Tm.mk k n t f l).fit ar ow && goodL l ar (if k == 7 then ow + 1 else ow)
def goodL : List Tm → Int → Int → Bool
  | [], _, _ => true
  | a :: l, ar, ow => Tm.good a ar ow && goodL l ar ow
end
theorem goodT_eta (t : Tm) (ar ow : Int) : t.good ar ow = (t.fit ar ow && goodL t.l ar (if t.k == 7 then ow + 1 else ow)) := by cases t; simp [Tm.good]
theorem goodL_drop {l : List Tm} {i : Nat} (h : i < l.length) (ar ow : Int) : goodL (l.drop i) ar ow = (l[i].good ar ow && goodL (l.drop (i + 1)) ar ow) := by
  rw [List.drop_eq_getElem_cons h]; simp [goodL]
/-- Is it a term, within so many functions? -/
def Tm.Good (t : Tm) (around : Int) : Bool := decide ((t.nodes : Int) ≤ 40) && t.good around 0
/-- The numbers are ints; the types' lists are not too long. -/
inductive TmOk : Tm → Prop
  | mk {t : Tm} (hn : t.n ≤ 9223372036854775807) (ht : Thin t.t) (hf : Thin t.f) (hl : ∀ x ∈ t.l, TmOk x) : TmOk t
theorem TmOk.n {t : Tm} (h : TmOk t) : t.n ≤ 9223372036854775807 := by cases h; assumption
theorem TmOk.t {t : Tm} (h : TmOk t) : Thin t.t := by cases h; assumption
theorem TmOk.f {t : Tm} (h : TmOk t) : Thin t.f := by cases h; assumption
theorem TmOk.l {t : Tm} (h : TmOk t) : ∀ x ∈ t.l, TmOk x := by cases h; assumption
theorem arity_at {k : Int} (h1 : decide (k < 1) = false) (h9 : decide (k > 9) = false) : arityC[k.toNat * 1]? = some (.int .i64 (arity k)) := by
  simp at h1 h9
  obtain ⟨n, rfl⟩ : ∃ n : Nat, k = n := ⟨k.toNat, by omega⟩
  have : n < 10 := by omega
  match n, this with
  | 0, _ | 1, _ | 2, _ | 3, _ | 4, _ | 5, _ | 6, _ | 7, _ | 8, _ | 9, _ => rfl
end Go.Proofs.YtnflnbdlgdjfmaaDoor
