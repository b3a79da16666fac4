/-
  What the checker computes, on trees. Conditions: none.
-/
import Derived.Test.YtnflnbdlgdjfmaaDoorTmC
namespace Go.Proofs.YtnflnbdlgdjfmaaDoor
set_option linter.unusedVariables false

def inB (n : Int) : Bool := decide (-1000000 ≤ n) && decide (n ≤ 1000000)
theorem inB_iff {n : Int} : inB n = true ↔ -1000000 ≤ n ∧ n ≤ 1000000 := by simp [inB]
def Ty.num : Ty := .mk 1 []
def Ty.truth : Ty := .mk 2 []
/-- The term of nothing: what errors come with. -/
def Tm.zero : Tm := .mk 0 0 .any .any []
/-- A term of some type, as of another one. -/
def asT (t : Tm) (frm to : Ty) (at' : Int) : Tm := if frm.same to then t else .mk 10 at' to frm [t]
/-- A part that has been checked. -/
structure Kid where
  t : Tm
  k : Ty
  at' : Int
def Kid.c (x : Kid) : List C := x.t.c ++ x.k.c ++ [.int .i64 x.at']
def Kid.u (x : Kid) : U := .agg x.c
def kidRows (l : List Kid) : List (List C) := l.map Kid.c
/-- A part as of a type, if it fits. -/
def Kid.to (x : Kid) (w : Ty) : Option Tm := if x.k.fits w then some (asT x.t x.k w x.at') else none
/-- What is wanted of the parts, and what comes of them. -/
def wants (t : Tm) (ks : List Kid) : Option (List Ty × Ty) :=
  if t.k == 4 then some ([.num, .num], .num)
  else if t.k == 5 then some ([.num, .num], .truth)
  else if t.k == 6 then
    match ks with
    | [_, a, b] => if a.k.fits b.k then some ([.truth, a.k.join b.k, a.k.join b.k], a.k.join b.k) else none
    | _ => none
  else if t.k == 7 then
    match ks with
    | [a] => some ([a.k], .to t.t a.k)
    | _ => none
  else if t.k == 8 then
    match ks with
    | [f, _] =>
      let g := if f.k.k == 0 then (Ty.mk 3 []).ground else f.k
      if g.k == 3 then match g.l with | [a, b] => some ([g, a], b) | _ => none else none
    | _ => none
  else if t.k == 9 then some ([t.t], t.t)
  else none
/-- The parts, each as what is wanted. -/
def casts : List Kid → List Ty → Option (List Tm)
  | [], _ => some []
  | x :: xs, w :: ws => match x.to w with | none => none | some y => (casts xs ws).map (y :: ·)
  | _ :: _, [] => none
mutual
/-- A term with its casts, and its type; env: what functions around it take, the inmost last; n: how many terms came before. -/
def walkT : Tm → List Ty → Int → Option (Tm × Ty)
  | .mk k n t f l, env, at' =>
    if k == 1 then some (.mk k n t f l, env.getD (env.length - 1 - n.toNat) .any)
    else if k == 2 then some (.mk k n t f l, .num)
    else if k == 3 then some (.mk k n t f l, .truth)
    else
      match walkL l (if k == 7 then env ++ [t] else env) (at' + 1) with
      | none => none
      | some ks =>
        match wants (.mk k n t f l) ks with
        | none => none
        | some (ws, out) => (casts ks ws).map fun l' => (.mk k n t f l', out)
def walkL : List Tm → List Ty → Int → Option (List Kid)
  | [], _, _ => some []
  | a :: l, env, at' =>
    match walkT a env at' with
    | none => none
    | some (x, k) => (walkL l env (at' + a.nodes)).map (⟨x, k, at'⟩ :: ·)
end
mutual
/-- What has been counted when a term has been walked, or refused. -/
def walkM : Tm → List Ty → Int → Int
  | .mk k n t f l, env, at' => if k == 1 || k == 2 || k == 3 then at' + 1 else walkML l (if k == 7 then env ++ [t] else env) (at' + 1)
def walkML : List Tm → List Ty → Int → Int
  | [], _, at' => at'
  | a :: l, env, at' => match walkT a env at' with | none => walkM a env at' | some _ => walkML l env (at' + a.nodes)
end
/-- What the walk answers. -/
def errU (e : Int) : U := .tup [Tm.zero.u, Ty.any.u, .one (.int .i64 e)]
def walkU : Option (Tm × Ty) → U
  | none => errU 2
  | some (x, k) => .tup [x.u, k.u, .one (.int .i64 0)]
def kidU (n : Int) : Option (Tm × Ty) → U
  | none => .tup [(Kid.mk Tm.zero .any n).u, .one (.int .i64 2)]
  | some (x, k) => .tup [(Kid.mk x k n).u, .one (.int .i64 0)]
def tmU : Option Tm → U
  | none => .tup [Tm.zero.u, .one (.int .i64 2)]
  | some x => .tup [x.u, .one (.int .i64 0)]
end Go.Proofs.YtnflnbdlgdjfmaaDoor
