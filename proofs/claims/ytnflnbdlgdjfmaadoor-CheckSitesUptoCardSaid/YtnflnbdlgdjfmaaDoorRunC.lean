/-
  What the machine computes, on trees: values, what is to be done, a step; what terms come to, at one go. Conditions: none.
-/
import Derived.Test.YtnflnbdlgdjfmaaDoorChkC
namespace Go.Proofs.YtnflnbdlgdjfmaaDoor
set_option linter.unusedVariables false

/-- A value. -/
inductive V where
  | num (n : Int)
  | tru (n : Int)
  | clo (b : Tm) (env : List V)
  | wrap (v : V) (f t : Ty) (at' : Int) (back : Bool)
  | tag (v : V) (g : Ty)

/-- An outcome. -/
structure Out where
  kind : Int
  n : Int
  back : Bool
def Out.c (o : Out) : List C := [.int .i64 o.kind, .int .i64 o.n, .bool o.back]
def Out.u (o : Out) : U := .agg o.c
def Out.zero : Out := ⟨0, 0, false⟩
def Out.fuel : Out := ⟨5, 0, false⟩
def Out.stuck : Out := ⟨6, 0, false⟩
def Out.blame (n : Int) (b : Bool) : Out := ⟨4, n, b⟩

/-- What is seen of a value. -/
def V.seen : V → Out
  | .num n => ⟨1, n, false⟩
  | .tru n => ⟨2, n, false⟩
  | .clo _ _ => ⟨3, 0, false⟩
  | .wrap _ _ _ _ _ => ⟨3, 0, false⟩
  | .tag v _ => v.seen

/-! ### How values lie -/
def tyC (t : Ty) : List C := t.c
mutual
def V.cells : V → List C
  | .num n => [.int .i64 1, .int .i64 n, .int .i64 0, .int .i64 0, .int .i64 0, slOf 2 [], .int .i64 0, slOf 2 [], slOf 7 [], .nilp, .nilp, .int .i64 0, slOf 2 [], .int .i64 0, slOf 2 [], .int .i64 0, .bool false]
  | .tru n => [.int .i64 2, .int .i64 n, .int .i64 0, .int .i64 0, .int .i64 0, slOf 2 [], .int .i64 0, slOf 2 [], slOf 7 [], .nilp, .nilp, .int .i64 0, slOf 2 [], .int .i64 0, slOf 2 [], .int .i64 0, .bool false]
  | .clo b env => [.int .i64 3, .int .i64 0, .int .i64 b.k, .int .i64 b.n, .int .i64 b.t.k, slOf 2 (tyRows b.t.l), .int .i64 b.f.k, slOf 2 (tyRows b.f.l), slOf 7 (tmRows b.l), envC env, .nilp, .int .i64 0, slOf 2 [], .int .i64 0, slOf 2 [], .int .i64 0, .bool false]
  | .wrap v f t at' back => [.int .i64 7, .int .i64 0, .int .i64 0, .int .i64 0, .int .i64 0, slOf 2 [], .int .i64 0, slOf 2 [], slOf 7 [], .nilp, fpo (V.cells v) 0, .int .i64 f.k, slOf 2 (tyRows f.l), .int .i64 t.k, slOf 2 (tyRows t.l), .int .i64 at', .bool back]
  | .tag v g => [.int .i64 8, .int .i64 0, .int .i64 0, .int .i64 0, .int .i64 0, slOf 2 [], .int .i64 0, slOf 2 [], slOf 7 [], .nilp, fpo (V.cells v) 0, .int .i64 g.k, slOf 2 (tyRows g.l), .int .i64 0, slOf 2 [], .int .i64 0, .bool false]
/-- A scope: a chain of what functions were given. -/
def envC : List V → C
  | [] => .nilp
  | v :: l => fpo [fpo (V.cells v) 0, envC l] 0
end
/-- A pointer to a value. -/
def V.p (v : V) : C := fpo v.cells 0

/-! ### The machine -/
/-- What is to be done with a value that comes. -/
inductive Fr where
  | term (t : Tm) (env : List V)
  | second (t : Tm) (v : V)
  | given (v : V)
  | casts (f t : Ty) (at' : Int) (back : Bool)
/-- A frame's cells: kind, t, env, v, from, to, at, back. -/
def Fr.c : Fr → List C
  | .term t env => [.int .i64 t.k, .int .i64 t.k, .int .i64 t.n, .int .i64 t.t.k, slOf 2 (tyRows t.t.l), .int .i64 t.f.k, slOf 2 (tyRows t.f.l), slOf 7 (tmRows t.l), envC env, .nilp, .int .i64 0, slOf 2 [], .int .i64 0, slOf 2 [], .int .i64 0, .bool false]
  | .second t v => [.int .i64 20, .int .i64 t.k, .int .i64 t.n, .int .i64 t.t.k, slOf 2 (tyRows t.t.l), .int .i64 t.f.k, slOf 2 (tyRows t.f.l), slOf 7 (tmRows t.l), .nilp, v.p, .int .i64 0, slOf 2 [], .int .i64 0, slOf 2 [], .int .i64 0, .bool false]
  | .given v => [.int .i64 21, .int .i64 0, .int .i64 0, .int .i64 0, slOf 2 [], .int .i64 0, slOf 2 [], slOf 7 [], .nilp, v.p, .int .i64 0, slOf 2 [], .int .i64 0, slOf 2 [], .int .i64 0, .bool false]
  | .casts f t at' back => [.int .i64 22, .int .i64 0, .int .i64 0, .int .i64 0, slOf 2 [], .int .i64 0, slOf 2 [], slOf 7 [], .nilp, .nilp, .int .i64 f.k, slOf 2 (tyRows f.l), .int .i64 t.k, slOf 2 (tyRows t.l), .int .i64 at', .bool back]
/-- The stack's rows: the top is the last. -/
def frRows (s : List Fr) : List (List C) := (s.map Fr.c).reverse

/-- What comes next: a term in a scope, or a value. -/
inductive Ctl where
  | ent (t : Tm) (env : List V)
  | val (v : V)
structure Mch where
  ctl : Ctl
  stk : List Fr
  fuel : Nat

/-- A value is cast. -/
def castV (v : V) (f t : Ty) (at' : Int) (back : Bool) : V ⊕ Out :=
  if f.same t then .inl v
  else if f.k == 3 && t.k == 3 then .inl (.wrap v f t at' back)
  else if t.k == 0 then .inl (.tag (if f.same f.ground then v else .wrap v f f.ground at' back) f.ground)
  else if f.k == 0 then
    match v with
    | .tag u g =>
      if g.same t.ground then
        if t.ground.same t then .inl u
        else if t.k == 3 then .inl (.wrap u t.ground t at' back)
        else .inr .stuck
      else .inr (.blame at' back)
    | _ => .inr .stuck
  else .inr .stuck

def clamp (n : Int) : Int := max (-1000000) (min n 1000000)
/-- Two numbers; none: they are out of their bounds. -/
def twoV (k : Int) : V → V → Option (V ⊕ Out)
  | .num a, .num b => if inB a && inB b then some (.inl (if k == 5 then .tru (if a < b then 1 else 0) else .num (clamp (a + b)))) else none
  | .num a, _ => some (.inr .stuck)
  | _, _ => some (.inr .stuck)

/-- What a call begins; none: not of the form. -/
def callM (f x : V) (s : List Fr) (F : Nat) : Option (Mch ⊕ Out) :=
  match f with
  | .clo b env => match F with
    | 0 => some (.inr .fuel)
    | F + 1 => some (.inl ⟨.ent b (x :: env), s, F⟩)
  | .wrap u f t at' back =>
    match f.l, t.l with
    | [f0, f1], [t0, t1] =>
      match castV x t0 f0 at' (!back) with
      | .inl y => some (.inl ⟨.val y, .given u :: .casts f1 t1 at' back :: s, F⟩)
      | .inr o => some (.inr o)
    | _, _ => none
  | _ => some (.inr .stuck)

/-- A step into a term. -/
def enterM (t : Tm) (env : List V) (s : List Fr) (F : Nat) : Option (Mch ⊕ Out) :=
  if t.k == 1 then match env[t.n.toNat]? with | some v => some (.inl ⟨.val v, s, F⟩) | none => some (.inr .stuck)
  else if t.k == 2 then some (.inl ⟨.val (.num t.n), s, F⟩)
  else if t.k == 3 then some (.inl ⟨.val (.tru t.n), s, F⟩)
  else match t.l with
    | [] => none
    | b :: _ =>
      if t.k == 7 then some (.inl ⟨.val (.clo b env), s, F⟩)
      else if t.k == 10 then some (.inl ⟨.ent b env, .casts t.f t.t t.n false :: s, F⟩)
      else if t.k == 9 then some (.inl ⟨.ent b env, s, F⟩)
      else some (.inl ⟨.ent b env, .term t env :: s, F⟩)
/-- A step with a value that has come. -/
def leaveM (v : V) (f : Fr) (s : List Fr) (F : Nat) : Option (Mch ⊕ Out) :=
  match f with
  | .term t env =>
    if t.k == 6 then
      match v with
      | .tru n => match t.l with
        | [_, a, b] => if n == 1 then some (.inl ⟨.ent a env, s, F⟩) else if n == 0 then some (.inl ⟨.ent b env, s, F⟩) else none
        | _ => none
      | _ => some (.inr .stuck)
    else if t.k == 4 || t.k == 5 || t.k == 8 then
      match t.l with
      | _ :: b :: _ => some (.inl ⟨.ent b env, .second t v :: s, F⟩)
      | _ => none
    else none
  | .second t f =>
    if t.k == 8 then callM f v s F
    else match twoV t.k f v with
      | some (.inl u) => some (.inl ⟨.val u, s, F⟩)
      | some (.inr o) => some (.inr o)
      | none => none
  | .given f => callM f v s F
  | .casts f t at' back => match castV v f t at' back with
    | .inl u => some (.inl ⟨.val u, s, F⟩)
    | .inr o => some (.inr o)
def step (m : Mch) : Option (Mch ⊕ Out) :=
  match m.ctl with
  | .ent t env => enterM t env m.stk m.fuel
  | .val v => match m.stk with
    | [] => some (.inr v.seen)
    | f :: s => leaveM v f s m.fuel
/-- In so many steps it comes to this. -/
inductive Runs : Nat → Mch → Out → Prop
  | fin {m : Mch} {o : Out} : step m = some (.inr o) → Runs 0 m o
  | go {k : Nat} {m m' : Mch} {o : Out} : step m = some (.inl m') → Runs k m' o → Runs (k + 1) m o

/-! ### At one go -/
/-- A term in a scope; a function of a value. -/
inductive Cmd where
  | tm (t : Tm) (env : List V)
  | ap (f x : V)
/-- A value, and how many calls are left; or how it ended. -/
inductive Res where
  | ok (v : V) (F : Nat)
  | out (o : Out)
/-- A cast's result. -/
def castR (v : V) (f t : Ty) (at' : Int) (back : Bool) (F : Nat) : Res :=
  match castV v f t at' back with
  | .inl u => .ok u F
  | .inr o => .out o
inductive Ev : Cmd → Nat → Res → Prop
  | ref {n : Int} {t f : Ty} {l : List Tm} {env : List V} {F : Nat} {v : V} : env[n.toNat]? = some v → Ev (.tm (.mk 1 n t f l) env) F (.ok v F)
  | refS {n : Int} {t f : Ty} {l : List Tm} {env : List V} {F : Nat} : env[n.toNat]? = none → Ev (.tm (.mk 1 n t f l) env) F (.out .stuck)
  | lit {n : Int} {t f : Ty} {l : List Tm} {env : List V} {F : Nat} : Ev (.tm (.mk 2 n t f l) env) F (.ok (.num n) F)
  | says {n : Int} {t f : Ty} {l : List Tm} {env : List V} {F : Nat} : Ev (.tm (.mk 3 n t f l) env) F (.ok (.tru n) F)
  | fn {n : Int} {t f : Ty} {b : Tm} {l : List Tm} {env : List V} {F : Nat} : Ev (.tm (.mk 7 n t f (b :: l)) env) F (.ok (.clo b env) F)
  | as {n : Int} {t f : Ty} {b : Tm} {l : List Tm} {env : List V} {F : Nat} {r : Res} : Ev (.tm b env) F r → Ev (.tm (.mk 9 n t f (b :: l)) env) F r
  | castO {n : Int} {t f : Ty} {b : Tm} {l : List Tm} {env : List V} {F : Nat} {o : Out} : Ev (.tm b env) F (.out o) → Ev (.tm (.mk 10 n t f (b :: l)) env) F (.out o)
  | cast {n : Int} {t f : Ty} {b : Tm} {l : List Tm} {env : List V} {F F' : Nat} {v : V} : Ev (.tm b env) F (.ok v F') → Ev (.tm (.mk 10 n t f (b :: l)) env) F (castR v f t n false F')
  | ifO {n : Int} {t f : Ty} {a b c : Tm} {env : List V} {F : Nat} {o : Out} : Ev (.tm a env) F (.out o) → Ev (.tm (.mk 6 n t f [a, b, c]) env) F (.out o)
  | ifS {n : Int} {t f : Ty} {a b c : Tm} {env : List V} {F F' : Nat} {v : V} : Ev (.tm a env) F (.ok v F') → (∀ n, v ≠ .tru n) → Ev (.tm (.mk 6 n t f [a, b, c]) env) F (.out .stuck)
  | ifT {n : Int} {t f : Ty} {a b c : Tm} {env : List V} {F F' : Nat} {r : Res} : Ev (.tm a env) F (.ok (.tru 1) F') → Ev (.tm b env) F' r → Ev (.tm (.mk 6 n t f [a, b, c]) env) F r
  | ifF {n : Int} {t f : Ty} {a b c : Tm} {env : List V} {F F' : Nat} {r : Res} : Ev (.tm a env) F (.ok (.tru 0) F') → Ev (.tm c env) F' r → Ev (.tm (.mk 6 n t f [a, b, c]) env) F r
  | binO {k n : Int} {t f : Ty} {a b : Tm} {env : List V} {F : Nat} {o : Out} : k = 4 ∨ k = 5 ∨ k = 8 → Ev (.tm a env) F (.out o) → Ev (.tm (.mk k n t f [a, b]) env) F (.out o)
  | binP {k n : Int} {t f : Ty} {a b : Tm} {env : List V} {F F' : Nat} {v : V} {o : Out} : k = 4 ∨ k = 5 ∨ k = 8 → Ev (.tm a env) F (.ok v F') → Ev (.tm b env) F' (.out o) → Ev (.tm (.mk k n t f [a, b]) env) F (.out o)
  | twoV {k n : Int} {t f : Ty} {a b : Tm} {env : List V} {F F' F'' : Nat} {v w u : V} : k = 4 ∨ k = 5 → Ev (.tm a env) F (.ok v F') → Ev (.tm b env) F' (.ok w F'') → twoV k v w = some (.inl u) → Ev (.tm (.mk k n t f [a, b]) env) F (.ok u F'')
  | twoO {k n : Int} {t f : Ty} {a b : Tm} {env : List V} {F F' F'' : Nat} {v w : V} {o : Out} : k = 4 ∨ k = 5 → Ev (.tm a env) F (.ok v F') → Ev (.tm b env) F' (.ok w F'') → twoV k v w = some (.inr o) → Ev (.tm (.mk k n t f [a, b]) env) F (.out o)
  | call {n : Int} {t f : Ty} {a b : Tm} {env : List V} {F F' F'' : Nat} {v w : V} {r : Res} : Ev (.tm a env) F (.ok v F') → Ev (.tm b env) F' (.ok w F'') → Ev (.ap v w) F'' r → Ev (.tm (.mk 8 n t f [a, b]) env) F r
  | clo0 {b : Tm} {env : List V} {x : V} : Ev (.ap (.clo b env) x) 0 (.out .fuel)
  | clo {b : Tm} {env : List V} {x : V} {F : Nat} {r : Res} : Ev (.tm b (x :: env)) F r → Ev (.ap (.clo b env) x) (F + 1) r
  | wrapO {u x : V} {kf kt : Int} {f0 f1 t0 t1 : Ty} {at' : Int} {back : Bool} {F : Nat} {o : Out} : castV x t0 f0 at' (!back) = .inr o → Ev (.ap (.wrap u (.mk kf [f0, f1]) (.mk kt [t0, t1]) at' back) x) F (.out o)
  | wrapP {u x y : V} {kf kt : Int} {f0 f1 t0 t1 : Ty} {at' : Int} {back : Bool} {F : Nat} {o : Out} : castV x t0 f0 at' (!back) = .inl y → Ev (.ap u y) F (.out o) → Ev (.ap (.wrap u (.mk kf [f0, f1]) (.mk kt [t0, t1]) at' back) x) F (.out o)
  | wrap {u x y v : V} {kf kt : Int} {f0 f1 t0 t1 : Ty} {at' : Int} {back : Bool} {F F' : Nat} : castV x t0 f0 at' (!back) = .inl y → Ev (.ap u y) F (.ok v F') → Ev (.ap (.wrap u (.mk kf [f0, f1]) (.mk kt [t0, t1]) at' back) x) F (castR v f1 t1 at' back F')
  | apN {n : Int} {x : V} {F : Nat} : Ev (.ap (.num n) x) F (.out .stuck)
  | apT {n : Int} {x : V} {F : Nat} : Ev (.ap (.tru n) x) F (.out .stuck)
  | apG {v x : V} {g : Ty} {F : Nat} : Ev (.ap (.tag v g) x) F (.out .stuck)
/-- What is told of it. -/
def Res.told : Res → Out
  | .ok v _ => v.seen
  | .out o => o
end Go.Proofs.YtnflnbdlgdjfmaaDoor
