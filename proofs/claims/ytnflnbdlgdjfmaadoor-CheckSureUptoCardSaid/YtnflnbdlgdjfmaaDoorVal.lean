/-
  Values as they are meant, and how they lie in memory; states, and the worlds that fit them. Conditions: those typed in each theorem.
-/
import Derived.Test.YtnflnbdlgdjfmaaDoorGl
namespace Go.Proofs.YtnflnbdlgdjfmaaDoor
open Go.RowKit
set_option linter.unusedVariables false

def upd {α : Type} (t : Nat → α) (d : Nat) (v : α) : Nat → α := fun x => bif x.beq d then v else t x
theorem upd_same {α : Type} (t : Nat → α) (d : Nat) (v : α) : upd t d v d = v := by simp [upd]
theorem upd_ne {α : Type} (t : Nat → α) {d x : Nat} (v : α) (h : x ≠ d) : upd t d v x = t x := by
  simp only [upd]
  cases hb : x.beq d with
  | false => rfl
  | true => exact absurd (Nat.eq_of_beq_eq_true hb) h
def updD {α : Type} (t : Nat → α) (d : Option Nat) (v : α) : Nat → α := match d with | some d => upd t d v | none => t

/-- Where a name's block lies: its number (none: nil), its capacity, its version. -/
structure Lc where
  g : Option Nat
  cap : Nat
  v : Nat

/-- A state: the slots, the named blocks, the names that were handed in. -/
structure St where
  t : Nat → U
  h : Nat → Option Blk
  d : List Nat

/-- Without names: what turns no more. -/
def relK (F : Nat → Prop) (w : World) : C → Value → Prop
  | .any, v => v.oneCell' = true
  | .int k n, v => v = .int k n
  | .bool b, v => v = .bool b
  | .str s, v => v = .string s
  | .nilp, v => v = .pointer none
  | .nilf, v => v = .nilFunc
  | .nilsl, v => v = .slice none 0 0
  | .fn f, v => v = .func (.func f) #[] #[]
  | .ptr _ _, _ => False
  | .eptr _ _ _ _ _, _ => False
  | .own _ _ _, _ => False
  | .sl n k f, v => ∃ a cap, v = .slice a n cap ∧ n ≤ cap ∧ n ≤ maxLen ∧ ∀ i, i < n → ∃ g o, a = some ⟨g, o, none⟩ ∧ F g ∧ ∀ j, j < k → ∃ u, w.cell? ⟨g, o + i * k + j, none⟩ = some u ∧ relK F w (f i j) u
  | .slF n k f, v => ∃ a, v = .slice a n n ∧ n ≤ maxLen ∧ ∀ i, i < n → ∃ g o, a = some ⟨g, o, none⟩ ∧ F g ∧ ∀ j, j < k → ∃ u, w.cell? ⟨g, o + i * k + j, none⟩ = some u ∧ relK F w (f i j) u
  | .fp k f, v => ∃ g o, v = .pointer (some ⟨g, o, none⟩) ∧ F g ∧ ∀ j, j < k → ∃ u, w.cell? ⟨g, o + j, none⟩ = some u ∧ relK F w (f j) u

def relC (F : Nat → Prop) (ρ : Nat → Lc) (w : World) : C → Value → Prop
  | .ptr b o, v => v.oneCell' = true ∧ ((ρ b).v = 0 → ∃ g, (ρ b).g = some g ∧ v = .pointer (some ⟨g, o, none⟩))
  | .eptr b ver k i o, v => v.oneCell' = true ∧ ((ρ b).v = ver → ∃ g, (ρ b).g = some g ∧ v = .pointer (some ⟨g, i * k + o, none⟩))
  | .own b ver n, v => v.oneCell' = true ∧ ((ρ b).v = ver → (((ρ b).g = none ∧ n = 0 ∧ v = .slice none 0 0) ∨ ∃ g, (ρ b).g = some g ∧ v = .slice (some ⟨g, 0, none⟩) n (ρ b).cap))
  | c, v => relK F w c v

/-- Pairwise. -/
def All2 {α β : Type} (R : α → β → Prop) : List α → List β → Prop
  | [], [] => True
  | a :: l, b :: m => R a b ∧ All2 R l m
  | _, _ => False
theorem All2.mono {α β : Type} {R R' : α → β → Prop} : ∀ {l : List α} {m : List β}, (∀ a ∈ l, ∀ b, R a b → R' a b) → All2 R l m → All2 R' l m
  | [], [], _, _ => trivial
  | a :: l, b :: m, h, ⟨h1, h2⟩ => ⟨h a (List.mem_cons_self ..) b h1, All2.mono (fun a ha => h a (List.mem_cons_of_mem _ ha)) h2⟩
  | [], _ :: _, _, h => h.elim
  | _ :: _, [], _, h => h.elim
theorem All2.length {α β : Type} {R : α → β → Prop} : ∀ {l : List α} {m : List β}, All2 R l m → l.length = m.length
  | [], [], _ => rfl
  | a :: l, b :: m, ⟨_, h⟩ => by simp [All2.length h]
  | [], _ :: _, h => h.elim
  | _ :: _, [], h => h.elim
theorem All2.get {α β : Type} {R : α → β → Prop} : ∀ {l : List α} {m : List β}, All2 R l m → ∀ (i : Nat) a, l[i]? = some a → ∃ b, m[i]? = some b ∧ R a b
  | a :: l, b :: m, ⟨h, _⟩, 0, x, hx => ⟨b, rfl, by simp at hx; subst hx; exact h⟩
  | a :: l, b :: m, ⟨_, h⟩, i + 1, x, hx => by simpa using All2.get h i x (by simpa using hx)
  | [], [], _, i, x, hx => by simp at hx
  | [], _ :: _, h, _, _, _ => h.elim
  | _ :: _, [], h, _, _, _ => h.elim
theorem All2.get' {α β : Type} {R : α → β → Prop} : ∀ {l : List α} {m : List β}, All2 R l m → ∀ (i : Nat) b, m[i]? = some b → ∃ a, l[i]? = some a ∧ R a b
  | a :: l, b :: m, ⟨h, _⟩, 0, x, hx => ⟨a, rfl, by simp at hx; subst hx; exact h⟩
  | a :: l, b :: m, ⟨_, h⟩, i + 1, x, hx => by simpa using All2.get' h i x (by simpa using hx)
  | [], [], _, i, x, hx => by simp at hx
  | [], _ :: _, h, _, _, _ => h.elim
  | _ :: _, [], h, _, _, _ => h.elim
theorem All2.of {α β : Type} {R : α → β → Prop} : ∀ {l : List α} {m : List β}, l.length = m.length → (∀ (i : Nat) a b, l[i]? = some a → m[i]? = some b → R a b) → All2 R l m
  | [], [], _, _ => trivial
  | a :: l, b :: m, hl, h => ⟨h 0 a b rfl rfl, All2.of (by simpa using hl) fun i a b ha hb => h (i + 1) a b (by simpa using ha) (by simpa using hb)⟩
  | [], _ :: _, hl, _ => by simp at hl
  | _ :: _, [], hl, _ => by simp at hl

def relU1 (F : Nat → Prop) (ρ : Nat → Lc) (w : World) : U → Value → Prop
  | .one c, v => relC F ρ w c v
  | .agg l, v => ∃ vs : List Value, v = .agg vs.toArray ∧ All2 (relC F ρ w) l vs
  | .any, _ => True
  | .tup _, _ => False
def relU (F : Nat → Prop) (ρ : Nat → Lc) (w : World) : U → Value → Prop
  | .tup l, v => ∃ vs : List Value, v = .tuple vs.toArray ∧ All2 (relU1 F ρ w) l vs
  | u, v => relU1 F ρ w u v

/-- A block of the call's own in the world. -/
def blkRel (F : Nat → Prop) (ρ : Nat → Lc) (w : World) (b : Nat) : Blk → Prop
  | .obj cells => (ρ b).v = 0 ∧ ∃ (g : Nat) (e : TypeId) (cs : Array Value), (ρ b).g = some g ∧ w.heap[g]? = some (.cells cs e (0, 0)) ∧ ∀ (j : Nat) c, cells[j]? = some c → ∃ u, cs[j]? = some u ∧ relC F ρ w c u
  | .row e k ver rows => (ρ b).v = ver ∧ 0 < k ∧ (((ρ b).g = none ∧ rows = []) ∨
      ∃ (g : Nat) (cs : Array Value), (ρ b).g = some g ∧ w.heap[g]? = some (.cells cs e (0, 0)) ∧ cs.size = (ρ b).cap * k ∧ rows.length ≤ (ρ b).cap ∧ (ρ b).cap ≤ maxLen ∧
        ∀ (i : Nat) row, rows[i]? = some row → row.length = k ∧ ∀ (j : Nat) c, row[j]? = some c → ∃ u, cs[i * k + j]? = some u ∧ relC F ρ w c u)

/-- The names in a cell are there, at a version up to the block's. -/
def okC (h : Nat → Option Blk) : C → Prop
  | .ptr b _ => ∃ cells, h b = some (.obj cells)
  | .eptr b v _ _ _ => ∃ e k v' rows, h b = some (.row e k v' rows) ∧ v ≤ v'
  | .own b v _ => ∃ e k v' rows, h b = some (.row e k v' rows) ∧ v ≤ v'
  | _ => True
def okU1 (h : Nat → Option Blk) : U → Prop
  | .one c => okC h c
  | .agg l => ∀ c ∈ l, okC h c
  | _ => True
def okU (h : Nat → Option Blk) : U → Prop
  | .tup l => ∀ u ∈ l, okU1 h u
  | u => okU1 h u
def okBlk (h : Nat → Option Blk) : Blk → Prop
  | .obj cells => ∀ c ∈ cells, okC h c
  | .row _ _ _ rows => ∀ row ∈ rows, ∀ c ∈ row, okC h c

/-- A heap of named blocks in the world. -/
structure HRel (F : Nat → Prop) (ρ : Nat → Lc) (h : Nat → Option Blk) (w : World) : Prop where
  blk : ∀ b x, h b = some x → blkRel F ρ w b x
  inj : ∀ b b' g, h b ≠ none → h b' ≠ none → (ρ b).g = some g → (ρ b').g = some g → b = b'
  notF : ∀ b g, h b ≠ none → (ρ b).g = some g → ¬ F g
  lt : ∀ k, F k → k < w.heap.size
  ok : ∀ b x, h b = some x → okBlk h x
  gl : ∀ g c, glob g = some c → relK F w c (.pointer (some ⟨g, 0, none⟩))

/-- What a call began with: the world, what turned no more then, where the names lay, the names handed to it; how many slots it has. -/
structure Env where
  w0 : World
  F0 : Nat → Prop
  ρ0 : Nat → Lc
  d : List Nat
  n : Nat
/-- The blocks handed in. -/
def Env.pas (E : Env) (k : Nat) : Prop := ∃ b ∈ E.d, (E.ρ0 b).g = some k

structure SimR (E : Env) (F : Nat → Prop) (ρ : Nat → Lc) (s : St) (a : Act) (w : World) : Prop where
  rel : ∀ x, relU F ρ w (s.t x) (a.tmps.getD x undef)
  heap : HRel F ρ s.h w
  okt : ∀ x, okU s.h (s.t x)
  own : ∀ b g, s.h b ≠ none → (ρ b).g = some g → E.w0.heap.size ≤ g ∨ E.pas g
  F0 : ∀ k, E.F0 k → F k
  Fnew : ∀ k, F k → E.F0 k ∨ E.w0.heap.size ≤ k ∨ E.pas k
  os : w.os = E.w0.os
  tape : w.tape = E.w0.tape
  output : w.output = E.w0.output
  size : E.w0.heap.size ≤ w.heap.size
  kept : ∀ k, k < E.w0.heap.size → ¬ E.pas k → w.heap[k]? = E.w0.heap[k]?
  stab : ∀ b ∈ E.d, ρ b = E.ρ0 b ∨ (E.ρ0 b).v < (ρ b).v
  d : s.d = E.d
  tmps : a.tmps.size = E.n
  defers : a.defers = []

def Sim (E : Env) (s : St) (a : Act) (w : World) : Prop := ∃ F ρ, SimR E F ρ s a w
end Go.Proofs.YtnflnbdlgdjfmaaDoor
