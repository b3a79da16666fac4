/-
  Types as trees; how they lie in memory; worlds that come later. Conditions: none.
-/
import Derived.Test.YtnflnbdlgdjfmaaOwes
import Derived.Lib.Hide
namespace Go.Proofs.Ytnflnbdlgdjfmaa
open Go.RowKit
set_option linter.unusedVariables false

/-- A type: its kind, its parts. -/
inductive Ty where
  | mk (k : Int) (l : List Ty)

def Ty.k : Ty → Int | .mk k _ => k
def Ty.l : Ty → List Ty | .mk _ l => l
theorem Ty.eta (t : Ty) : Ty.mk t.k t.l = t := by cases t; rfl
@[simp] theorem Ty.k_mk (k : Int) (l : List Ty) : (Ty.mk k l).k = k := rfl
@[simp] theorem Ty.l_mk (k : Int) (l : List Ty) : (Ty.mk k l).l = l := rfl

/-- Induction over a type and its parts. -/
theorem Ty.ind {p : Ty → Prop} (h : ∀ k l, (∀ t ∈ l, p t) → p (.mk k l)) : ∀ t, p t :=
  fun t => Ty.rec (motive_1 := p) (motive_2 := fun l => ∀ t ∈ l, p t) (fun k l ih => h k l ih) (fun _ h => by cases h)
    (fun a l ha hl t ht => by
      rcases List.mem_cons.1 ht with rfl | ht
      · exact ha
      · exact hl t ht) t

/-- A later world: nothing that was there has turned. -/
def Ext (a b : World) : Prop := Below a.heap.size a b
theorem ext_refl (w : World) : Ext w w := Below.refl _ _
theorem Ext.trans {a b c : World} (h : Ext a b) (k : Ext b c) : Ext a c := Below.trans h (Below.mono k h.size)
theorem Ext.drew {a b : World} (h : Ext a b) : Ext a b.drew := Below.drew h
theorem Ext.alloc {a b : World} (h : Ext a b) (o : Obj) : Ext a (b.alloc o) := Below.alloc h h.size o
theorem Ext.cell {a b : World} (h : Ext a b) {p : Addr} {v : Value} (hc : a.cell? p = some v) : b.cell? p = some v :=
  (Below.cell h (World.block_lt_of_cell? _ _ hc)).trans hc
theorem Ext.block {a b : World} (h : Ext a b) {k : Nat} {o : Obj} (hc : a.heap[k]? = some o) : b.heap[k]? = some o :=
  (Below.block h k (Array.getElem?_eq_some_iff.1 hc).1).trans hc
theorem Ext.frozen {a b : World} (h : Ext a b) {p : Addr} (hp : p.block < a.heap.size) {x : Bool} (hf : a.frozen? p = x) : b.frozen? p = x := (Below.frozen h hp).trans hf
theorem Ext.size {a b : World} (h : Ext a b) : a.heap.size ≤ b.heap.size := Below.size h
theorem Ext.below {a b : World} (h : Ext a b) : Below a.heap.size a b := h
theorem Ext.setCell {a b : World} (h : Ext a b) {p : Addr} (hp : a.heap.size ≤ p.block) (u : Value) : Ext a (b.setCell p u) := Below.setCell h hp u

theorem blk_new {w : World} {o : Obj} {n : Nat} (h : w.heap.size = n) : (w.alloc o).heap[n]? = some o := by subst h; exact heap_alloc_new w o
theorem blk_old {w : World} {o x : Obj} {n : Nat} (h : w.heap[n]? = some x) : (w.alloc o).heap[n]? = some x := by rw [heap_alloc_old w o (Array.getElem?_eq_some_iff.1 h).1]; exact h
theorem blk_cell {w : World} {n : Nat} {cs : Array Value} {e : TypeId} {fr : Nat × Nat} (h : w.heap[n]? = some (.cells cs e fr)) (j : Nat) : w.cell? ⟨n, j, none⟩ = cs[j]? := by simp [World.cell?, h]
theorem blk_cells {w : World} {g : Nat} {cs : List Value} {e : TypeId} {fr : Nat × Nat} (h : w.heap[g]? = some (.cells cs.toArray e fr)) : ∀ j u, cs[j]? = some u → w.cell? ((⟨g, 0, none⟩ : Addr).add j) = some u := fun j u hu => by
  rw [show (⟨g, 0, none⟩ : Addr).add j = ⟨g, j, none⟩ by unfold Addr.add; split <;> simp_all, blk_cell h j]
  simpa using hu
theorem blk_free {w : World} {n : Nat} {cs : Array Value} {e : TypeId} (h : w.heap[n]? = some (.cells cs e)) (j : Nat) : w.frozen? ⟨n, j, none⟩ = false := by simp [World.frozen?, h]
theorem blk_set {w : World} {n : Nat} {cs : Array Value} {e : TypeId} {fr : Nat × Nat} (h : w.heap[n]? = some (.cells cs e fr)) (j : Nat) (u : Value) : (w.setCell ⟨n, j, none⟩ u).heap[n]? = some (.cells (cs.setIfInBounds j u) e fr) := by
  simp only [World.setCell, Array.getElem?_modify, if_true, h, Option.map_some, Option.isSome_none, Bool.false_eq_true, if_false]
theorem blk_set_ne {w : World} {n : Nat} {p : Addr} (h : n ≠ p.block) (u : Value) : (w.setCell p u).heap[n]? = w.heap[n]? := Below.heap_setCell w p u n h

/-- The list l lies behind the slice v, in blocks of which G holds. -/
inductive TyL (G : Nat → Prop) (w : World) : List Ty → Value → Prop
  | mk (l : List Ty) (a : Option Addr) (c : Nat) (S : Nat → Value) (hlen : l.length ≤ maxLen)
    (hb : ∀ i (h : i < l.length), ∃ b o, a = some ⟨b, o, none⟩ ∧ G b ∧ w.cell? ⟨b, o + i * 2, none⟩ = some (.int .i64 l[i].k) ∧ w.cell? ⟨b, o + i * 2 + 1, none⟩ = some (S i))
    (hs : ∀ i (h : i < l.length), TyL G w l[i].l (S i)) : TyL G w l (.slice a l.length c)

theorem TyL.mono {G G' : Nat → Prop} {w w' : World} (hG : ∀ k, G k → G' k) (hw : ∀ k, G k → k < w.heap.size → w'.heap[k]? = w.heap[k]?) {l : List Ty} {v : Value} (h : TyL G w l v) : TyL G' w' l v := by
  induction h with
  | mk l a c S hlen hb hs ih =>
    refine .mk l a c S hlen (fun i hi => ?_) ih
    obtain ⟨b, o, ha, hg, h1, h2⟩ := hb i hi
    have hblk := hw b hg (World.block_lt_of_cell? _ _ h1)
    exact ⟨b, o, ha, hG b hg, (World.cell?_of_block (a := ⟨b, o + i * 2, none⟩) hblk).trans h1, (World.cell?_of_block (a := ⟨b, o + i * 2 + 1, none⟩) hblk).trans h2⟩

theorem TyL.ext {G : Nat → Prop} {w w' : World} (h : Ext w w') {l : List Ty} {v : Value} (t : TyL G w l v) : TyL G w' l v :=
  t.mono (fun _ h => h) fun k _ hk => Below.block h k hk

theorem TyL.set {G : Nat → Prop} {w : World} {l : List Ty} {v : Value} (t : TyL G w l v) {p : Addr} (hb : ¬ G p.block) (u : Value) : TyL G (w.setCell p u) l v :=
  t.mono (fun _ h => h) fun k hk _ => Below.heap_setCell w p u k (fun e => hb (e ▸ hk))
theorem TyL.weaken {G G' : Nat → Prop} {w : World} {l : List Ty} {v : Value} (t : TyL G w l v) (h : ∀ k, G k → G' k) : TyL G' w l v := t.mono h fun _ _ _ => rfl

/-- The empty list, nil. -/
theorem TyL.nil (G : Nat → Prop) (w : World) : TyL G w [] (.slice none 0 0) :=
  .mk [] none 0 (fun _ => undef) (by simp [maxLen]) (fun i hi => absurd hi (Nat.not_lt_zero _)) fun i hi => absurd hi (Nat.not_lt_zero _)

/-- What lies there lies below the heap's end. -/
theorem TyL.fresh {G : Nat → Prop} {w : World} {l : List Ty} {v : Value} (t : TyL G w l v) : TyL (fun k => G k ∧ k < w.heap.size) w l v := by
  induction t with
  | mk l a c S hlen hb hs ih =>
    refine .mk l a c S hlen (fun i hi => ?_) ih
    obtain ⟨b, o, ha, hg, h1, h2⟩ := hb i hi
    exact ⟨b, o, ha, ⟨hg, World.block_lt_of_cell? _ _ h1⟩, h1, h2⟩

/-- The value's form. -/
theorem TyL.form {G : Nat → Prop} {w : World} {l : List Ty} {v : Value} (t : TyL G w l v) : ∃ a c, v = .slice a l.length c ∧ l.length ≤ maxLen ∧
    ∃ S : Nat → Value, (∀ i (h : i < l.length), ∃ b o, a = some ⟨b, o, none⟩ ∧ G b ∧ w.cell? ⟨b, o + i * 2, none⟩ = some (.int .i64 l[i].k) ∧ w.cell? ⟨b, o + i * 2 + 1, none⟩ = some (S i)) ∧
      ∀ i (h : i < l.length), TyL G w l[i].l (S i) := by
  cases t with
  | mk l a c S hlen hb hs => exact ⟨a, c, rfl, hlen, S, hb, hs⟩

/-- Element i of it. -/
theorem TyL.at {G : Nat → Prop} {w : World} {l : List Ty} {a : Option Addr} {n c : Nat} (t : TyL G w l (.slice a n c)) (i : Nat) (h : i < l.length) :
    ∃ b o a' c', a = some ⟨b, o, none⟩ ∧ G b ∧ w.cell? ⟨b, o + i * 2, none⟩ = some (.int .i64 l[i].k) ∧ w.cell? ⟨b, o + i * 2 + 1, none⟩ = some (.slice a' l[i].l.length c') ∧ TyL G w l[i].l (.slice a' l[i].l.length c') := by
  obtain ⟨a1, c1, hv, _, S, hb, hs⟩ := t.form
  cases hv
  obtain ⟨b, o, ha, hg, h1, h2⟩ := hb i h
  have h3 := hs i h
  obtain ⟨a', c', hS, _⟩ := h3.form
  rw [hS] at h2 h3
  exact ⟨b, o, a', c', ha, hg, h1, h2, h3⟩

/-- A list in a row of cells. -/
theorem TyL.of_cells {G : Nat → Prop} {w : World} {l : List Ty} {g o c n : Nat} (hn : l.length = n) (hlen : n ≤ maxLen) (hG : G g)
    (h : ∀ i (hi : i < l.length), ∃ s, w.cell? ⟨g, o + i * 2, none⟩ = some (.int .i64 l[i].k) ∧ w.cell? ⟨g, o + i * 2 + 1, none⟩ = some s ∧ TyL G w l[i].l s) : TyL G w l (.slice (some ⟨g, o, none⟩) n c) := by
  subst hn
  have h' : ∀ i, ∃ s, ∀ (hi : i < l.length), w.cell? ⟨g, o + i * 2, none⟩ = some (.int .i64 l[i].k) ∧ w.cell? ⟨g, o + i * 2 + 1, none⟩ = some s ∧ TyL G w l[i].l s := fun i => by
    by_cases hi : i < l.length
    · obtain ⟨s, hs⟩ := h i hi
      exact ⟨s, fun _ => hs⟩
    · exact ⟨undef, fun h => absurd h hi⟩
  obtain ⟨S, hS⟩ := Classical.axiomOfChoice h'
  exact .mk l (some ⟨g, o, none⟩) c S hlen (fun i hi => ⟨g, o, rfl, hG, (hS i hi).1, (hS i hi).2.1⟩) fun i hi => (hS i hi).2.2

theorem TyL.two {G : Nat → Prop} {w : World} {a b : Ty} {g c : Nat} {sa sb : Value} (hG : G g) (h0 : w.cell? ⟨g, 0, none⟩ = some (.int .i64 a.k)) (h1 : w.cell? ⟨g, 1, none⟩ = some sa)
    (h2 : w.cell? ⟨g, 2, none⟩ = some (.int .i64 b.k)) (h3 : w.cell? ⟨g, 3, none⟩ = some sb) (ha : TyL G w a.l sa) (hb : TyL G w b.l sb) : TyL G w [a, b] (.slice (some ⟨g, 0, none⟩) 2 c) := by
  refine TyL.of_cells rfl (by decide) hG fun i hi => ?_
  match i, hi with
  | 0, _ => exact ⟨sa, h0, h1, ha⟩
  | 1, _ => exact ⟨sb, h2, h3, hb⟩

/-- A type as a value. -/
def TyV (G : Nat → Prop) (w : World) (t : Ty) (v : Value) : Prop := ∃ s, v = .agg #[.int .i64 t.k, s] ∧ TyL G w t.l s
theorem TyV.mono {G G' : Nat → Prop} {w w' : World} (hG : ∀ k, G k → G' k) (hw : ∀ k, G k → k < w.heap.size → w'.heap[k]? = w.heap[k]?) {t : Ty} {v : Value} (h : TyV G w t v) : TyV G' w' t v := by
  obtain ⟨s, hv, hs⟩ := h
  exact ⟨s, hv, hs.mono hG hw⟩
theorem TyV.ext {G : Nat → Prop} {w w' : World} (h : Ext w w') {t : Ty} {v : Value} (hv : TyV G w t v) : TyV G w' t v :=
  hv.mono (fun _ h => h) fun k _ hk => Below.block h k hk

/-- Anywhere. -/
def All : Nat → Prop := fun _ => True
/-- The relation 'it is this type'. -/
def tyRel (t : Ty) : SRel Ext := ⟨fun v w => TyV All w t v, fun _ _ _ h hv => hv.ext h⟩
end Go.Proofs.Ytnflnbdlgdjfmaa
