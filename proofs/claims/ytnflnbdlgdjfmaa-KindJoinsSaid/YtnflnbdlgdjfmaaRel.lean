/-
  A region that draws its order, by relations: some operations are taken first, each operation of the head yields a value in a relation that later worlds keep, the tail is walked in the order of the text. Conditions: none beyond those typed in 'wp_region_rel'.
-/
import Derived.StillTail
import Derived.Tactics
import Derived.Tactics2
namespace Go.Proofs.Ytnflnbdlgdjfmaa
set_option linter.unusedSimpArgs false
set_option linter.unusedVariables false

/-- A relation between a value and a world that every later world (by L) keeps. -/
structure SRel (L : World → World → Prop) where
  rel : Value → World → Prop
  stable : ∀ v w w', L w w' → rel v w → rel v w'

def SRel.is (L : World → World → Prop) (x : Value) : SRel L := ⟨fun v _ => v = x, fun _ _ _ _ h => h⟩
/-- Under a condition: where it does not hold nothing is there. -/
def SRel.when {L : World → World → Prop} (p : Prop) (r : SRel L) : SRel L := ⟨fun v w => (p → r.rel v w) ∧ (¬ p → v = undef), fun v w w' hl h => ⟨fun hp => r.stable v w w' hl (h.1 hp), h.2⟩⟩
def SRel.any (L : World → World → Prop) : SRel L := ⟨fun _ _ => True, fun _ _ _ _ h => h⟩

/-- Which operation of the head writes slot s. -/
def wrt (ops : Array Oper) (H : List Nat) (s : Tmp) : Option Nat := H.find? fun i => (ops[i]?).bind (·.dst) == some s

/-- The relation of operation i. -/
def relAt {L : World → World → Prop} : List Nat → List (SRel L) → Nat → SRel L
  | h :: H, R :: Rs, i => if h == i then R else relAt H Rs i
  | _, _, _ => SRel.any L

/-- What is known of slot s when operation i comes up. -/
def slotRel {L : World → World → Prop} (ops : Array Oper) (H : List Nat) (Rs : List (SRel L)) (a1 : Act) (i : Nat) (s : Tmp) : SRel L :=
  match wrt ops H s with
  | some j => if j < i then relAt H Rs j else SRel.is L (a1.tmps.getD s undef)
  | none => SRel.is L (a1.tmps.getD s undef)

def OpFacts {L : World → World → Prop} (ops : Array Oper) (H : List Nat) (Rs : List (SRel L)) (a1 : Act) (i : Nat) (o : Oper) (a : Act) (w : World) : Prop :=
  ∀ s, (o.looksAt ops).contains s = true → (slotRel ops H Rs a1 i s).rel (a.tmps.getD s undef) w

/-- What each operation of the head owes. -/
def OpOwes (P : Program) (ops : Array Oper) (Q : Exit → Act → World → Prop) (L : World → World → Prop) (C : World → Prop) (H : List Nat) (Rs : List (SRel L)) (a1 : Act) (i : Nat) (o : Oper) : Prop :=
  ∀ a w, C w → OpFacts ops H Rs a1 i o a w →
    (Region.wanted o (yielded ops a.tmps) = true → o.wp P a w (fun a' w' => ∃ v, a' = a.put o.dst v ∧ (relAt H Rs i).rel v w' ∧ C w' ∧ L w w') Q) ∧
    (Region.wanted o (yielded ops a.tmps) = false → (relAt H Rs i).rel undef w)

def OwesAll (P : Program) (ops : Array Oper) (Q : Exit → Act → World → Prop) (L : World → World → Prop) (C : World → Prop) (H : List Nat) (Rs : List (SRel L)) (a1 : Act) : List Nat → Prop
  | [] => True
  | i :: r => (∀ o, ops[i]? = some o → OpOwes P ops Q L C H Rs a1 i o) ∧ OwesAll P ops Q L C H Rs a1 r

theorem owesAll_mem {P : Program} {ops : Array Oper} {Q : Exit → Act → World → Prop} {L : World → World → Prop} {C : World → Prop} {H : List Nat} {Rs : List (SRel L)} {a1 : Act} :
    ∀ {l : List Nat}, OwesAll P ops Q L C H Rs a1 l → ∀ i ∈ l, ∀ o, ops[i]? = some o → OpOwes P ops Q L C H Rs a1 i o
  | _ :: _, h, i, hi, o, ho => by
    rcases List.mem_cons.1 hi with rfl | hi
    · exact h.1 o ho
    · exact owesAll_mem h.2 i hi o ho

/-- The tail comes in its order. -/
def chainL (ops : Array Oper) : List Nat → Bool
  | t :: u :: r => Region.waitsFor .any ops u t && chainL ops (u :: r)
  | _ => true

/-- The edges of the tail's operations lead to what was listed or to the tail's earlier ones. -/
def tailEdgesB (ops : Array Oper) (T : List Nat) : List Nat → Bool
  | [] => true
  | t :: r =>
    (match ops[t]? with
     | none => false
     | some o => o.after.all fun e => !Region.binds .any e || (decide (e.on < ops.size) && !(t :: r).contains e.on)) && tailEdgesB ops T r

def relB (ops : Array Oper) (listed1 : Array Bool) (H T : List Nat) (n : Nat) : Bool :=
  listed1.size == ops.size &&
  ((List.range ops.size).all fun i => (if listed1.getD i false then 1 else 0) + H.count i + T.count i == 1) &&
  (H.all fun i => decide (i < ops.size)) && (T.all fun i => decide (i < ops.size)) &&
  ((List.range ops.size).all fun i => !listed1.getD i false ||
    match ops[i]? with | none => false | some o => o.after.all fun e => !Region.binds .any e || listed1.getD e.on false) &&
  (H.all fun i =>
    match ops[i]? with
    | none => false
    | some o =>
      (o.after.all fun e => !Region.binds .any e || listed1.getD e.on false || (H.contains e.on && decide (e.on < i))) &&
      (match o.dst with | some d => decide (d < n) && (wrt ops H d == some i) | none => true) &&
      (o.looksAt ops).all fun s =>
        match wrt ops H s with
        | some j => if j < i then Region.waitsFor .any ops i j else (i == j || Region.waitsFor .any ops j i)
        | none => true) &&
  (match T with
   | [] => true
   | t :: _ => H.all fun i => Region.waitsFor .any ops t i || H.any fun j => decide (i < j) && Region.waitsFor .any ops j i) &&
  chainL ops T && tailEdgesB ops T T

def FinR {L : World → World → Prop} (K : Act → World → Prop) (w : World) : List (Option Tmp) → List (SRel L) → Act → Prop
  | d :: ds, R :: Rs, a => ∀ v, R.rel v w → FinR K w ds Rs (a.put d v)
  | _, _, a => K a w

section
variable {P : Program} {ops : Array Oper} {Q : Exit → Act → World → Prop} {L : World → World → Prop} {C : World → Prop} {H T : List Nat} {Rs : List (SRel L)} {a1 : Act} {listed1 : Array Bool} {n : Nat}

structure RelFit (ops : Array Oper) (listed1 : Array Bool) (H T : List Nat) (n : Nat) : Prop where
  size : listed1.size = ops.size
  once : ∀ i, i < ops.size → (if listed1.getD i false then 1 else 0) + H.count i + T.count i = 1
  hlt : ∀ i ∈ H, i < ops.size
  tlt : ∀ i ∈ T, i < ops.size
  closed : ∀ i o, ops[i]? = some o → listed1.getD i false = true → ∀ e ∈ o.after, Region.binds .any e = true → listed1.getD e.on false = true
  edge : ∀ i ∈ H, ∀ o, ops[i]? = some o → ∀ e ∈ o.after, Region.binds .any e = true → listed1.getD e.on false = true ∨ (e.on ∈ H ∧ e.on < i)
  dst : ∀ i ∈ H, ∀ o, ops[i]? = some o → ∀ d, o.dst = some d → d < n ∧ wrt ops H d = some i
  look : ∀ i ∈ H, ∀ o, ops[i]? = some o → ∀ s ∈ o.looksAt ops, ∀ j, wrt ops H s = some j → (j < i → Region.waitsFor .any ops i j = true) ∧ (¬ j < i → i = j ∨ Region.waitsFor .any ops j i = true)
  sink : ∀ t r, T = t :: r → ∀ i ∈ H, Region.waitsFor .any ops t i = true ∨ ∃ j ∈ H, i < j ∧ Region.waitsFor .any ops j i = true
  chain : chainL ops T = true
  tedge : tailEdgesB ops T T = true

theorem getD_lt_size {l : Array Bool} {i : Nat} (h : l.getD i false = true) : i < l.size := by
  rcases Nat.lt_or_ge i l.size with h' | h'
  · exact h'
  · simp [Array.getElem?_eq_none h'] at h

theorem relFit_of (h : relB ops listed1 H T n = true) : RelFit ops listed1 H T n := by
  simp only [relB, Bool.and_eq_true] at h
  obtain ⟨⟨⟨⟨⟨⟨⟨⟨h1, h2⟩, h3⟩, h4⟩, h5⟩, h6⟩, h7⟩, h8⟩, h9⟩ := h
  have head : ∀ i ∈ H, ∀ o, ops[i]? = some o → (∀ e ∈ o.after, Region.binds .any e = true → listed1.getD e.on false = true ∨ (e.on ∈ H ∧ e.on < i)) ∧
      (∀ d, o.dst = some d → d < n ∧ wrt ops H d = some i) ∧
      (∀ s ∈ o.looksAt ops, ∀ j, wrt ops H s = some j → (j < i → Region.waitsFor .any ops i j = true) ∧ (¬ j < i → i = j ∨ Region.waitsFor .any ops j i = true)) := by
    intro i hi o ho
    have g := List.all_eq_true.1 h6 i hi
    rw [ho] at g
    simp only [Bool.and_eq_true] at g
    obtain ⟨⟨g1, g2⟩, g3⟩ := g
    refine ⟨fun e he hb => ?_, fun d hd => ?_, fun s hs j hj => ?_⟩
    · have := Array.all_eq_true'.1 g1 e he
      simpa [hb] using this
    · rw [hd] at g2
      simpa using g2
    · have g4 := List.all_eq_true.1 g3 s hs
      rw [hj] at g4
      exact ⟨fun hlt => by simpa [hlt] using g4, fun hlt => by simpa [hlt] using g4⟩
  refine ⟨by simpa using h1, fun i hi => by simpa using List.all_eq_true.1 h2 i (List.mem_range.2 hi), fun i hi => by simpa using List.all_eq_true.1 h3 i hi, fun i hi => by simpa using List.all_eq_true.1 h4 i hi, ?_, fun i hi o ho => (head i hi o ho).1, fun i hi o ho => (head i hi o ho).2.1, fun i hi o ho => (head i hi o ho).2.2, ?_, h8, h9⟩
  · intro i o ho hl e he hb
    have g := List.all_eq_true.1 h5 i (List.mem_range.2 (Array.getElem?_eq_some_iff.1 ho).1)
    rw [ho, hl] at g
    simp only [Bool.not_true, Bool.false_or] at g
    have := Array.all_eq_true'.1 g e he
    simpa [hb] using this
  · rintro t r rfl i hi
    have g := List.all_eq_true.1 h7 i hi
    simp only [Bool.or_eq_true] at g
    rcases g with g | g
    · exact .inl g
    · obtain ⟨j, hj, g⟩ := List.any_eq_true.1 g
      simp only [Bool.and_eq_true, decide_eq_true_eq] at g
      exact .inr ⟨j, hj, g.1, g.2⟩

structure RelInv (ops : Array Oper) (C : World → Prop) (H T : List Nat) (Rs : List (SRel L)) (listed1 : Array Bool) (a1 a : Act) (listed : Array Bool) (w : World) : Prop where
  lsize : listed.size = ops.size
  closed : ∀ i o, ops[i]? = some o → listed.getD i false = true → ∀ e ∈ o.after, Region.binds .any e = true → listed.getD e.on false = true
  base : ∀ i, listed1.getD i false = true → listed.getD i false = true
  tail : ∀ t ∈ T, listed.getD t false = false
  cls : C w
  size : a.tmps.size = a1.tmps.size
  defers : a.defers = a1.defers
  done : ∀ i ∈ H, ∀ o, ops[i]? = some o → listed.getD i false = true → ∃ v, (relAt H Rs i).rel v w ∧ ∀ d, o.dst = some d → a.tmps.getD d undef = v
  same : ∀ s, (∀ i ∈ H, ∀ o, ops[i]? = some o → o.dst = some s → listed.getD i false = false) → a.tmps[s]? = a1.tmps[s]?

theorem wrt_some {s : Tmp} {j : Nat} (h : wrt ops H s = some j) : j ∈ H ∧ ∃ o, ops[j]? = some o ∧ o.dst = some s := by
  refine ⟨List.mem_of_find?_eq_some h, ?_⟩
  have := List.find?_some h
  simp only [beq_iff_eq] at this
  cases ho : ops[j]? with
  | none => rw [ho] at this; cases this
  | some o => rw [ho] at this; exact ⟨o, rfl, this⟩

theorem wrt_none {s : Tmp} (h : wrt ops H s = none) : ∀ (j : Nat) (o : Oper), j ∈ H → ops[j]? = some o → o.dst ≠ some s := by
  intro j o hj ho hd
  have := List.find?_eq_none.1 h j hj
  simp [ho, hd] at this

theorem waits_ready {listed : Array Bool} {i j : Nat} (hw : Region.waitsFor .any ops i j = true) (hr : i ∈ Region.ready .any ops listed) : listed.getD j false = true := by
  obtain ⟨_, oi, hoi, hall⟩ := mem_ready.1 hr
  obtain ⟨oj, hoj, e, he, hb, hon⟩ := Region.waitsFor_spec hw
  have : oj = oi := Option.some.inj (hoj.symm.trans hoi)
  subst this
  rw [← hon]
  exact hall e he hb

theorem waits_listed {listed : Array Bool} {a : Act} {w : World} (inv : RelInv ops C H T Rs listed1 a1 a listed w) {i j : Nat} (hw : Region.waitsFor .any ops i j = true) (hl : listed.getD i false = true) : listed.getD j false = true := by
  obtain ⟨oj, hoj, e, he, hb, hon⟩ := Region.waitsFor_spec hw
  rw [← hon]
  exact inv.closed i oj hoj hl e he hb

theorem mem_ready_lt {listed : Array Bool} {j : Nat} (h : j ∈ Region.ready .any ops listed) : j < ops.size := by
  obtain ⟨_, o, ho, _⟩ := mem_ready.1 h
  exact (Array.getElem?_eq_some_iff.1 ho).1

theorem head_or_tail (fit : RelFit ops listed1 H T n) {i : Nat} (hi : i < ops.size) (h1 : listed1.getD i false = false) : i ∈ H ∨ i ∈ T := by
  have := fit.once i hi
  rw [h1] at this
  by_cases h : i ∈ H
  · exact .inl h
  · right
    rw [List.count_eq_zero.2 h] at this
    exact List.count_pos_iff.1 (by simp at this; omega)

theorem not_both (fit : RelFit ops listed1 H T n) {i : Nat} (hi : i < ops.size) (hH : i ∈ H) : i ∉ T ∧ listed1.getD i false = false ∧ H.count i = 1 := by
  have := fit.once i hi
  have hc := List.count_pos_iff.2 hH
  refine ⟨fun hT => ?_, ?_, ?_⟩
  · have := List.count_pos_iff.2 hT
    split at * <;> omega
  · cases h : listed1.getD i false with
    | false => rfl
    | true => rw [h] at this; simp at this; omega
  · split at this <;> omega

theorem opFacts_of (fit : RelFit ops listed1 H T n) {i : Nat} {o : Oper} {a : Act} {listed : Array Bool} {w : World} (hi : i ∈ H) (ho : ops[i]? = some o)
    (inv : RelInv ops C H T Rs listed1 a1 a listed w) (hr : i ∈ Region.ready .any ops listed) : OpFacts ops H Rs a1 i o a w := by
  intro s hs
  have hs' : s ∈ o.looksAt ops := by simpa using hs
  have hun := (mem_ready.1 hr).1
  have hold : (∀ i' ∈ H, ∀ o', ops[i']? = some o' → o'.dst = some s → listed.getD i' false = false) → (SRel.is L (a1.tmps.getD s undef)).rel (a.tmps.getD s undef) w := fun h => by
    have := inv.same s h
    show a.tmps.getD s undef = a1.tmps.getD s undef
    simp only [Array.getD_eq_getD_getElem?, this]
  unfold slotRel
  cases hw : wrt ops H s with
  | none => exact hold fun i' hi' o' ho' hd => absurd hd (wrt_none hw i' o' hi' ho')
  | some j =>
    obtain ⟨hjH, oj, hoj, hdj⟩ := wrt_some hw
    have h4 := fit.look i hi o ho s hs' j hw
    simp only
    split
    · rename_i hji
      obtain ⟨v, hv, hd⟩ := inv.done j hjH oj hoj (waits_ready (h4.1 hji) hr)
      rw [hd s hdj]
      exact hv
    · rename_i hji
      refine hold fun i' hi' o' ho' hd => ?_
      have h6 := (fit.dst i' hi' o' ho' s hd).2
      rw [hw] at h6
      obtain rfl : j = i' := Option.some.inj h6
      rcases h4.2 hji with rfl | h7
      · exact getD_both hun
      · cases hl' : listed.getD j false with
        | false => rfl
        | true =>
          have := waits_listed inv h7 hl'
          rw [getD_both hun] at this
          cases this

theorem put_getD {a : Act} {d : Tmp} {v : Value} (h : d < a.tmps.size) : (a.put (some d) v).tmps.getD d undef = v := by
  simp [Act.put, h]

theorem put_getD_ne {a : Act} {d s : Tmp} {v : Value} (h : d ≠ s) : (a.put (some d) v).tmps.getD s undef = a.tmps.getD s undef := by
  simp [Act.put, Array.getElem?_setIfInBounds_ne h]

theorem getD_set_own {listed : Array Bool} {i : Nat} (h : i < listed.size) : (listed.setIfInBounds i true).getD i false = true := by simp [h]

theorem RelInv.step (fit : RelFit ops listed1 H T n) {i : Nat} {o : Oper} {a : Act} {listed : Array Bool} {w w' : World} {v : Value} (hn : a1.tmps.size = n) (hi : i ∈ H) (ho : ops[i]? = some o)
    (inv : RelInv ops C H T Rs listed1 a1 a listed w) (hr : i ∈ Region.ready .any ops listed) (hC : C w') (hL : w' = w ∨ L w w') (hv : (relAt H Rs i).rel v w') :
    RelInv ops C H T Rs listed1 a1 (a.put o.dst v) (listed.setIfInBounds i true) w' := by
  obtain ⟨hun, oi, hoi, hall⟩ := mem_ready.1 hr
  have hilt := mem_ready_lt hr
  refine ⟨by simp [inv.lsize], ?_, ?_, ?_, hC, ?_, ?_, ?_, ?_⟩
  · intro j oj hoj hl e he hb
    by_cases hij : i = j
    · subst hij
      have : oj = oi := Option.some.inj (hoj.symm.trans hoi)
      subst this
      exact getD_set_true (hall e he hb)
    · rw [getD_set_ne false hij] at hl
      exact getD_set_true (inv.closed j oj hoj hl e he hb)
  · intro j hj
    exact getD_set_true (inv.base j hj)
  · intro t ht
    have hne : i ≠ t := fun h => (not_both fit hilt hi).1 (h ▸ ht)
    rw [getD_set_ne false hne]
    exact inv.tail t ht
  · rw [← inv.size]; cases o.dst <;> simp [Act.put]
  · rw [← inv.defers]; cases o.dst <;> simp [Act.put]
  · intro j hj oj hoj hl
    by_cases hij : i = j
    · subst hij
      have : oj = o := Option.some.inj (hoj.symm.trans ho)
      subst this
      refine ⟨v, hv, fun d hd => ?_⟩
      rw [hd]
      exact put_getD (by rw [inv.size, hn]; exact (fit.dst i hi oj hoj d hd).1)
    · rw [getD_set_ne false hij] at hl
      obtain ⟨u, hu, hd⟩ := inv.done j hj oj hoj hl
      refine ⟨u, ?_, fun d hdj => ?_⟩
      · rcases hL with rfl | hL
        · exact hu
        · exact (relAt H Rs j).stable _ _ _ hL hu
      · rw [← hd d hdj]
        cases hdo : o.dst with
        | none => rfl
        | some e =>
          refine put_getD_ne fun he => hij ?_
          subst he
          exact Option.some.inj ((fit.dst i hi o ho e hdo).2.symm.trans (fit.dst j hj oj hoj e hdj).2)
  · intro s hs
    rw [← inv.same s fun i' hi' o' ho' hd => by
      have h1 := hs i' hi' o' ho' hd
      by_cases hii : i = i'
      · subst hii; exact getD_both hun
      · rw [getD_set_ne false hii] at h1; exact h1]
    cases hdo : o.dst with
    | none => rfl
    | some e =>
      have hne : e ≠ s := fun he => by
        subst he
        have h1 := hs i hi o ho hdo
        rw [getD_set_own (by rw [inv.lsize]; exact hilt)] at h1
        cases h1
      simp [Act.put, Array.getElem?_setIfInBounds_ne hne]

/-- The least of the head that has not been carried out is ready. -/
theorem exists_ready (fit : RelFit ops listed1 H T n) {a : Act} {listed : Array Bool} {w : World} (inv : RelInv ops C H T Rs listed1 a1 a listed w) :
    ∀ (i : Nat), i ∈ H → listed.getD i false = false → ∃ j, j ∈ Region.ready .any ops listed := by
  intro i
  induction i using Nat.strongRecOn with
  | _ i ih =>
    intro hi hun
    have hlt := fit.hlt i hi
    have ho : ops[i]? = some ops[i] := by simp [hlt]
    by_cases hr : ∀ e ∈ ops[i].after, Region.binds .any e = true → listed.getD e.on false = true
    · exact ⟨i, mem_ready.2 ⟨getD_in (by rw [inv.lsize]; exact hlt) hun, _, ho, hr⟩⟩
    · simp only [Classical.not_forall] at hr
      obtain ⟨e, he, hb, hne⟩ := hr
      rcases fit.edge i hi _ ho e he hb with h | ⟨h, h'⟩
      · exact absurd (inv.base _ h) hne
      · exact ih e.on h' h (by simpa using hne)

/-- No operation of the tail is ready while one of the head is to come. -/
theorem tail_late (fit : RelFit ops listed1 H T n) {a : Act} {listed : Array Bool} {w : World} (inv : RelInv ops C H T Rs listed1 a1 a listed w) :
    ∀ (d i : Nat), ops.size - i = d → i ∈ H → listed.getD i false = false → ∀ t ∈ T, t ∉ Region.ready .any ops listed := by
  intro d
  induction d using Nat.strongRecOn with
  | _ d ih =>
    intro i hd hi hun t ht hr
    cases hT : T with
    | nil => rw [hT] at ht; cases ht
    | cons t0 r =>
      have hlt := fit.hlt i hi
      by_cases ht0 : t = t0
      · subst ht0
        rcases fit.sink t r hT i hi with h | ⟨j, hj, hij, h⟩
        · have := waits_ready h hr
          rw [hun] at this
          cases this
        · cases hl : listed.getD j false with
          | true =>
            have := waits_listed inv h hl
            rw [hun] at this
            cases this
          | false => exact ih (ops.size - j) (by omega) j rfl hj hl t ht hr
      · -- a later one of the tail waits for the one ahead of it
        have hch := fit.chain
        have key : ∀ (l : List Nat), (∀ x ∈ l, x ∈ T) → chainL ops l = true → ∀ x l', l = x :: l' → t ∈ l' → False := by
          intro l
          induction l with
          | nil => intro _ _ x l' h; cases h
          | cons y l ihl =>
            intro hsub hc x l' h htl
            obtain ⟨rfl, rfl⟩ := List.cons.inj h
            cases l with
            | nil => cases htl
            | cons u r' =>
              simp only [chainL, Bool.and_eq_true] at hc
              by_cases htu : t = u
              · subst htu
                have := waits_ready hc.1 hr
                rw [inv.tail y (hsub y (List.mem_cons_self ..))] at this
                cases this
              · exact ihl (fun z hz => hsub z (List.mem_cons_of_mem _ hz)) hc.2 u r' rfl (by
                  rcases List.mem_cons.1 htl with h | h
                  · exact absurd h htu
                  · exact h)
        have htr : t ∈ r := by
          rw [hT] at ht
          rcases List.mem_cons.1 ht with h | h
          · exact absurd h ht0
          · exact h
        exact key T (fun _ h => h) hch t0 r hT htr

/-- The tail, one operation behind the other. -/
theorem wpAny_tail : ∀ (l : List Nat) (listed : Array Bool) (a : Act) (w : World), listed.size = ops.size → (∀ t ∈ l, t < ops.size) → chainL ops l = true → tailEdgesB ops T l = true → l.Nodup →
      (∀ i, i < ops.size → (listed.getD i false = false ↔ i ∈ l)) →
      wpList P ops Q (l.filterMap (ops[·]?)) a w → wpAny P .any ops Q l.length listed a w
  | [], listed, a, w, hs, _, _, _, _, hl, h => by
    refine ⟨List.eq_nil_iff_forall_not_mem.2 fun i hi => ?_, by simpa [wpList] using h⟩
    have := (hl i (mem_ready_lt hi)).1 (getD_both (mem_ready.1 hi).1)
    cases this
  | t :: r, listed, a, w, hs, hlt, hc, he, hnd, hl, h => by
    have ht := hlt t (List.mem_cons_self ..)
    have ho : ops[t]? = some ops[t] := by simp [ht]
    simp only [tailEdgesB, ho, Bool.and_eq_true] at he
    obtain ⟨he1, he2⟩ := he
    have hready : t ∈ Region.ready .any ops listed := by
      refine mem_ready.2 ⟨getD_in (by rw [hs]; exact ht) ((hl t ht).2 (List.mem_cons_self ..)), _, ho, fun e hee hb => ?_⟩
      have := Array.all_eq_true'.1 he1 e hee
      simp only [hb, Bool.not_true, Bool.false_or, Bool.and_eq_true, decide_eq_true_eq, Bool.not_eq_true'] at this
      cases hle : listed.getD e.on false with
      | true => rfl
      | false =>
        have h1 := (hl e.on this.1).1 hle
        have h2 := this.2
        simp only [List.contains_eq_mem, decide_eq_false_iff_not] at h2
        exact absurd h1 h2
    refine ⟨fun h0 => (by rw [h0] at hready; cases hready), fun i hi => ?_⟩
    have hil := mem_ready_lt hi
    have himem := (hl i hil).1 (getD_both (mem_ready.1 hi).1)
    have hit : i = t := by
      have key : ∀ (l : List Nat), (∀ x ∈ l, listed.getD x false = false) → chainL ops l = true → ∀ x l', l = x :: l' → i ∈ l' → False := by
        intro l
        induction l with
        | nil => intro _ _ x l' h; cases h
        | cons y l ihl =>
          intro hsub hc x l' h htl
          obtain ⟨rfl, rfl⟩ := List.cons.inj h
          cases l with
          | nil => cases htl
          | cons u r' =>
            simp only [chainL, Bool.and_eq_true] at hc
            by_cases htu : i = u
            · subst htu
              have := waits_ready hc.1 hi
              rw [hsub y (List.mem_cons_self ..)] at this
              cases this
            · exact ihl (fun z hz => hsub z (List.mem_cons_of_mem _ hz)) hc.2 u r' rfl (by
                rcases List.mem_cons.1 htl with h | h
                · exact absurd h htu
                · exact h)
      rcases List.mem_cons.1 himem with h | h
      · exact h
      · exact (key (t :: r) (fun x hx => (hl x (hlt x hx)).2 hx) hc t r rfl h).elim
    subst hit
    have h' : wpOp P ops Q i (wpList P ops Q (r.filterMap (ops[·]?))) a w := by
      unfold wpOp
      simp only [ho]
      simpa [wpList, ho] using h
    have hnr : i ∉ r := (List.nodup_cons.1 hnd).1
    refine wpOp_mono (fun a' w' h2 => wpAny_tail r _ a' w' (by simp [hs]) (fun x hx => hlt x (List.mem_cons_of_mem _ hx)) ?_ he2 (List.nodup_cons.1 hnd).2 (fun j hj => ?_) h2) h'
    · cases r with
      | nil => rfl
      | cons u r' => simp only [chainL, Bool.and_eq_true] at hc; exact hc.2
    · by_cases hij : i = j
      · subst hij
        rw [getD_set_own (by rw [hs]; exact hj)]
        simp [hnr]
      · rw [getD_set_ne false hij, hl j hj, List.mem_cons]
        constructor
        · rintro (rfl | h)
          · exact absurd rfl hij
          · exact h
        · exact .inr

/-- How many of the head are still to come. -/
def toCome (listed : Array Bool) (H : List Nat) : Nat := (H.filter fun i => !listed.getD i false).length

theorem toCome_set {listed : Array Bool} {i : Nat} (hi : i < listed.size) (hun : listed.getD i false = false) : ∀ (H : List Nat), toCome (listed.setIfInBounds i true) H + H.count i = toCome listed H
  | [] => by simp [toCome]
  | j :: H => by
    have ih := toCome_set hi hun H
    simp only [toCome, List.filter_cons, List.count_cons] at ih ⊢
    by_cases hij : i = j
    · subst hij
      rw [getD_set_own hi, hun]
      simp at ih ⊢
      omega
    · rw [getD_set_ne false hij]
      have e : (if j == i then 1 else 0 : Nat) = 0 := by
        have : (j == i) = false := by simpa using Ne.symm hij
        rw [this]; rfl
      rw [e]
      split
      · simp only [List.length_cons]; omega
      · omega

/-- The head, in whatever order. -/
theorem wpAny_head (fit : RelFit ops listed1 H T n) (hn : a1.tmps.size = n) (howe : OwesAll P ops Q L C H Rs a1 H)
    (hfin : ∀ a w listed, RelInv ops C H T Rs listed1 a1 a listed w → (∀ j ∈ H, listed.getD j false = true) → wpList P ops Q (T.filterMap (ops[·]?)) a w) :
    ∀ (k : Nat) (listed : Array Bool) (a : Act) (w : World), toCome listed H = k → RelInv ops C H T Rs listed1 a1 a listed w → wpAny P .any ops Q (k + T.length) listed a w := by
  intro k
  induction k with
  | zero =>
    intro listed a w hk inv
    have hall : ∀ j ∈ H, listed.getD j false = true := by
      intro j hj
      have h0 := List.eq_nil_of_length_eq_zero hk
      have := List.filter_eq_nil_iff.1 h0 j hj
      simpa using this
    rw [Nat.zero_add]
    refine wpAny_tail (T := T) T listed a w inv.lsize fit.tlt fit.chain fit.tedge ?_ (fun i hi => ⟨fun hun => ?_, fun ht => inv.tail i ht⟩) (hfin a w listed inv hall)
    · refine List.nodup_iff_count.2 fun i => ?_
      by_cases hi : i ∈ T
      · have := fit.once i (fit.tlt i hi)
        omega
      · rw [List.count_eq_zero.2 hi]; omega
    · have h1 : listed1.getD i false = false := by
        cases h : listed1.getD i false with
        | false => rfl
        | true => rw [inv.base i h] at hun; cases hun
      rcases head_or_tail fit hi h1 with h | h
      · rw [hall i h] at hun; cases hun
      · exact h
  | succ k ih =>
    intro listed a w hk inv
    have ⟨i0, hi0, hun0⟩ : ∃ i ∈ H, listed.getD i false = false := by
      have hne : H.filter (fun i => !listed.getD i false) ≠ [] := fun h => by
        unfold toCome at hk
        rw [h] at hk
        cases hk
      obtain ⟨x, hx⟩ := List.exists_mem_of_ne_nil _ hne
      obtain ⟨h1, h2⟩ := List.mem_filter.1 hx
      exact ⟨x, h1, by simpa using h2⟩
    rw [show k + 1 + T.length = (k + T.length) + 1 by omega]
    refine ⟨fun h0 => ?_, fun i hi => ?_⟩
    · obtain ⟨j, hj⟩ := exists_ready fit inv i0 hi0 hun0
      rw [h0] at hj
      cases hj
    · have hun := (mem_ready.1 hi).1
      have hilt := mem_ready_lt hi
      have h1 : listed1.getD i false = false := by
        cases h : listed1.getD i false with
        | false => rfl
        | true => have := inv.base i h; rw [getD_both hun] at this; cases this
      have hiH : i ∈ H := by
        rcases head_or_tail fit hilt h1 with h | h
        · exact h
        · exact absurd hi (tail_late fit inv _ i0 rfl hi0 hun0 i h)
      have ho : ops[i]? = some ops[i] := by simp [hilt]
      have hcount : toCome (listed.setIfInBounds i true) H = k := by
        have := toCome_set (by rw [inv.lsize]; exact hilt) (getD_both hun) H
        have := (not_both fit hilt hiH).2.2
        omega
      obtain ⟨g1, g2⟩ := owesAll_mem howe i hiH _ ho a w inv.cls (opFacts_of fit hiH ho inv hi)
      unfold wpOp
      simp only [ho]
      split
      · rename_i hw
        refine .inl (Oper.wp_mono (fun a' w' hh => ?_) (g1 hw))
        obtain ⟨v, rfl, hv, hC, hL⟩ := hh
        exact ih _ _ _ hcount (inv.step fit hn hiH ho hi hC (.inr hL) hv)
      · rename_i hw
        exact ih _ _ _ hcount (inv.step fit hn hiH ho hi inv.cls (.inl rfl) (g2 (by simpa using hw)))

/-- The frame behind the head, slot by slot: what the last worlds' relations say, one behind the other. -/
theorem finR_of {K : Act → World → Prop} {w : World} : ∀ (ds : List (Option Tmp)) (Rs : List (SRel L)) (a : Act) (f : Nat → Value),
    (∀ i d, ds[i]? = some d → (Rs.getD i (SRel.any L)).rel (f i) w) → FinR K w ds Rs a → ds.length = Rs.length →
    K ((List.range ds.length).foldl (fun a i => a.put ((ds[i]?).getD none) (f i)) a) w
  | [], [], a, f, _, h, _ => h
  | d :: ds, R :: Rs, a, f, hr, h, hlen => by
    have h0 := hr 0 d rfl
    have := finR_of ds Rs (a.put d (f 0)) (fun i => f (i + 1)) (fun i d hi => by simpa using hr (i + 1) d (by simpa using hi)) (h _ (by simpa using h0)) (by simpa using hlen)
    simpa [List.range_succ_eq_map, List.foldl_map] using this
  | [], _ :: _, _, _, _, _, hlen => by cases hlen
  | _ :: _, [], _, _, _, _, hlen => by cases hlen

theorem foldl_put_get {a : Act} (ds : List (Option Tmp)) (f : Nat → Value) (s : Nat) (hs : s < a.tmps.size) : ∀ (l : List Nat) (b : Act), b.tmps.size = a.tmps.size → (∀ i d, ds[i]? = some (some d) → f i = a.tmps.getD d undef) →
    ((l.foldl (fun a i => a.put ((ds[i]?).getD none) (f i)) b).tmps[s]? = a.tmps[s]? ∧ (∃ i ∈ l, (ds[i]?).getD none = some s)) ∨
    ((l.foldl (fun a i => a.put ((ds[i]?).getD none) (f i)) b).tmps[s]? = b.tmps[s]? ∧ ∀ i ∈ l, (ds[i]?).getD none ≠ some s)
  | [], b, _, _ => .inr ⟨rfl, fun _ h => by cases h⟩
  | i :: l, b, hb, hf => by
    have hb' : (b.put ((ds[i]?).getD none) (f i)).tmps.size = a.tmps.size := by
      rw [← hb]; cases (ds[i]?).getD none <;> simp [Act.put]
    rcases foldl_put_get ds f s hs l (b.put ((ds[i]?).getD none) (f i)) hb' hf with ⟨h1, h2⟩ | ⟨h1, h2⟩
    · left
      obtain ⟨j, hj, hd⟩ := h2
      exact ⟨h1, j, List.mem_cons_of_mem _ hj, hd⟩
    · by_cases hd : (ds[i]?).getD none = some s
      · left
        refine ⟨?_, i, List.mem_cons_self .., hd⟩
        simp only [List.foldl_cons]
        rw [h1, hd]
        have hdi : ds[i]? = some (some s) := by
          cases h3 : ds[i]? with
          | none => rw [h3] at hd; cases hd
          | some x => rw [h3] at hd; simp at hd; rw [hd]
        have := hf i s hdi
        simp [Act.put, hb, hs, this]
      · right
        refine ⟨?_, fun j hj => ?_⟩
        · simp only [List.foldl_cons]
          rw [h1]
          cases h3 : (ds[i]?).getD none with
          | none => rfl
          | some e =>
            have hne : e ≠ s := fun he => hd (by rw [h3, he])
            simp [Act.put, Array.getElem?_setIfInBounds_ne hne]
        · rcases List.mem_cons.1 hj with rfl | hj
          · exact hd
          · exact h2 j hj

theorem foldl_put_size (ds : List (Option Tmp)) (f : Nat → Value) : ∀ (l : List Nat) (b : Act), (l.foldl (fun a i => a.put ((ds[i]?).getD none) (f i)) b).tmps.size = b.tmps.size ∧ (l.foldl (fun a i => a.put ((ds[i]?).getD none) (f i)) b).defers = b.defers
  | [], _ => ⟨rfl, rfl⟩
  | i :: l, b => by
    obtain ⟨h1, h2⟩ := foldl_put_size ds f l (b.put ((ds[i]?).getD none) (f i))
    simp only [List.foldl_cons, h1, h2]
    cases (ds[i]?).getD none <;> simp [Act.put]


theorem relAt_get : ∀ (H : List Nat) (Rs : List (SRel L)) (k i : Nat), H.Nodup → H[k]? = some i → Rs.length = H.length → Rs.getD k (SRel.any L) = relAt H Rs i
  | h :: H, R :: Rs, 0, i, _, hk, _ => by
    obtain rfl : h = i := by simpa using hk
    simp [relAt]
  | h :: H, R :: Rs, k + 1, i, hnd, hk, hlen => by
    have hk' : H[k]? = some i := by simpa using hk
    have hne : h ≠ i := fun e => (List.nodup_cons.1 hnd).1 (e ▸ List.mem_of_getElem? hk')
    have := relAt_get H Rs k i (List.nodup_cons.1 hnd).2 hk' (by simpa using hlen)
    simpa [relAt, hne] using this
  | [], _, k, i, _, hk, _ => by cases hk
  | _ :: _, [], _, _, _, _, hlen => by cases hlen

/-- The frame when all of the head has been carried out. -/
theorem relInv_fin (fit : RelFit ops listed1 H T n) (hnd : H.Nodup) (hn : a1.tmps.size = n) (hlen : Rs.length = H.length) {K : Act → World → Prop} {a : Act} {w' : World} {listed : Array Bool}
    (inv : RelInv ops C H T Rs listed1 a1 a listed w') (hall : ∀ j ∈ H, listed.getD j false = true)
    (hfin : ∀ w', C w' → FinR K w' (H.map fun i => (ops[i]?).bind (·.dst)) Rs a1) : K a w' := by
  have hds : (H.map fun i => (ops[i]?).bind (·.dst)).length = H.length := by simp
  have hvals : ∀ k : Nat, ∃ v, ∀ i o, H[k]? = some i → ops[i]? = some o → (relAt H Rs i).rel v w' ∧ ∀ d, o.dst = some d → a.tmps.getD d undef = v := fun k => by
    cases hk : H[k]? with
    | none => exact ⟨undef, fun _ _ h => by cases h⟩
    | some i =>
      have hiH := List.mem_of_getElem? hk
      have hilt := fit.hlt i hiH
      have ho : ops[i]? = some ops[i] := by simp [hilt]
      obtain ⟨v, h1, h2⟩ := inv.done i hiH _ ho (hall i hiH)
      refine ⟨v, fun i' o hi' ho' => ?_⟩
      obtain rfl : i = i' := Option.some.inj hi'
      obtain rfl : ops[i] = o := Option.some.inj (ho.symm.trans ho')
      exact ⟨h1, h2⟩
  obtain ⟨f, hf⟩ := Classical.axiomOfChoice hvals
  have hget : ∀ (k : Nat) (d : Option Tmp), (H.map fun i => (ops[i]?).bind (·.dst))[k]? = some d → ∃ i o, H[k]? = some i ∧ ops[i]? = some o ∧ o.dst = d := fun k d h => by
    rw [List.getElem?_map] at h
    cases hk : H[k]? with
    | none => rw [hk] at h; cases h
    | some i =>
      rw [hk] at h
      have hilt := fit.hlt i (List.mem_of_getElem? hk)
      have ho : ops[i]? = some ops[i] := by simp [hilt]
      refine ⟨i, ops[i], rfl, ho, ?_⟩
      simpa [ho] using h
  have h1 := finR_of _ Rs a1 f (fun k d hk => by
    obtain ⟨i, o, hki, ho, _⟩ := hget k d hk
    rw [relAt_get H Rs k i hnd hki hlen]
    exact (hf k i o hki ho).1) (hfin w' inv.cls) (by rw [hds, hlen])
  have heq : (List.range (H.map fun i => (ops[i]?).bind (·.dst)).length).foldl (fun a i => a.put (((H.map fun i => (ops[i]?).bind (·.dst))[i]?).getD none) (f i)) a1 = a := by
    obtain ⟨s1, s2⟩ := foldl_put_size (H.map fun i => (ops[i]?).bind (·.dst)) f (List.range (H.map fun i => (ops[i]?).bind (·.dst)).length) a1
    have ht : ((List.range (H.map fun i => (ops[i]?).bind (·.dst)).length).foldl (fun a i => a.put (((H.map fun i => (ops[i]?).bind (·.dst))[i]?).getD none) (f i)) a1).tmps = a.tmps := by
      apply Array.ext_getElem?
      intro s
      by_cases hs : s < a.tmps.size
      · rcases foldl_put_get (a := a) (H.map fun i => (ops[i]?).bind (·.dst)) f s hs (List.range (H.map fun i => (ops[i]?).bind (·.dst)).length) a1 inv.size.symm (fun k d hk => by
          obtain ⟨i, o, hki, ho, hd⟩ := hget k (some d) hk
          exact ((hf k i o hki ho).2 d hd).symm) with ⟨h2, _⟩ | ⟨h2, h3⟩
        · exact h2
        · rw [h2]
          refine (inv.same s fun i hi o ho hd => ?_).symm
          obtain ⟨k, hk, hki⟩ := List.getElem_of_mem hi
          have h4 : (H.map fun i => (ops[i]?).bind (·.dst))[k]? = some (some s) := by
            rw [List.getElem?_map, List.getElem?_eq_getElem hk, hki]
            simp [ho, hd]
          have := h3 k (List.mem_range.2 (by rw [hds]; exact hk))
          rw [h4] at this
          exact absurd rfl this
      · rw [Array.getElem?_eq_none (by rw [s1, ← inv.size]; omega), Array.getElem?_eq_none (by omega)]
    have hd : ((List.range (H.map fun i => (ops[i]?).bind (·.dst)).length).foldl (fun a i => a.put (((H.map fun i => (ops[i]?).bind (·.dst))[i]?).getD none) (f i)) a1).defers = a.defers := by rw [s2, inv.defers]
    generalize (List.range (H.map fun i => (ops[i]?).bind (·.dst)).length).foldl (fun a i => a.put (((H.map fun i => (ops[i]?).bind (·.dst))[i]?).getD none) (f i)) a1 = b at ht hd
    cases a; cases b
    simp only at ht hd
    rw [ht, hd]
  rw [heq] at h1
  exact h1

/-- Behind what was taken first: the head by relations, the tail in the order of the text. -/
theorem wpAny_rel {w : World} (L : World → World → Prop) (C : World → Prop) (H T : List Nat) (Rs : List (SRel L)) (n : Nat)
    (hn : a1.tmps.size = n) (hlen : Rs.length = H.length) (hB : relB ops listed1 H T n = true) (hC : C w)
    (howe : OwesAll P ops Q L C H Rs a1 H)
    (hfin : ∀ w', C w' → FinR (wpList P ops Q (T.filterMap (ops[·]?))) w' (H.map fun i => (ops[i]?).bind (·.dst)) Rs a1) :
    wpAny P .any ops Q (H.length + T.length) listed1 a1 w := by
  have fit := relFit_of hB
  have hnd : H.Nodup := List.nodup_iff_count.2 fun i => by
    by_cases hi : i ∈ H
    · have := (not_both fit (fit.hlt i hi) hi).2.2; omega
    · rw [List.count_eq_zero.2 hi]; omega
  have hcome : toCome listed1 H = H.length := by
    unfold toCome
    rw [List.filter_eq_self.2 fun i hi => by rw [(not_both fit (fit.hlt i hi) hi).2.1]; rfl]
  have key := wpAny_head (Q := Q) (P := P) (L := L) (C := C) (Rs := Rs) (a1 := a1) fit hn howe (fun a w' listed inv hall => ?_) H.length listed1 a1 w hcome
    ⟨fit.size, fit.closed, fun _ h => h, fun t ht => ?_, hC, rfl, rfl, fun i hi o ho hl => ?_, fun _ _ => rfl⟩
  · exact key
  · exact relInv_fin fit hnd hn hlen inv hall hfin
  · cases h : listed1.getD t false with
    | false => rfl
    | true =>
      have := fit.once t (fit.tlt t ht)
      have h2 := List.count_pos_iff.2 ht
      rw [h] at this
      simp at this
      omega
  · rw [(not_both fit (fit.hlt i hi) hi).2.1] at hl
    cases hl

/-- A REGION THAT DRAWS ITS ORDER, all of it by relations. -/
theorem wp_region_rel {id : Nat} {w : World} (L : World → World → Prop) (C : World → Prop) (H : List Nat) (ds : List (Option Tmp)) (Rs : List (SRel L)) (n : Nat)
    (hmix : P.follows .mixedOrders = true) (hn : a1.tmps.size = n) (hlen : Rs.length = H.length) (hsz : H.length = ops.size) (hds : (H.map fun i => (ops[i]?).bind (·.dst)) = ds) (hB : relB ops (Array.replicate ops.size false) H [] n = true)
    (hC : C { w with drawn := w.drawn + 1 })
    (howe : OwesAll P ops Q L C H Rs a1 H)
    (hfin : ∀ w', C w' → FinR (Q .normal) w' ds Rs a1) :
    (Code.region id ops true).wp P Q a1 w := by
  refine wp_region_any hmix ?_
  have := wpAny_rel (P := P) (Q := Q) (ops := ops) (a1 := a1) L C H [] Rs n hn hlen hB hC howe (by rw [hds]; exact hfin)
  simp only [List.length_nil, Nat.add_zero, hsz] at this
  exact this

/-- The same with a tail. -/
theorem wp_region_relT {id : Nat} {w : World} (L : World → World → Prop) (C : World → Prop) (H T : List Nat) (ds : List (Option Tmp)) (tl : List Oper) (Rs : List (SRel L)) (n : Nat)
    (hmix : P.follows .mixedOrders = true) (hn : a1.tmps.size = n) (hlen : Rs.length = H.length) (hsz : H.length + T.length = ops.size) (hds : (H.map fun i => (ops[i]?).bind (·.dst)) = ds) (htl : T.filterMap (ops[·]?) = tl) (hB : relB ops (Array.replicate ops.size false) H T n = true)
    (hC : C { w with drawn := w.drawn + 1 })
    (howe : OwesAll P ops Q L C H Rs a1 H)
    (hfin : ∀ w', C w' → FinR (wpList P ops Q tl) w' ds Rs a1) :
    (Code.region id ops true).wp P Q a1 w := by
  refine wp_region_any hmix ?_
  have := wpAny_rel (P := P) (Q := Q) (ops := ops) (a1 := a1) L C H T Rs n hn hlen hB hC howe (by rw [hds, htl]; exact hfin)
  rwa [hsz] at this

/-- With a tail, behind some operations that were taken first ('listed1', 'a1'). -/
theorem wpAny_relT {w : World} {k : Nat} (L : World → World → Prop) (C : World → Prop) (H T : List Nat) (ds : List (Option Tmp)) (tl : List Oper) (Rs : List (SRel L)) (n : Nat)
    (hn : a1.tmps.size = n) (hlen : Rs.length = H.length) (hsz : H.length + T.length = k) (hds : (H.map fun i => (ops[i]?).bind (·.dst)) = ds) (htl : T.filterMap (ops[·]?) = tl) (hB : relB ops listed1 H T n = true)
    (hC : C w)
    (howe : OwesAll P ops Q L C H Rs a1 H)
    (hfin : ∀ w', C w' → FinR (wpList P ops Q tl) w' ds Rs a1) :
    wpAny P .any ops Q k listed1 a1 w := by
  have := wpAny_rel (P := P) (Q := Q) (ops := ops) (a1 := a1) L C H T Rs n hn hlen hB hC howe (by rw [hds, htl]; exact hfin)
  rwa [hsz] at this

/-- One operation is taken first: it yields its value in every world. -/
theorem wp_region_pre {id : Nat} {w : World} {i : Nat} {oi : Oper} {v : Value} (hmix : P.follows .mixedOrders = true) (hi : ops[i]? = some oi) (hs : Region.noSelect ops = true)
    (hf : Region.free .any ops (Array.replicate ops.size false) i = true) (hr : (Region.ready .any ops (Array.replicate ops.size false)).contains i = true)
    (hQ : ∀ c a w, Q (.panic c) (a.put oi.dst v) w → Q (.panic c) a w) (hg : oi.guard = none) (hrun : ∀ w, (execOp a1.eval oi).run P w = .ok (.value v) w) {k : Nat} (hk : ops.size = k + 1)
    (h : wpAny P .any ops Q k ((Array.replicate ops.size false).setIfInBounds i true) (a1.put oi.dst v) { w with drawn := w.drawn + 1 }) : (Code.region id ops true).wp P Q a1 w := by
  refine wp_region_any hmix ?_
  generalize hl : Array.replicate ops.size false = l at *
  rw [hk]
  exact wpAny_take hi hs hf hr hQ (.inl ⟨by unfold Region.wanted; rw [hg], hrun⟩) h

/-- A region that does not draw: in the order of the text. -/
theorem wpOps_rel (fit : RelFit ops listed1 H [] n) (hH : ∀ i, i < ops.size → i ∈ H) (hn : a1.tmps.size = n) (howe : OwesAll P ops Q L C H Rs a1 H)
    (hfin : ∀ a w listed, RelInv ops C H [] Rs listed1 a1 a listed w → (∀ j ∈ H, listed.getD j false = true) → Q .normal a w) :
    ∀ (m k : Nat) (listed : Array Bool) (a : Act) (w : World), k + m = ops.size → (∀ j, j < ops.size → listed.getD j false = decide (j < k)) → RelInv ops C H [] Rs listed1 a1 a listed w →
      wpOps P ops Q (List.range' k m) a w
  | 0, k, listed, a, w, hk, hl, inv => by
    simp only [List.range'_zero, wpOps]
    exact hfin a w listed inv fun j hj => by
      have := fit.hlt j hj
      rw [hl j this]
      simp
      omega
  | m + 1, k, listed, a, w, hk, hl, inv => by
    have hlt : k < ops.size := by omega
    have ho : ops[k]? = some ops[k] := by simp [hlt]
    have hkH := hH k hlt
    have hready : k ∈ Region.ready .any ops listed := by
      refine mem_ready.2 ⟨getD_in (by rw [inv.lsize]; exact hlt) (by rw [hl k hlt]; simp), _, ho, fun e he hb => ?_⟩
      rcases fit.edge k hkH _ ho e he hb with h | ⟨h, h'⟩
      · exact inv.base _ h
      · rw [hl e.on (by omega)]; simpa using h'
    obtain ⟨g1, g2⟩ := owesAll_mem howe k hkH _ ho a w inv.cls (opFacts_of fit hkH ho inv hready)
    have hset : ∀ j, j < ops.size → (listed.setIfInBounds k true).getD j false = decide (j < k + 1) := fun j hj => by
      by_cases hkj : k = j
      · subst hkj
        rw [getD_set_own (by rw [inv.lsize]; exact hj)]
        simp
      · rw [getD_set_ne false hkj, hl j hj]
        simp only [decide_eq_decide]
        omega
    rw [List.range'_succ, wpOps_cons]
    unfold wpOp
    simp only [ho]
    split
    · rename_i hw
      refine .inl (Oper.wp_mono (fun a' w' hh => ?_) (g1 hw))
      obtain ⟨v, rfl, hv, hC, hL⟩ := hh
      exact wpOps_rel fit hH hn howe hfin m (k + 1) _ _ _ (by omega) hset (inv.step fit hn hkH ho hready hC (.inr hL) hv)
    · rename_i hw
      exact wpOps_rel fit hH hn howe hfin m (k + 1) _ _ _ (by omega) hset (inv.step fit hn hkH ho hready inv.cls (.inl rfl) (g2 (by simpa using hw)))

/-- A REGION IN THE ORDER OF THE TEXT, by relations. -/
theorem wp_region_seq {id : Nat} {w : World} (L : World → World → Prop) (C : World → Prop) (H : List Nat) (ds : List (Option Tmp)) (Rs : List (SRel L)) (n : Nat)
    (hn : a1.tmps.size = n) (hlen : Rs.length = H.length) (hH : (List.range ops.size).all (fun i => H.contains i) = true) (hds : (H.map fun i => (ops[i]?).bind (·.dst)) = ds) (hB : relB ops (Array.replicate ops.size false) H [] n = true)
    (hC : C w) (howe : OwesAll P ops Q L C H Rs a1 H)
    (hfin : ∀ w', C w' → FinR (Q .normal) w' ds Rs a1) :
    (Code.region id ops false).wp P Q a1 w := by
  have fit := relFit_of hB
  have hnd : H.Nodup := List.nodup_iff_count.2 fun i => by
    by_cases hi : i ∈ H
    · have := (not_both fit (fit.hlt i hi) hi).2.2; omega
    · rw [List.count_eq_zero.2 hi]; omega
  refine wp_region ?_
  rw [List.range_eq_range']
  refine wpOps_rel (L := L) (C := C) (Rs := Rs) fit (fun i hi => by simpa using List.all_eq_true.1 hH i (List.mem_range.2 hi)) hn howe (fun a w listed inv hall => relInv_fin fit hnd hn hlen inv hall (by rw [hds]; exact hfin)) _ 0 _ _ _ (by omega) (fun j hj => by rw [getD_replicate_false]; simp)
    ⟨by simp, fun i o _ hl => (by rw [getD_replicate_false] at hl; cases hl), fun _ h => h, fun _ h => (by cases h), hC, rfl, rfl, fun i _ o _ hl => (by rw [getD_replicate_false] at hl; cases hl), fun _ _ => rfl⟩
end
end Go.Proofs.Ytnflnbdlgdjfmaa
