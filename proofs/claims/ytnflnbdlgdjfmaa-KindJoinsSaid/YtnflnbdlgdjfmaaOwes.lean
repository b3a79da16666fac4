/-
  What an operation of a drawn region owes, by kinds of operations. Conditions: those typed in each theorem.
-/
import Derived.Test.YtnflnbdlgdjfmaaRel
import Derived.WalkKit
namespace Go.Proofs.Ytnflnbdlgdjfmaa
set_option linter.unusedSimpArgs false
set_option linter.unusedVariables false
section
variable {P : Program} {ops : Array Oper} {Q : Exit → Act → World → Prop} {L : World → World → Prop} {C : World → Prop} {H : List Nat} {Rs : List (SRel L)} {a1 : Act} {i : Nat} {o : Oper}

/-- The guard: b: is the operation wanted? -/
def GuardIs (ops : Array Oper) (H : List Nat) (Rs : List (SRel L)) (a1 : Act) (i : Nat) (o : Oper) (b : Bool) : Prop :=
  match o.guard with
  | none => b = true
  | some (g, want) => ∃ s x, (ops[g]?).bind (·.dst) = some s ∧ slotRel ops H Rs a1 i s = SRel.is L (.bool x) ∧ (x == want) = b

theorem guard_none {o : Oper} (h : o.guard = none) : GuardIs ops H Rs a1 i o true := by
  unfold GuardIs; rw [h]
theorem guard_some {o : Oper} {g : Nat} {want x b : Bool} {s : Tmp} (h : o.guard = some (g, want)) (hs : (ops[g]?).bind (·.dst) = some s) (hr : slotRel ops H Rs a1 i s = SRel.is L (.bool x)) (hb : (x == want) = b) :
    GuardIs ops H Rs a1 i o b := by
  unfold GuardIs; rw [h]; exact ⟨s, x, hs, hr, hb⟩

theorem wanted_of {b : Bool} {a : Act} {w : World} (hg : GuardIs ops H Rs a1 i o b) (hF : OpFacts ops H Rs a1 i o a w) : Region.wanted o (yielded ops a.tmps) = b := by
  unfold GuardIs at hg
  unfold Region.wanted
  cases ho : o.guard with
  | none => rw [ho] at hg; exact hg.symm
  | some gw =>
    obtain ⟨g, want⟩ := gw
    rw [ho] at hg
    obtain ⟨s, x, hs, hr, hb⟩ := hg
    have hl : (o.looksAt ops).contains s = true := by simp [Oper.looksAt, ho, hs]
    have hv := hF s hl
    rw [hr] at hv
    have hv' : a.tmps.getD s undef = .bool x := hv
    have hy : yielded ops a.tmps g = some x := by
      unfold yielded
      rw [hs]
      simp only [Option.bind_some]
      rw [Array.getD_eq_getD_getElem?] at hv'
      cases h : a.tmps[s]? with
      | none => rw [h] at hv'; cases hv'
      | some y =>
        rw [h] at hv'
        simp only [Option.getD_some] at hv'
        rw [hv']
    simp only [hy]
    rw [← hb]
    cases x <;> cases want <;> rfl

/-- Not wanted: nothing is done. -/
theorem owes_skip (hg : GuardIs ops H Rs a1 i o false) (hR : relAt H Rs i = SRel.is L undef) : OpOwes P ops Q L C H Rs a1 i o := by
  intro a w hC hF
  have hw := wanted_of hg hF
  rw [hw]
  exact ⟨fun h => (by cases h), fun _ => (by rw [hR]; rfl)⟩

/-- Wanted: what it does. -/
theorem owes_wp (hg : GuardIs ops H Rs a1 i o true)
    (h : ∀ a w, C w → OpFacts ops H Rs a1 i o a w → o.wp P a w (fun a' w' => ∃ v, a' = a.put o.dst v ∧ (relAt H Rs i).rel v w' ∧ C w' ∧ L w w') Q) : OpOwes P ops Q L C H Rs a1 i o := by
  intro a w hC hF
  have hw := wanted_of hg hF
  rw [hw]
  exact ⟨fun _ => h a w hC hF, fun h => (by cases h)⟩

/-- An operation that yields one value and leaves the world alone. -/
theorem owes_run {v : Value} (hg : GuardIs ops H Rs a1 i o true) (hR : relAt H Rs i = SRel.is L v) (hL : ∀ w, L w w)
    (h : ∀ a w, C w → OpFacts ops H Rs a1 i o a w → (execOp a.eval o).run P w = .ok (.value v) w) : OpOwes P ops Q L C H Rs a1 i o := by
  refine owes_wp hg fun a w hC hF => ?_
  unfold Oper.wp
  rw [h a w hC hF]
  simp only [Oper.upon]
  exact ⟨v, rfl, by rw [hR]; rfl, hC, hL w⟩

theorem fact_of {a : Act} {w : World} {x : Tmp} {R : SRel L} (hF : OpFacts ops H Rs a1 i o a w) (hx : slotRel ops H Rs a1 i x = R) (hl : (o.looksAt ops).contains x = true) : R.rel (a.tmps.getD x undef) w := by
  have := hF x hl
  rwa [hx] at this

/-- One slot is looked at. -/
theorem owes_run1 {v vx : Value} (x : Tmp) (hg : GuardIs ops H Rs a1 i o true) (hR : relAt H Rs i = SRel.is L v) (hL : ∀ w, L w w)
    (hx : slotRel ops H Rs a1 i x = SRel.is L vx) (hl : (o.looksAt ops).contains x = true)
    (h : ∀ (a : Act) w, C w → a.tmps.getD x undef = vx → (execOp a.eval o).run P w = .ok (.value v) w) : OpOwes P ops Q L C H Rs a1 i o :=
  owes_run hg hR hL fun a w hC hF => h a w hC (fact_of hF hx hl)

/-- Two slots are looked at. -/
theorem owes_run2 {v vx vy : Value} (x y : Tmp) (hg : GuardIs ops H Rs a1 i o true) (hR : relAt H Rs i = SRel.is L v) (hL : ∀ w, L w w)
    (hx : slotRel ops H Rs a1 i x = SRel.is L vx) (hl : (o.looksAt ops).contains x = true) (hy : slotRel ops H Rs a1 i y = SRel.is L vy) (hm : (o.looksAt ops).contains y = true)
    (h : ∀ (a : Act) w, C w → a.tmps.getD x undef = vx → a.tmps.getD y undef = vy → (execOp a.eval o).run P w = .ok (.value v) w) : OpOwes P ops Q L C H Rs a1 i o :=
  owes_run hg hR hL fun a w hC hF => h a w hC (fact_of hF hx hl) (fact_of hF hy hm)

theorem owes_load {dst : Option Tmp} {t : TypeId} {x : Tmp} {ty : TypeId} {pos : String} {after : Array Edge} {guard : Option (Nat × Bool)} {v vx : Value}
    (hg : GuardIs ops H Rs a1 i ⟨dst, .load t (.tmp x), ty, pos, after, guard⟩ true)
    (hx : slotRel ops H Rs a1 i x = SRel.is L vx)
    (hR : relAt H Rs i = SRel.is L v) (hL : ∀ w, L w w) (h : ∀ (a : Act) w, C w → a.tmps.getD x undef = vx → (execOp a.eval ⟨dst, .load t (.tmp x), ty, pos, after, guard⟩).run P w = .ok (.value v) w) :
    OpOwes P ops Q L C H Rs a1 i ⟨dst, .load t (.tmp x), ty, pos, after, guard⟩ :=
  owes_run hg hR hL fun a w hC hF => h a w hC (fact_of hF hx (by simp [Oper.looksAt, Op.operands, Call.operands]))
theorem owes_loadG {dst : Option Tmp} {t : TypeId} {g : Nat} {ty : TypeId} {pos : String} {after : Array Edge} {guard : Option (Nat × Bool)} {v : Value}
    (hg : GuardIs ops H Rs a1 i ⟨dst, .load t (.global g), ty, pos, after, guard⟩ true)
    (hR : relAt H Rs i = SRel.is L v) (hL : ∀ w, L w w) (h : ∀ (a : Act) w, C w → (execOp a.eval ⟨dst, .load t (.global g), ty, pos, after, guard⟩).run P w = .ok (.value v) w) :
    OpOwes P ops Q L C H Rs a1 i ⟨dst, .load t (.global g), ty, pos, after, guard⟩ :=
  owes_run hg hR hL fun a w hC _ => h a w hC 
theorem owes_fieldAddr {dst : Option Tmp} {t : TypeId} {f : Nat} {x : Tmp} {ty : TypeId} {pos : String} {after : Array Edge} {guard : Option (Nat × Bool)} {v vx : Value}
    (hg : GuardIs ops H Rs a1 i ⟨dst, .fieldAddr t (.tmp x) f, ty, pos, after, guard⟩ true)
    (hx : slotRel ops H Rs a1 i x = SRel.is L vx)
    (hR : relAt H Rs i = SRel.is L v) (hL : ∀ w, L w w) (h : ∀ (a : Act) w, C w → a.tmps.getD x undef = vx → (execOp a.eval ⟨dst, .fieldAddr t (.tmp x) f, ty, pos, after, guard⟩).run P w = .ok (.value v) w) :
    OpOwes P ops Q L C H Rs a1 i ⟨dst, .fieldAddr t (.tmp x) f, ty, pos, after, guard⟩ :=
  owes_run hg hR hL fun a w hC hF => h a w hC (fact_of hF hx (by simp [Oper.looksAt, Op.operands, Call.operands]))
theorem owes_indexAddr {dst : Option Tmp} {t : TypeId} {x y : Tmp} {ty : TypeId} {pos : String} {after : Array Edge} {guard : Option (Nat × Bool)} {v vx vy : Value}
    (hg : GuardIs ops H Rs a1 i ⟨dst, .indexAddr t (.tmp x) (.tmp y), ty, pos, after, guard⟩ true)
    (hx : slotRel ops H Rs a1 i x = SRel.is L vx)
    (hy : slotRel ops H Rs a1 i y = SRel.is L vy)
    (hR : relAt H Rs i = SRel.is L v) (hL : ∀ w, L w w) (h : ∀ (a : Act) w, C w → a.tmps.getD x undef = vx → a.tmps.getD y undef = vy → (execOp a.eval ⟨dst, .indexAddr t (.tmp x) (.tmp y), ty, pos, after, guard⟩).run P w = .ok (.value v) w) :
    OpOwes P ops Q L C H Rs a1 i ⟨dst, .indexAddr t (.tmp x) (.tmp y), ty, pos, after, guard⟩ :=
  owes_run hg hR hL fun a w hC hF => h a w hC (fact_of hF hx (by simp [Oper.looksAt, Op.operands, Call.operands])) (fact_of hF hy (by simp [Oper.looksAt, Op.operands, Call.operands]))
theorem owes_indexAddrC {dst : Option Tmp} {t : TypeId} {c : Value} {x : Tmp} {ty : TypeId} {pos : String} {after : Array Edge} {guard : Option (Nat × Bool)} {v vx : Value}
    (hg : GuardIs ops H Rs a1 i ⟨dst, .indexAddr t (.tmp x) (.const c), ty, pos, after, guard⟩ true)
    (hx : slotRel ops H Rs a1 i x = SRel.is L vx)
    (hR : relAt H Rs i = SRel.is L v) (hL : ∀ w, L w w) (h : ∀ (a : Act) w, C w → a.tmps.getD x undef = vx → (execOp a.eval ⟨dst, .indexAddr t (.tmp x) (.const c), ty, pos, after, guard⟩).run P w = .ok (.value v) w) :
    OpOwes P ops Q L C H Rs a1 i ⟨dst, .indexAddr t (.tmp x) (.const c), ty, pos, after, guard⟩ :=
  owes_run hg hR hL fun a w hC hF => h a w hC (fact_of hF hx (by simp [Oper.looksAt, Op.operands, Call.operands]))
theorem owes_move {dst : Option Tmp}  {x : Tmp} {ty : TypeId} {pos : String} {after : Array Edge} {guard : Option (Nat × Bool)} {v vx : Value}
    (hg : GuardIs ops H Rs a1 i ⟨dst, .move (.tmp x), ty, pos, after, guard⟩ true)
    (hx : slotRel ops H Rs a1 i x = SRel.is L vx)
    (hR : relAt H Rs i = SRel.is L v) (hL : ∀ w, L w w) (h : ∀ (a : Act) w, C w → a.tmps.getD x undef = vx → (execOp a.eval ⟨dst, .move (.tmp x), ty, pos, after, guard⟩).run P w = .ok (.value v) w) :
    OpOwes P ops Q L C H Rs a1 i ⟨dst, .move (.tmp x), ty, pos, after, guard⟩ :=
  owes_run hg hR hL fun a w hC hF => h a w hC (fact_of hF hx (by simp [Oper.looksAt, Op.operands, Call.operands]))
theorem owes_moveC {dst : Option Tmp} {c : Value} {ty : TypeId} {pos : String} {after : Array Edge} {guard : Option (Nat × Bool)} {v : Value}
    (hg : GuardIs ops H Rs a1 i ⟨dst, .move (.const c), ty, pos, after, guard⟩ true)
    (hR : relAt H Rs i = SRel.is L v) (hL : ∀ w, L w w) (h : ∀ (a : Act) w, C w → (execOp a.eval ⟨dst, .move (.const c), ty, pos, after, guard⟩).run P w = .ok (.value v) w) :
    OpOwes P ops Q L C H Rs a1 i ⟨dst, .move (.const c), ty, pos, after, guard⟩ :=
  owes_run hg hR hL fun a w hC _ => h a w hC 
theorem owes_assign {dst : Option Tmp}  {x : Tmp} {ty : TypeId} {pos : String} {after : Array Edge} {guard : Option (Nat × Bool)} {v vx : Value}
    (hg : GuardIs ops H Rs a1 i ⟨dst, .assign (.tmp x), ty, pos, after, guard⟩ true)
    (hx : slotRel ops H Rs a1 i x = SRel.is L vx)
    (hR : relAt H Rs i = SRel.is L v) (hL : ∀ w, L w w) (h : ∀ (a : Act) w, C w → a.tmps.getD x undef = vx → (execOp a.eval ⟨dst, .assign (.tmp x), ty, pos, after, guard⟩).run P w = .ok (.value v) w) :
    OpOwes P ops Q L C H Rs a1 i ⟨dst, .assign (.tmp x), ty, pos, after, guard⟩ :=
  owes_run hg hR hL fun a w hC hF => h a w hC (fact_of hF hx (by simp [Oper.looksAt, Op.operands, Call.operands]))
theorem owes_assignC {dst : Option Tmp} {c : Value} {ty : TypeId} {pos : String} {after : Array Edge} {guard : Option (Nat × Bool)} {v : Value}
    (hg : GuardIs ops H Rs a1 i ⟨dst, .assign (.const c), ty, pos, after, guard⟩ true)
    (hR : relAt H Rs i = SRel.is L v) (hL : ∀ w, L w w) (h : ∀ (a : Act) w, C w → (execOp a.eval ⟨dst, .assign (.const c), ty, pos, after, guard⟩).run P w = .ok (.value v) w) :
    OpOwes P ops Q L C H Rs a1 i ⟨dst, .assign (.const c), ty, pos, after, guard⟩ :=
  owes_run hg hR hL fun a w hC _ => h a w hC 
theorem owes_unOp {dst : Option Tmp} {p : UnOp} {t : TypeId} {x : Tmp} {ty : TypeId} {pos : String} {after : Array Edge} {guard : Option (Nat × Bool)} {v vx : Value}
    (hg : GuardIs ops H Rs a1 i ⟨dst, .unOp p t (.tmp x), ty, pos, after, guard⟩ true)
    (hx : slotRel ops H Rs a1 i x = SRel.is L vx)
    (hR : relAt H Rs i = SRel.is L v) (hL : ∀ w, L w w) (h : ∀ (a : Act) w, C w → a.tmps.getD x undef = vx → (execOp a.eval ⟨dst, .unOp p t (.tmp x), ty, pos, after, guard⟩).run P w = .ok (.value v) w) :
    OpOwes P ops Q L C H Rs a1 i ⟨dst, .unOp p t (.tmp x), ty, pos, after, guard⟩ :=
  owes_run hg hR hL fun a w hC hF => h a w hC (fact_of hF hx (by simp [Oper.looksAt, Op.operands, Call.operands]))
theorem owes_binOp {dst : Option Tmp} {p : BinOp} {t u : TypeId} {x y : Tmp} {ty : TypeId} {pos : String} {after : Array Edge} {guard : Option (Nat × Bool)} {v vx vy : Value}
    (hg : GuardIs ops H Rs a1 i ⟨dst, .binOp p t (.tmp x) (.tmp y) u, ty, pos, after, guard⟩ true)
    (hx : slotRel ops H Rs a1 i x = SRel.is L vx)
    (hy : slotRel ops H Rs a1 i y = SRel.is L vy)
    (hR : relAt H Rs i = SRel.is L v) (hL : ∀ w, L w w) (h : ∀ (a : Act) w, C w → a.tmps.getD x undef = vx → a.tmps.getD y undef = vy → (execOp a.eval ⟨dst, .binOp p t (.tmp x) (.tmp y) u, ty, pos, after, guard⟩).run P w = .ok (.value v) w) :
    OpOwes P ops Q L C H Rs a1 i ⟨dst, .binOp p t (.tmp x) (.tmp y) u, ty, pos, after, guard⟩ :=
  owes_run hg hR hL fun a w hC hF => h a w hC (fact_of hF hx (by simp [Oper.looksAt, Op.operands, Call.operands])) (fact_of hF hy (by simp [Oper.looksAt, Op.operands, Call.operands]))
theorem owes_binOpC {dst : Option Tmp} {p : BinOp} {t u : TypeId} {c : Value} {x : Tmp} {ty : TypeId} {pos : String} {after : Array Edge} {guard : Option (Nat × Bool)} {v vx : Value}
    (hg : GuardIs ops H Rs a1 i ⟨dst, .binOp p t (.tmp x) (.const c) u, ty, pos, after, guard⟩ true)
    (hx : slotRel ops H Rs a1 i x = SRel.is L vx)
    (hR : relAt H Rs i = SRel.is L v) (hL : ∀ w, L w w) (h : ∀ (a : Act) w, C w → a.tmps.getD x undef = vx → (execOp a.eval ⟨dst, .binOp p t (.tmp x) (.const c) u, ty, pos, after, guard⟩).run P w = .ok (.value v) w) :
    OpOwes P ops Q L C H Rs a1 i ⟨dst, .binOp p t (.tmp x) (.const c) u, ty, pos, after, guard⟩ :=
  owes_run hg hR hL fun a w hC hF => h a w hC (fact_of hF hx (by simp [Oper.looksAt, Op.operands, Call.operands]))
theorem owes_pickC {dst : Option Tmp} {c : Value} {x y : Tmp} {ty : TypeId} {pos : String} {after : Array Edge} {guard : Option (Nat × Bool)} {v vx vy : Value}
    (hg : GuardIs ops H Rs a1 i ⟨dst, .pick (.tmp x) (.tmp y) (.const c), ty, pos, after, guard⟩ true)
    (hx : slotRel ops H Rs a1 i x = SRel.is L vx)
    (hy : slotRel ops H Rs a1 i y = SRel.is L vy)
    (hR : relAt H Rs i = SRel.is L v) (hL : ∀ w, L w w) (h : ∀ (a : Act) w, C w → a.tmps.getD x undef = vx → a.tmps.getD y undef = vy → (execOp a.eval ⟨dst, .pick (.tmp x) (.tmp y) (.const c), ty, pos, after, guard⟩).run P w = .ok (.value v) w) :
    OpOwes P ops Q L C H Rs a1 i ⟨dst, .pick (.tmp x) (.tmp y) (.const c), ty, pos, after, guard⟩ :=
  owes_run hg hR hL fun a w hC hF => h a w hC (fact_of hF hx (by simp [Oper.looksAt, Op.operands, Call.operands])) (fact_of hF hy (by simp [Oper.looksAt, Op.operands, Call.operands]))
theorem owes_pickL {dst : Option Tmp} {c : Value} {x y : Tmp} {ty : TypeId} {pos : String} {after : Array Edge} {guard : Option (Nat × Bool)} {v vx vy : Value}
    (hg : GuardIs ops H Rs a1 i ⟨dst, .pick (.tmp x) (.const c) (.tmp y), ty, pos, after, guard⟩ true)
    (hx : slotRel ops H Rs a1 i x = SRel.is L vx)
    (hy : slotRel ops H Rs a1 i y = SRel.is L vy)
    (hR : relAt H Rs i = SRel.is L v) (hL : ∀ w, L w w) (h : ∀ (a : Act) w, C w → a.tmps.getD x undef = vx → a.tmps.getD y undef = vy → (execOp a.eval ⟨dst, .pick (.tmp x) (.const c) (.tmp y), ty, pos, after, guard⟩).run P w = .ok (.value v) w) :
    OpOwes P ops Q L C H Rs a1 i ⟨dst, .pick (.tmp x) (.const c) (.tmp y), ty, pos, after, guard⟩ :=
  owes_run hg hR hL fun a w hC hF => h a w hC (fact_of hF hx (by simp [Oper.looksAt, Op.operands, Call.operands])) (fact_of hF hy (by simp [Oper.looksAt, Op.operands, Call.operands]))
theorem owes_len {dst : Option Tmp} {ats : Array TypeId} {x : Tmp} {ty : TypeId} {pos : String} {after : Array Edge} {guard : Option (Nat × Bool)} {v vx : Value}
    (hg : GuardIs ops H Rs a1 i ⟨dst, .call { callee := .builtin .len, args := #[.tmp x], argTypes := ats }, ty, pos, after, guard⟩ true)
    (hx : slotRel ops H Rs a1 i x = SRel.is L vx)
    (hR : relAt H Rs i = SRel.is L v) (hL : ∀ w, L w w) (h : ∀ (a : Act) w, C w → a.tmps.getD x undef = vx → (execOp a.eval ⟨dst, .call { callee := .builtin .len, args := #[.tmp x], argTypes := ats }, ty, pos, after, guard⟩).run P w = .ok (.value v) w) :
    OpOwes P ops Q L C H Rs a1 i ⟨dst, .call { callee := .builtin .len, args := #[.tmp x], argTypes := ats }, ty, pos, after, guard⟩ :=
  owes_run hg hR hL fun a w hC hF => h a w hC (fact_of hF hx (by simp [Oper.looksAt, Op.operands, Call.operands]))
theorem owes_field {dst : Option Tmp} {t : TypeId} {f : Nat} {x : Tmp} {ty : TypeId} {pos : String} {after : Array Edge} {guard : Option (Nat × Bool)} {v vx : Value}
    (hg : GuardIs ops H Rs a1 i ⟨dst, .field t (.tmp x) f, ty, pos, after, guard⟩ true)
    (hx : slotRel ops H Rs a1 i x = SRel.is L vx)
    (hR : relAt H Rs i = SRel.is L v) (hL : ∀ w, L w w) (h : ∀ (a : Act) w, C w → a.tmps.getD x undef = vx → (execOp a.eval ⟨dst, .field t (.tmp x) f, ty, pos, after, guard⟩).run P w = .ok (.value v) w) :
    OpOwes P ops Q L C H Rs a1 i ⟨dst, .field t (.tmp x) f, ty, pos, after, guard⟩ :=
  owes_run hg hR hL fun a w hC hF => h a w hC (fact_of hF hx (by simp [Oper.looksAt, Op.operands, Call.operands]))
theorem owes_extract {dst : Option Tmp} {f : Nat} {x : Tmp} {ty : TypeId} {pos : String} {after : Array Edge} {guard : Option (Nat × Bool)} {v vx : Value}
    (hg : GuardIs ops H Rs a1 i ⟨dst, .extract (.tmp x) f, ty, pos, after, guard⟩ true)
    (hx : slotRel ops H Rs a1 i x = SRel.is L vx)
    (hR : relAt H Rs i = SRel.is L v) (hL : ∀ w, L w w) (h : ∀ (a : Act) w, C w → a.tmps.getD x undef = vx → (execOp a.eval ⟨dst, .extract (.tmp x) f, ty, pos, after, guard⟩).run P w = .ok (.value v) w) :
    OpOwes P ops Q L C H Rs a1 i ⟨dst, .extract (.tmp x) f, ty, pos, after, guard⟩ :=
  owes_run hg hR hL fun a w hC hF => h a w hC (fact_of hF hx (by simp [Oper.looksAt, Op.operands, Call.operands]))
theorem owes_index {dst : Option Tmp} {t : TypeId} {x y : Tmp} {ty : TypeId} {pos : String} {after : Array Edge} {guard : Option (Nat × Bool)} {v vx vy : Value}
    (hg : GuardIs ops H Rs a1 i ⟨dst, .index t (.tmp x) (.tmp y), ty, pos, after, guard⟩ true)
    (hx : slotRel ops H Rs a1 i x = SRel.is L vx)
    (hy : slotRel ops H Rs a1 i y = SRel.is L vy)
    (hR : relAt H Rs i = SRel.is L v) (hL : ∀ w, L w w) (h : ∀ (a : Act) w, C w → a.tmps.getD x undef = vx → a.tmps.getD y undef = vy → (execOp a.eval ⟨dst, .index t (.tmp x) (.tmp y), ty, pos, after, guard⟩).run P w = .ok (.value v) w) :
    OpOwes P ops Q L C H Rs a1 i ⟨dst, .index t (.tmp x) (.tmp y), ty, pos, after, guard⟩ :=
  owes_run hg hR hL fun a w hC hF => h a w hC (fact_of hF hx (by simp [Oper.looksAt, Op.operands, Call.operands])) (fact_of hF hy (by simp [Oper.looksAt, Op.operands, Call.operands]))
theorem owes_nilCheck {dst : Option Tmp}  {x : Tmp} {ty : TypeId} {pos : String} {after : Array Edge} {guard : Option (Nat × Bool)} {v vx : Value}
    (hg : GuardIs ops H Rs a1 i ⟨dst, .nilCheck (.tmp x), ty, pos, after, guard⟩ true)
    (hx : slotRel ops H Rs a1 i x = SRel.is L vx)
    (hR : relAt H Rs i = SRel.is L v) (hL : ∀ w, L w w) (h : ∀ (a : Act) w, C w → a.tmps.getD x undef = vx → (execOp a.eval ⟨dst, .nilCheck (.tmp x), ty, pos, after, guard⟩).run P w = .ok (.value v) w) :
    OpOwes P ops Q L C H Rs a1 i ⟨dst, .nilCheck (.tmp x), ty, pos, after, guard⟩ :=
  owes_run hg hR hL fun a w hC hF => h a w hC (fact_of hF hx (by simp [Oper.looksAt, Op.operands, Call.operands]))

/-- A call of a Go function of two slots. -/
theorem owes_call2 {dst : Option Tmp} {f : FuncId} {fn : Func} {x y : Tmp} {ats : Array TypeId} {ty : TypeId} {pos : String} {after : Array Edge} {guard : Option (Nat × Bool)} {Rx Ry R : SRel L}
    (hf : P.funcs[f]? = some fn) (hn : (fn.name == "runtime.NumGoroutine") = false) (hb : fn.body.isNone = false)
    (hg : GuardIs ops H Rs a1 i ⟨dst, .call { callee := .value (.func f), args := #[.tmp x, .tmp y], argTypes := ats }, ty, pos, after, guard⟩ true)
    (hx : slotRel ops H Rs a1 i x = Rx) (hy : slotRel ops H Rs a1 i y = Ry) (hR : relAt H Rs i = R)
    (h : ∀ w vx vy, C w → Rx.rel vx w → Ry.rel vy w → Calls P f #[vx, vy] w fun e w' => ∃ v, e = .returned v ∧ R.rel v w' ∧ C w' ∧ L w w') :
    OpOwes P ops Q L C H Rs a1 i ⟨dst, .call { callee := .value (.func f), args := #[.tmp x, .tmp y], argTypes := ats }, ty, pos, after, guard⟩ := by
  refine owes_wp hg fun a w hC hF => ?_
  unfold Oper.wp
  have hr : (execOp a.eval ⟨dst, .call { callee := .value (.func f), args := #[.tmp x, .tmp y], argTypes := ats }, ty, pos, after, guard⟩).run P w = .ok (.enter f #[a.tmps.getD x undef, a.tmps.getD y undef]) w := by
    have hn' : ¬ fn.name = "runtime.NumGoroutine" := by simpa using hn
    have hb' : ¬ fn.body = none := fun h => by simp [h] at hb
    simp [execOp, resolve, Act.eval, Deferred.ofValue, invoke, callFunc, hf, hn', hb']
  rw [hr]
  simp only [Oper.upon]
  refine (h w _ _ hC (fact_of hF hx (by simp [Oper.looksAt, Op.operands, Call.operands])) (fact_of hF hy (by simp [Oper.looksAt, Op.operands, Call.operands]))).mono ?_
  rintro e w' ⟨v, rfl, hv, hC', hL'⟩
  exact ⟨v, rfl, by rw [hR]; exact hv, hC', hL'⟩
theorem owes_call1 {dst : Option Tmp} {f : FuncId} {fn : Func} {x : Tmp} {ats : Array TypeId} {ty : TypeId} {pos : String} {after : Array Edge} {guard : Option (Nat × Bool)} {Rx R : SRel L}
    (hf : P.funcs[f]? = some fn) (hn : (fn.name == "runtime.NumGoroutine") = false) (hb : fn.body.isNone = false)
    (hg : GuardIs ops H Rs a1 i ⟨dst, .call { callee := .value (.func f), args := #[.tmp x], argTypes := ats }, ty, pos, after, guard⟩ true)
    (hx : slotRel ops H Rs a1 i x = Rx) (hR : relAt H Rs i = R)
    (h : ∀ w vx, C w → Rx.rel vx w → Calls P f #[vx] w fun e w' => ∃ v, e = .returned v ∧ R.rel v w' ∧ C w' ∧ L w w') :
    OpOwes P ops Q L C H Rs a1 i ⟨dst, .call { callee := .value (.func f), args := #[.tmp x], argTypes := ats }, ty, pos, after, guard⟩ := by
  refine owes_wp hg fun a w hC hF => ?_
  unfold Oper.wp
  have hr : (execOp a.eval ⟨dst, .call { callee := .value (.func f), args := #[.tmp x], argTypes := ats }, ty, pos, after, guard⟩).run P w = .ok (.enter f #[a.tmps.getD x undef]) w := by
    have hn' : ¬ fn.name = "runtime.NumGoroutine" := by simpa using hn
    have hb' : ¬ fn.body = none := fun h => by simp [h] at hb
    simp [execOp, resolve, Act.eval, Deferred.ofValue, invoke, callFunc, hf, hn', hb']
  rw [hr]
  simp only [Oper.upon]
  refine (h w _ hC (fact_of hF hx (by simp [Oper.looksAt, Op.operands, Call.operands]))).mono ?_
  rintro e w' ⟨v, rfl, hv, hC', hL'⟩
  exact ⟨v, rfl, by rw [hR]; exact hv, hC', hL'⟩
theorem owes_call0 {dst : Option Tmp} {f : FuncId} {fn : Func} {ats : Array TypeId} {ty : TypeId} {pos : String} {after : Array Edge} {guard : Option (Nat × Bool)} {R : SRel L}
    (hf : P.funcs[f]? = some fn) (hn : (fn.name == "runtime.NumGoroutine") = false) (hb : fn.body.isNone = false)
    (hg : GuardIs ops H Rs a1 i ⟨dst, .call { callee := .value (.func f), args := #[], argTypes := ats }, ty, pos, after, guard⟩ true)
    (hR : relAt H Rs i = R)
    (h : ∀ w, C w → Calls P f #[] w fun e w' => ∃ v, e = .returned v ∧ R.rel v w' ∧ C w' ∧ L w w') :
    OpOwes P ops Q L C H Rs a1 i ⟨dst, .call { callee := .value (.func f), args := #[], argTypes := ats }, ty, pos, after, guard⟩ := by
  refine owes_wp hg fun a w hC hF => ?_
  unfold Oper.wp
  have hr : (execOp a.eval ⟨dst, .call { callee := .value (.func f), args := #[], argTypes := ats }, ty, pos, after, guard⟩).run P w = .ok (.enter f #[]) w := by
    have hn' : ¬ fn.name = "runtime.NumGoroutine" := by simpa using hn
    have hb' : ¬ fn.body = none := fun h => by simp [h] at hb
    simp [execOp, resolve, Act.eval, Deferred.ofValue, invoke, callFunc, hf, hn', hb']
  rw [hr]
  simp only [Oper.upon]
  refine (h w hC).mono ?_
  rintro e w' ⟨v, rfl, hv, hC', hL'⟩
  exact ⟨v, rfl, by rw [hR]; exact hv, hC', hL'⟩
/-- A slice of one element. -/
theorem owes_buildSlice1 {dst : Option Tmp} {x : Tmp} {t : TypeId} {ty : TypeId} {pos : String} {after : Array Edge} {guard : Option (Nat × Bool)} {Rx R : SRel L}
    (hg : GuardIs ops H Rs a1 i ⟨dst, .buildSlice t 1 #[(0, .tmp x)], ty, pos, after, guard⟩ true)
    (hx : slotRel ops H Rs a1 i x = Rx) (hR : relAt H Rs i = R)
    (h : ∀ w vx, C w → Rx.rel vx w → ∃ v w', (Instr.buildSlice t 1 #[(0, vx)]).run P w = .ok v w' ∧ R.rel v w' ∧ C w' ∧ L w w') :
    OpOwes P ops Q L C H Rs a1 i ⟨dst, .buildSlice t 1 #[(0, .tmp x)], ty, pos, after, guard⟩ := by
  refine owes_wp hg fun a w hC hF => ?_
  unfold Oper.wp
  obtain ⟨v, w', hr, hv, hC', hL'⟩ := h w _ hC (fact_of hF hx (by simp [Oper.looksAt, Op.operands]))
  have hr' : (execOp a.eval ⟨dst, .buildSlice t 1 #[(0, .tmp x)], ty, pos, after, guard⟩).run P w = .ok (.value v) w' := by
    simp only [execOp, Sem.run_bind, Sem.run_pure, List.map_toArray, List.map_cons, List.map_nil, Act.eval, hr, Result.andThen_ok]
  rw [hr']
  simp only [Oper.upon]
  exact ⟨v, rfl, by rw [hR]; exact hv, hC', hL'⟩

/-! Operations whose guard is a Bool that is known by a name alone. -/
/-- What is known of slot x when operation i comes up. -/
def Knows {L : World → World → Prop} (ops : Array Oper) (H : List Nat) (Rs : List (SRel L)) (a1 : Act) (i : Nat) (o : Oper) (x : Tmp) (R : Value → World → Prop) : Prop :=
  ∀ a w, OpFacts ops H Rs a1 i o a w → R (a.tmps.getD x undef) w
theorem knows_is {x : Tmp} {v : Value} (hl : (o.looksAt ops).contains x = true) (hx : slotRel ops H Rs a1 i x = SRel.is L v) : Knows ops H Rs a1 i o x (fun u _ => u = v) := fun a w hF => fact_of hF hx hl
theorem knows_rel {x : Tmp} {R : SRel L} (hl : (o.looksAt ops).contains x = true) (hx : slotRel ops H Rs a1 i x = R) : Knows ops H Rs a1 i o x R.rel := fun a w hF => fact_of hF hx hl
theorem knows_when {x : Tmp} {p : Prop} {R : SRel L} (hl : (o.looksAt ops).contains x = true) (hx : slotRel ops H Rs a1 i x = SRel.when p R) (hp : p) : Knows ops H Rs a1 i o x R.rel := fun a w hF => (fact_of hF hx hl).1 hp
theorem knows_whenis {x : Tmp} {p : Prop} {v : Value} (hl : (o.looksAt ops).contains x = true) (hx : slotRel ops H Rs a1 i x = SRel.when p (SRel.is L v)) (hp : p) : Knows ops H Rs a1 i o x (fun u _ => u = v) := fun a w hF => (fact_of hF hx hl).1 hp

/-- What a wanted operation does. -/
def OpDoes (P : Program) (ops : Array Oper) (Q : Exit → Act → World → Prop) (L : World → World → Prop) (C : World → Prop) (H : List Nat) (Rs : List (SRel L)) (a1 : Act) (i : Nat) (o : Oper) (R : SRel L) : Prop :=
  ∀ a w, C w → OpFacts ops H Rs a1 i o a w → o.wp P a w (fun a' w' => ∃ v, a' = a.put o.dst v ∧ R.rel v w' ∧ C w' ∧ L w w') Q
theorem owes_now {R : SRel L} (hg : GuardIs ops H Rs a1 i o true) (hR : relAt H Rs i = R) (h : OpDoes P ops Q L C H Rs a1 i o R) : OpOwes P ops Q L C H Rs a1 i o :=
  owes_wp hg fun a w hC hF => by rw [hR]; exact h a w hC hF
theorem owes_when {R : SRel L} {g : Nat} {want x : Bool} {s : Tmp} (hgd : o.guard = some (g, want)) (hs : (ops[g]?).bind (·.dst) = some s) (hr : Knows ops H Rs a1 i o s (fun u _ => u = .bool x))
    {p : Prop} (hR : relAt H Rs i = SRel.when p R) (hpe : (x = want) = p) (h : x = want → OpDoes P ops Q L C H Rs a1 i o R) : OpOwes P ops Q L C H Rs a1 i o := by
  intro a w hC hF
  rw [← hpe] at hR
  have hv := hr a w hF
  have hy : yielded ops a.tmps g = some x := by
    unfold yielded
    rw [hs]
    simp only [Option.bind_some]
    rw [Array.getD_eq_getD_getElem?] at hv
    cases h : a.tmps[s]? with
    | none => rw [h] at hv; cases hv
    | some y =>
      rw [h] at hv
      simp only [Option.getD_some] at hv
      rw [hv]
  have hw : Region.wanted o (yielded ops a.tmps) = (x == want) := by
    unfold Region.wanted
    rw [hgd]
    simp only [hy]
    cases x <;> cases want <;> rfl
  rw [hw]
  constructor
  · intro hx
    have hx' : x = want := by simpa using hx
    refine Oper.wp_mono ?_ (h hx' a w hC hF)
    rintro a' w' ⟨v, e, hv, hC', hL'⟩
    exact ⟨v, e, by rw [hR]; exact ⟨fun _ => hv, fun hh => absurd hx' hh⟩, hC', hL'⟩
  · intro hx
    rw [hR]
    refine ⟨fun hx' => ?_, fun _ => rfl⟩
    rw [hx'] at hx
    simp at hx
/-- Under a guard that itself is only there under a condition. -/
theorem owes_when2 {R : SRel L} {g : Nat} {want x : Bool} {s : Tmp} {p : Prop} (hgd : o.guard = some (g, want)) (hs : (ops[g]?).bind (·.dst) = some s) (hr : slotRel ops H Rs a1 i s = SRel.when p (SRel.is L (.bool x)))
    {p' : Prop} (hR : relAt H Rs i = SRel.when p' R) (hpe : (p ∧ x = want) = p') (h : p → x = want → OpDoes P ops Q L C H Rs a1 i o R) : OpOwes P ops Q L C H Rs a1 i o := by
  intro a w hC hF
  rw [← hpe] at hR
  have hl : (o.looksAt ops).contains s = true := by simp [Oper.looksAt, hgd, hs]
  have hv0 := hF s hl
  rw [hr] at hv0
  by_cases hp : p
  · have hv : a.tmps.getD s undef = .bool x := hv0.1 hp
    have hy : yielded ops a.tmps g = some x := by
      unfold yielded
      rw [hs]
      simp only [Option.bind_some]
      rw [Array.getD_eq_getD_getElem?] at hv
      cases h : a.tmps[s]? with
      | none => rw [h] at hv; cases hv
      | some y =>
        rw [h] at hv
        simp only [Option.getD_some] at hv
        rw [hv]
    have hw : Region.wanted o (yielded ops a.tmps) = (x == want) := by
      unfold Region.wanted
      rw [hgd]
      simp only [hy]
      cases x <;> cases want <;> rfl
    rw [hw]
    constructor
    · intro hx
      have hx' : x = want := by simpa using hx
      refine Oper.wp_mono ?_ (h hp hx' a w hC hF)
      rintro a' w' ⟨v, e, hv, hC', hL'⟩
      exact ⟨v, e, by rw [hR]; exact ⟨fun _ => hv, fun hh => absurd ⟨hp, hx'⟩ hh⟩, hC', hL'⟩
    · intro hx
      rw [hR]
      refine ⟨?_, fun _ => rfl⟩
      rintro ⟨_, hx'⟩
      rw [hx'] at hx
      simp at hx
  · have hv : a.tmps.getD s undef = undef := hv0.2 hp
    have hy : yielded ops a.tmps g = none := by
      unfold yielded
      rw [hs]
      simp only [Option.bind_some]
      rw [Array.getD_eq_getD_getElem?] at hv
      cases h : a.tmps[s]? with
      | none => rfl
      | some y =>
        rw [h] at hv
        simp only [Option.getD_some] at hv
        rw [hv]
        rfl
    have hw : Region.wanted o (yielded ops a.tmps) = false := by
      unfold Region.wanted
      rw [hgd]
      simp only [hy]
      cases want <;> rfl
    rw [hw]
    constructor
    · intro hx; cases hx
    · intro _
      rw [hR]
      exact ⟨fun hh => absurd hh.1 hp, fun _ => rfl⟩

theorem does_run {v : Value} (hL : ∀ w, L w w) (h : ∀ a w, C w → OpFacts ops H Rs a1 i o a w → (execOp a.eval o).run P w = .ok (.value v) w) : OpDoes P ops Q L C H Rs a1 i o (SRel.is L v) := by
  intro a w hC hF
  unfold Oper.wp
  rw [h a w hC hF]
  simp only [Oper.upon]
  exact ⟨v, rfl, rfl, hC, hL w⟩
theorem does_load {dst : Option Tmp} {t : TypeId} {x : Tmp} {ty : TypeId} {pos : String} {after : Array Edge} {guard : Option (Nat × Bool)} {v vx : Value}
    (hx : Knows ops H Rs a1 i ⟨dst, .load t (.tmp x), ty, pos, after, guard⟩ x (fun u _ => u = vx))
    (hL : ∀ w, L w w) (h : ∀ (a : Act) w, C w → a.tmps.getD x undef = vx → (execOp a.eval ⟨dst, .load t (.tmp x), ty, pos, after, guard⟩).run P w = .ok (.value v) w) : OpDoes P ops Q L C H Rs a1 i ⟨dst, .load t (.tmp x), ty, pos, after, guard⟩ (SRel.is L v) :=
  does_run hL fun a w hC hF => h a w hC (hx a w hF)
theorem does_loadG {dst : Option Tmp} {t : TypeId} {g : Nat} {ty : TypeId} {pos : String} {after : Array Edge} {guard : Option (Nat × Bool)} {v : Value}
    (hL : ∀ w, L w w) (h : ∀ (a : Act) w, C w → (execOp a.eval ⟨dst, .load t (.global g), ty, pos, after, guard⟩).run P w = .ok (.value v) w) : OpDoes P ops Q L C H Rs a1 i ⟨dst, .load t (.global g), ty, pos, after, guard⟩ (SRel.is L v) :=
  does_run hL fun a w hC hF => h a w hC 
theorem does_fieldAddr {dst : Option Tmp} {t : TypeId} {f : Nat} {x : Tmp} {ty : TypeId} {pos : String} {after : Array Edge} {guard : Option (Nat × Bool)} {v vx : Value}
    (hx : Knows ops H Rs a1 i ⟨dst, .fieldAddr t (.tmp x) f, ty, pos, after, guard⟩ x (fun u _ => u = vx))
    (hL : ∀ w, L w w) (h : ∀ (a : Act) w, C w → a.tmps.getD x undef = vx → (execOp a.eval ⟨dst, .fieldAddr t (.tmp x) f, ty, pos, after, guard⟩).run P w = .ok (.value v) w) : OpDoes P ops Q L C H Rs a1 i ⟨dst, .fieldAddr t (.tmp x) f, ty, pos, after, guard⟩ (SRel.is L v) :=
  does_run hL fun a w hC hF => h a w hC (hx a w hF)
theorem does_indexAddr {dst : Option Tmp} {t : TypeId} {x y : Tmp} {ty : TypeId} {pos : String} {after : Array Edge} {guard : Option (Nat × Bool)} {v vx vy : Value}
    (hx : Knows ops H Rs a1 i ⟨dst, .indexAddr t (.tmp x) (.tmp y), ty, pos, after, guard⟩ x (fun u _ => u = vx))
    (hy : Knows ops H Rs a1 i ⟨dst, .indexAddr t (.tmp x) (.tmp y), ty, pos, after, guard⟩ y (fun u _ => u = vy))
    (hL : ∀ w, L w w) (h : ∀ (a : Act) w, C w → a.tmps.getD x undef = vx → a.tmps.getD y undef = vy → (execOp a.eval ⟨dst, .indexAddr t (.tmp x) (.tmp y), ty, pos, after, guard⟩).run P w = .ok (.value v) w) : OpDoes P ops Q L C H Rs a1 i ⟨dst, .indexAddr t (.tmp x) (.tmp y), ty, pos, after, guard⟩ (SRel.is L v) :=
  does_run hL fun a w hC hF => h a w hC (hx a w hF) (hy a w hF)
theorem does_indexAddrC {dst : Option Tmp} {t : TypeId} {c : Value} {x : Tmp} {ty : TypeId} {pos : String} {after : Array Edge} {guard : Option (Nat × Bool)} {v vx : Value}
    (hx : Knows ops H Rs a1 i ⟨dst, .indexAddr t (.tmp x) (.const c), ty, pos, after, guard⟩ x (fun u _ => u = vx))
    (hL : ∀ w, L w w) (h : ∀ (a : Act) w, C w → a.tmps.getD x undef = vx → (execOp a.eval ⟨dst, .indexAddr t (.tmp x) (.const c), ty, pos, after, guard⟩).run P w = .ok (.value v) w) : OpDoes P ops Q L C H Rs a1 i ⟨dst, .indexAddr t (.tmp x) (.const c), ty, pos, after, guard⟩ (SRel.is L v) :=
  does_run hL fun a w hC hF => h a w hC (hx a w hF)
theorem does_move {dst : Option Tmp}  {x : Tmp} {ty : TypeId} {pos : String} {after : Array Edge} {guard : Option (Nat × Bool)} {v vx : Value}
    (hx : Knows ops H Rs a1 i ⟨dst, .move (.tmp x), ty, pos, after, guard⟩ x (fun u _ => u = vx))
    (hL : ∀ w, L w w) (h : ∀ (a : Act) w, C w → a.tmps.getD x undef = vx → (execOp a.eval ⟨dst, .move (.tmp x), ty, pos, after, guard⟩).run P w = .ok (.value v) w) : OpDoes P ops Q L C H Rs a1 i ⟨dst, .move (.tmp x), ty, pos, after, guard⟩ (SRel.is L v) :=
  does_run hL fun a w hC hF => h a w hC (hx a w hF)
theorem does_moveC {dst : Option Tmp} {c : Value} {ty : TypeId} {pos : String} {after : Array Edge} {guard : Option (Nat × Bool)} {v : Value}
    (hL : ∀ w, L w w) (h : ∀ (a : Act) w, C w → (execOp a.eval ⟨dst, .move (.const c), ty, pos, after, guard⟩).run P w = .ok (.value v) w) : OpDoes P ops Q L C H Rs a1 i ⟨dst, .move (.const c), ty, pos, after, guard⟩ (SRel.is L v) :=
  does_run hL fun a w hC hF => h a w hC 
theorem does_unOp {dst : Option Tmp} {p : UnOp} {t : TypeId} {x : Tmp} {ty : TypeId} {pos : String} {after : Array Edge} {guard : Option (Nat × Bool)} {v vx : Value}
    (hx : Knows ops H Rs a1 i ⟨dst, .unOp p t (.tmp x), ty, pos, after, guard⟩ x (fun u _ => u = vx))
    (hL : ∀ w, L w w) (h : ∀ (a : Act) w, C w → a.tmps.getD x undef = vx → (execOp a.eval ⟨dst, .unOp p t (.tmp x), ty, pos, after, guard⟩).run P w = .ok (.value v) w) : OpDoes P ops Q L C H Rs a1 i ⟨dst, .unOp p t (.tmp x), ty, pos, after, guard⟩ (SRel.is L v) :=
  does_run hL fun a w hC hF => h a w hC (hx a w hF)
theorem does_binOp {dst : Option Tmp} {p : BinOp} {t u : TypeId} {x y : Tmp} {ty : TypeId} {pos : String} {after : Array Edge} {guard : Option (Nat × Bool)} {v vx vy : Value}
    (hx : Knows ops H Rs a1 i ⟨dst, .binOp p t (.tmp x) (.tmp y) u, ty, pos, after, guard⟩ x (fun u _ => u = vx))
    (hy : Knows ops H Rs a1 i ⟨dst, .binOp p t (.tmp x) (.tmp y) u, ty, pos, after, guard⟩ y (fun u _ => u = vy))
    (hL : ∀ w, L w w) (h : ∀ (a : Act) w, C w → a.tmps.getD x undef = vx → a.tmps.getD y undef = vy → (execOp a.eval ⟨dst, .binOp p t (.tmp x) (.tmp y) u, ty, pos, after, guard⟩).run P w = .ok (.value v) w) : OpDoes P ops Q L C H Rs a1 i ⟨dst, .binOp p t (.tmp x) (.tmp y) u, ty, pos, after, guard⟩ (SRel.is L v) :=
  does_run hL fun a w hC hF => h a w hC (hx a w hF) (hy a w hF)
theorem does_binOpC {dst : Option Tmp} {p : BinOp} {t u : TypeId} {c : Value} {x : Tmp} {ty : TypeId} {pos : String} {after : Array Edge} {guard : Option (Nat × Bool)} {v vx : Value}
    (hx : Knows ops H Rs a1 i ⟨dst, .binOp p t (.tmp x) (.const c) u, ty, pos, after, guard⟩ x (fun u _ => u = vx))
    (hL : ∀ w, L w w) (h : ∀ (a : Act) w, C w → a.tmps.getD x undef = vx → (execOp a.eval ⟨dst, .binOp p t (.tmp x) (.const c) u, ty, pos, after, guard⟩).run P w = .ok (.value v) w) : OpDoes P ops Q L C H Rs a1 i ⟨dst, .binOp p t (.tmp x) (.const c) u, ty, pos, after, guard⟩ (SRel.is L v) :=
  does_run hL fun a w hC hF => h a w hC (hx a w hF)
theorem does_len {dst : Option Tmp} {ats : Array TypeId} {x : Tmp} {ty : TypeId} {pos : String} {after : Array Edge} {guard : Option (Nat × Bool)} {v vx : Value}
    (hx : Knows ops H Rs a1 i ⟨dst, .call { callee := .builtin .len, args := #[.tmp x], argTypes := ats }, ty, pos, after, guard⟩ x (fun u _ => u = vx))
    (hL : ∀ w, L w w) (h : ∀ (a : Act) w, C w → a.tmps.getD x undef = vx → (execOp a.eval ⟨dst, .call { callee := .builtin .len, args := #[.tmp x], argTypes := ats }, ty, pos, after, guard⟩).run P w = .ok (.value v) w) : OpDoes P ops Q L C H Rs a1 i ⟨dst, .call { callee := .builtin .len, args := #[.tmp x], argTypes := ats }, ty, pos, after, guard⟩ (SRel.is L v) :=
  does_run hL fun a w hC hF => h a w hC (hx a w hF)
theorem does_field {dst : Option Tmp} {t : TypeId} {f : Nat} {x : Tmp} {ty : TypeId} {pos : String} {after : Array Edge} {guard : Option (Nat × Bool)} {v vx : Value}
    (hx : Knows ops H Rs a1 i ⟨dst, .field t (.tmp x) f, ty, pos, after, guard⟩ x (fun u _ => u = vx))
    (hL : ∀ w, L w w) (h : ∀ (a : Act) w, C w → a.tmps.getD x undef = vx → (execOp a.eval ⟨dst, .field t (.tmp x) f, ty, pos, after, guard⟩).run P w = .ok (.value v) w) : OpDoes P ops Q L C H Rs a1 i ⟨dst, .field t (.tmp x) f, ty, pos, after, guard⟩ (SRel.is L v) :=
  does_run hL fun a w hC hF => h a w hC (hx a w hF)
theorem does_extract {dst : Option Tmp} {f : Nat} {x : Tmp} {ty : TypeId} {pos : String} {after : Array Edge} {guard : Option (Nat × Bool)} {v vx : Value}
    (hx : Knows ops H Rs a1 i ⟨dst, .extract (.tmp x) f, ty, pos, after, guard⟩ x (fun u _ => u = vx))
    (hL : ∀ w, L w w) (h : ∀ (a : Act) w, C w → a.tmps.getD x undef = vx → (execOp a.eval ⟨dst, .extract (.tmp x) f, ty, pos, after, guard⟩).run P w = .ok (.value v) w) : OpDoes P ops Q L C H Rs a1 i ⟨dst, .extract (.tmp x) f, ty, pos, after, guard⟩ (SRel.is L v) :=
  does_run hL fun a w hC hF => h a w hC (hx a w hF)
theorem does_index {dst : Option Tmp} {t : TypeId} {x y : Tmp} {ty : TypeId} {pos : String} {after : Array Edge} {guard : Option (Nat × Bool)} {v vx vy : Value}
    (hx : Knows ops H Rs a1 i ⟨dst, .index t (.tmp x) (.tmp y), ty, pos, after, guard⟩ x (fun u _ => u = vx))
    (hy : Knows ops H Rs a1 i ⟨dst, .index t (.tmp x) (.tmp y), ty, pos, after, guard⟩ y (fun u _ => u = vy))
    (hL : ∀ w, L w w) (h : ∀ (a : Act) w, C w → a.tmps.getD x undef = vx → a.tmps.getD y undef = vy → (execOp a.eval ⟨dst, .index t (.tmp x) (.tmp y), ty, pos, after, guard⟩).run P w = .ok (.value v) w) : OpDoes P ops Q L C H Rs a1 i ⟨dst, .index t (.tmp x) (.tmp y), ty, pos, after, guard⟩ (SRel.is L v) :=
  does_run hL fun a w hC hF => h a w hC (hx a w hF) (hy a w hF)
theorem does_nilCheck {dst : Option Tmp}  {x : Tmp} {ty : TypeId} {pos : String} {after : Array Edge} {guard : Option (Nat × Bool)} {v vx : Value}
    (hx : Knows ops H Rs a1 i ⟨dst, .nilCheck (.tmp x), ty, pos, after, guard⟩ x (fun u _ => u = vx))
    (hL : ∀ w, L w w) (h : ∀ (a : Act) w, C w → a.tmps.getD x undef = vx → (execOp a.eval ⟨dst, .nilCheck (.tmp x), ty, pos, after, guard⟩).run P w = .ok (.value v) w) : OpDoes P ops Q L C H Rs a1 i ⟨dst, .nilCheck (.tmp x), ty, pos, after, guard⟩ (SRel.is L v) :=
  does_run hL fun a w hC hF => h a w hC (hx a w hF)
theorem does_buildC0 {dst : Option Tmp} {t : TypeId} {ty : TypeId} {pos : String} {after : Array Edge} {guard : Option (Nat × Bool)} {v : Value}
    (hL : ∀ w, L w w) (h : ∀ (a : Act) w, C w → (execOp a.eval ⟨dst, .build t #[], ty, pos, after, guard⟩).run P w = .ok (.value v) w) : OpDoes P ops Q L C H Rs a1 i ⟨dst, .build t #[], ty, pos, after, guard⟩ (SRel.is L v) :=
  does_run hL fun a w hC hF => h a w hC 
theorem does_buildC1 {dst : Option Tmp} {t : TypeId} {k : Nat} {c : Value} {ty : TypeId} {pos : String} {after : Array Edge} {guard : Option (Nat × Bool)} {v : Value}
    (hL : ∀ w, L w w) (h : ∀ (a : Act) w, C w → (execOp a.eval ⟨dst, .build t #[(k, .const c)], ty, pos, after, guard⟩).run P w = .ok (.value v) w) : OpDoes P ops Q L C H Rs a1 i ⟨dst, .build t #[(k, .const c)], ty, pos, after, guard⟩ (SRel.is L v) :=
  does_run hL fun a w hC hF => h a w hC 

theorem does_assign {dst : Option Tmp} {x : Tmp} {ty : TypeId} {pos : String} {after : Array Edge} {guard : Option (Nat × Bool)} {v vx : Value}
    (hx : Knows ops H Rs a1 i ⟨dst, .assign (.tmp x), ty, pos, after, guard⟩ x (fun u _ => u = vx))
    (hL : ∀ w, L w w) (h : ∀ (a : Act) w, C w → a.tmps.getD x undef = vx → (execOp a.eval ⟨dst, .assign (.tmp x), ty, pos, after, guard⟩).run P w = .ok (.value v) w) : OpDoes P ops Q L C H Rs a1 i ⟨dst, .assign (.tmp x), ty, pos, after, guard⟩ (SRel.is L v) :=
  does_run hL fun a w hC hF => h a w hC (hx a w hF)

/-- 'and', 'or'. -/
theorem does_and {dst : Option Tmp} {c a' : Tmp} {ty : TypeId} {pos : String} {after : Array Edge} {guard : Option (Nat × Bool)} {x y : Bool}
    (hc : Knows ops H Rs a1 i ⟨dst, .pick (.tmp c) (.tmp a') (.const (.bool false)), ty, pos, after, guard⟩ c (fun u _ => u = .bool x))
    (ha : x = true → Knows ops H Rs a1 i ⟨dst, .pick (.tmp c) (.tmp a') (.const (.bool false)), ty, pos, after, guard⟩ a' (fun u _ => u = .bool y)) (hL : ∀ w, L w w) {v : Value} (hv : Value.bool (x && y) = v) :
    OpDoes P ops Q L C H Rs a1 i ⟨dst, .pick (.tmp c) (.tmp a') (.const (.bool false)), ty, pos, after, guard⟩ (SRel.is L v) := by
  subst hv
  refine does_run hL fun a w hC hF => ?_
  have h1 : a.tmps.getD c undef = .bool x := hc a w hF
  cases x with
  | false => simp [execOp, Act.eval, asBool, h1]
  | true =>
    have h2 : a.tmps.getD a' undef = .bool y := ha rfl a w hF
    rw [Array.getD_eq_getD_getElem?] at h1 h2
    simp [execOp, Act.eval, asBool, h1, h2]
theorem does_or {dst : Option Tmp} {c a' : Tmp} {ty : TypeId} {pos : String} {after : Array Edge} {guard : Option (Nat × Bool)} {x y : Bool}
    (hc : Knows ops H Rs a1 i ⟨dst, .pick (.tmp c) (.const (.bool true)) (.tmp a'), ty, pos, after, guard⟩ c (fun u _ => u = .bool x))
    (ha : x = false → Knows ops H Rs a1 i ⟨dst, .pick (.tmp c) (.const (.bool true)) (.tmp a'), ty, pos, after, guard⟩ a' (fun u _ => u = .bool y)) (hL : ∀ w, L w w) {v : Value} (hv : Value.bool (x || y) = v) :
    OpDoes P ops Q L C H Rs a1 i ⟨dst, .pick (.tmp c) (.const (.bool true)) (.tmp a'), ty, pos, after, guard⟩ (SRel.is L v) := by
  subst hv
  refine does_run hL fun a w hC hF => ?_
  have h1 : a.tmps.getD c undef = .bool x := hc a w hF
  cases x with
  | true => simp [execOp, Act.eval, asBool, h1]
  | false =>
    have h2 : a.tmps.getD a' undef = .bool y := ha rfl a w hF
    rw [Array.getD_eq_getD_getElem?] at h1 h2
    simp [execOp, Act.eval, asBool, h1, h2]
theorem does_call0 {dst : Option Tmp} {f : FuncId} {fn : Func} {ats : Array TypeId} {ty : TypeId} {pos : String} {after : Array Edge} {guard : Option (Nat × Bool)} {R : SRel L}
    (hf : P.funcs[f]? = some fn) (hn : (fn.name == "runtime.NumGoroutine") = false) (hb : fn.body.isNone = false)
    (h : ∀ w, C w → Calls P f #[] w fun e w' => ∃ v, e = .returned v ∧ R.rel v w' ∧ C w' ∧ L w w') :
    OpDoes P ops Q L C H Rs a1 i ⟨dst, .call { callee := .value (.func f), args := #[], argTypes := ats }, ty, pos, after, guard⟩ R := by
  intro a w hC hF
  unfold Oper.wp
  have hr : (execOp a.eval ⟨dst, .call { callee := .value (.func f), args := #[], argTypes := ats }, ty, pos, after, guard⟩).run P w = .ok (.enter f #[]) w := by
    have hn' : ¬ fn.name = "runtime.NumGoroutine" := by simpa using hn
    have hb' : ¬ fn.body = none := fun h => by simp [h] at hb
    simp [execOp, resolve, Act.eval, Deferred.ofValue, invoke, callFunc, hf, hn', hb']
  rw [hr]
  simp only [Oper.upon]
  refine (h w  hC ).mono ?_
  rintro e w' ⟨v, rfl, hv, hC', hL'⟩
  exact ⟨v, rfl, hv, hC', hL'⟩
theorem does_call1 {dst : Option Tmp} {f : FuncId} {fn : Func} {x : Tmp} {ats : Array TypeId} {ty : TypeId} {pos : String} {after : Array Edge} {guard : Option (Nat × Bool)} {Rx : Value → World → Prop} {R : SRel L}
    (hf : P.funcs[f]? = some fn) (hn : (fn.name == "runtime.NumGoroutine") = false) (hb : fn.body.isNone = false)
    (hx : Knows ops H Rs a1 i ⟨dst, .call { callee := .value (.func f), args := #[.tmp x], argTypes := ats }, ty, pos, after, guard⟩ x Rx)
    (h : ∀ w vx, C w → Rx vx w → Calls P f #[vx] w fun e w' => ∃ v, e = .returned v ∧ R.rel v w' ∧ C w' ∧ L w w') :
    OpDoes P ops Q L C H Rs a1 i ⟨dst, .call { callee := .value (.func f), args := #[.tmp x], argTypes := ats }, ty, pos, after, guard⟩ R := by
  intro a w hC hF
  unfold Oper.wp
  have hr : (execOp a.eval ⟨dst, .call { callee := .value (.func f), args := #[.tmp x], argTypes := ats }, ty, pos, after, guard⟩).run P w = .ok (.enter f #[a.tmps.getD x undef]) w := by
    have hn' : ¬ fn.name = "runtime.NumGoroutine" := by simpa using hn
    have hb' : ¬ fn.body = none := fun h => by simp [h] at hb
    simp [execOp, resolve, Act.eval, Deferred.ofValue, invoke, callFunc, hf, hn', hb']
  rw [hr]
  simp only [Oper.upon]
  refine (h w _ hC (hx a w hF)).mono ?_
  rintro e w' ⟨v, rfl, hv, hC', hL'⟩
  exact ⟨v, rfl, hv, hC', hL'⟩
theorem does_call2 {dst : Option Tmp} {f : FuncId} {fn : Func} {x y : Tmp} {ats : Array TypeId} {ty : TypeId} {pos : String} {after : Array Edge} {guard : Option (Nat × Bool)} {Rx Ry : Value → World → Prop} {R : SRel L}
    (hf : P.funcs[f]? = some fn) (hn : (fn.name == "runtime.NumGoroutine") = false) (hb : fn.body.isNone = false)
    (hx : Knows ops H Rs a1 i ⟨dst, .call { callee := .value (.func f), args := #[.tmp x, .tmp y], argTypes := ats }, ty, pos, after, guard⟩ x Rx)
    (hy : Knows ops H Rs a1 i ⟨dst, .call { callee := .value (.func f), args := #[.tmp x, .tmp y], argTypes := ats }, ty, pos, after, guard⟩ y Ry)
    (h : ∀ w vx vy, C w → Rx vx w → Ry vy w → Calls P f #[vx, vy] w fun e w' => ∃ v, e = .returned v ∧ R.rel v w' ∧ C w' ∧ L w w') :
    OpDoes P ops Q L C H Rs a1 i ⟨dst, .call { callee := .value (.func f), args := #[.tmp x, .tmp y], argTypes := ats }, ty, pos, after, guard⟩ R := by
  intro a w hC hF
  unfold Oper.wp
  have hr : (execOp a.eval ⟨dst, .call { callee := .value (.func f), args := #[.tmp x, .tmp y], argTypes := ats }, ty, pos, after, guard⟩).run P w = .ok (.enter f #[a.tmps.getD x undef, a.tmps.getD y undef]) w := by
    have hn' : ¬ fn.name = "runtime.NumGoroutine" := by simpa using hn
    have hb' : ¬ fn.body = none := fun h => by simp [h] at hb
    simp [execOp, resolve, Act.eval, Deferred.ofValue, invoke, callFunc, hf, hn', hb']
  rw [hr]
  simp only [Oper.upon]
  refine (h w _ _ hC (hx a w hF) (hy a w hF)).mono ?_
  rintro e w' ⟨v, rfl, hv, hC', hL'⟩
  exact ⟨v, rfl, hv, hC', hL'⟩
theorem does_call3 {dst : Option Tmp} {f : FuncId} {fn : Func} {x y z : Tmp} {ats : Array TypeId} {ty : TypeId} {pos : String} {after : Array Edge} {guard : Option (Nat × Bool)} {Rx Ry Rz : Value → World → Prop} {R : SRel L}
    (hf : P.funcs[f]? = some fn) (hn : (fn.name == "runtime.NumGoroutine") = false) (hb : fn.body.isNone = false)
    (hx : Knows ops H Rs a1 i ⟨dst, .call { callee := .value (.func f), args := #[.tmp x, .tmp y, .tmp z], argTypes := ats }, ty, pos, after, guard⟩ x Rx)
    (hy : Knows ops H Rs a1 i ⟨dst, .call { callee := .value (.func f), args := #[.tmp x, .tmp y, .tmp z], argTypes := ats }, ty, pos, after, guard⟩ y Ry)
    (hz : Knows ops H Rs a1 i ⟨dst, .call { callee := .value (.func f), args := #[.tmp x, .tmp y, .tmp z], argTypes := ats }, ty, pos, after, guard⟩ z Rz)
    (h : ∀ w vx vy vz, C w → Rx vx w → Ry vy w → Rz vz w → Calls P f #[vx, vy, vz] w fun e w' => ∃ v, e = .returned v ∧ R.rel v w' ∧ C w' ∧ L w w') :
    OpDoes P ops Q L C H Rs a1 i ⟨dst, .call { callee := .value (.func f), args := #[.tmp x, .tmp y, .tmp z], argTypes := ats }, ty, pos, after, guard⟩ R := by
  intro a w hC hF
  unfold Oper.wp
  have hr : (execOp a.eval ⟨dst, .call { callee := .value (.func f), args := #[.tmp x, .tmp y, .tmp z], argTypes := ats }, ty, pos, after, guard⟩).run P w = .ok (.enter f #[a.tmps.getD x undef, a.tmps.getD y undef, a.tmps.getD z undef]) w := by
    have hn' : ¬ fn.name = "runtime.NumGoroutine" := by simpa using hn
    have hb' : ¬ fn.body = none := fun h => by simp [h] at hb
    simp [execOp, resolve, Act.eval, Deferred.ofValue, invoke, callFunc, hf, hn', hb']
  rw [hr]
  simp only [Oper.upon]
  refine (h w _ _ _ hC (hx a w hF) (hy a w hF) (hz a w hF)).mono ?_
  rintro e w' ⟨v, rfl, hv, hC', hL'⟩
  exact ⟨v, rfl, hv, hC', hL'⟩
end
end Go.Proofs.Ytnflnbdlgdjfmaa
