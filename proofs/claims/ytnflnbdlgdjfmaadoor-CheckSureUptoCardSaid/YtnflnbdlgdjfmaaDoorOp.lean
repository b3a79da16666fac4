/-
  What single operations do, kind by kind. Conditions: those typed in each theorem.
-/
import Derived.Test.YtnflnbdlgdjfmaaDoorSim
namespace Go.Proofs.YtnflnbdlgdjfmaaDoor
open Go.RowKit
set_option linter.unusedVariables false
set_option linter.unusedSimpArgs false

/-- A constant, as it is meant. -/
def constU : Value → U
  | .int k n => .one (.int k n)
  | .bool b => .one (.bool b)
  | .string s => .one (.str s)
  | .pointer none => .one .nilp
  | .nilFunc => .one .nilf
  | .slice none 0 0 => .one .nilsl
  | _ => .any
def opU (t : Nat → U) : Operand → U
  | .tmp x => t x
  | .const v => constU v
  | .global g => match glob g with | some c => .one c | none => .any
  | .func f => .one (.fn f)

theorem relC_relK {F : Nat → Prop} {ρ : Nat → Lc} {w : World} {c : C} {v : Value} (h : relK F w c v) : relC F ρ w c v := by
  cases c <;> first | exact h | exact h.elim
theorem constU_rel (F : Nat → Prop) (ρ : Nat → Lc) (w : World) (h : Nat → Option Blk) (v : Value) : relU F ρ w (constU v) v ∧ okU h (constU v) := by
  unfold constU
  split <;> first | exact ⟨rfl, trivial⟩ | exact ⟨trivial, trivial⟩
theorem closed_ok {F : Nat → Prop} {w : World} {c : C} {v : Value} (h : Nat → Option Blk) (hr : relK F w c v) : okC h c := by
  cases c <;> first | trivial | exact hr.elim

section
variable {P : Program} {F : Nat → Prop} {ρ : Nat → Lc} {h : Nat → Option Blk} {w : World} {a : Act} {t : Nat → U}
theorem opU_rel {o : Oper} (H : HRel F ρ h w) (hx : ∀ x ∈ Oper.reads o, relU F ρ w (t x) (a.tmps.getD x undef) ∧ okU h (t x)) (x : Operand) (hm : x ∈ o.op.operands) : relU F ρ w (opU t x) (a.eval x) ∧ okU h (opU t x) := by
  cases x with
  | tmp x => exact hx x (List.mem_filterMap.2 ⟨.tmp x, by simpa using hm, rfl⟩)
  | const v => exact constU_rel F ρ w h v
  | global g =>
    show relU F ρ w (match glob g with | some c => .one c | none => .any) _ ∧ okU h (match glob g with | some c => .one c | none => .any)
    cases hg : glob g with
    | none => exact ⟨trivial, trivial⟩
    | some c => exact ⟨relC_relK (H.gl g c hg), closed_ok h (H.gl g c hg)⟩
  | func f => exact ⟨rfl, trivial⟩
end

/-- What an operation owes that yields a value and leaves the world. -/
theorem loc_run {P : Program} {o : Oper} {s : St} {v : U}
    (hrun : ∀ (F : Nat → Prop) (ρ : Nat → Lc) (h : Nat → Option Blk) (w : World) (ev : Operand → Value), HRel F ρ h w → (∀ x, x ∈ o.op.operands → relU F ρ w (opU s.t x) (ev x) ∧ okU h (opU s.t x)) →
      ∃ u, (execOp ev o).run P w = .ok (.value u) w ∧ relU F ρ w v u ∧ okU h v) : LocOp P o s [] [] v := by
  intro F ρ h w a Q H _ hx
  obtain ⟨u, hr, h1, h2⟩ := hrun F ρ h w a.eval H (opU_rel H hx)
  unfold Oper.wp
  rw [hr]
  exact ⟨u, F, ρ, rfl, H.refl_moves, h1, h2⟩

/-- The same, that reads a block. -/
theorem loc_runR {P : Program} {o : Oper} {s : St} {v : U} (b : Nat) (x : Blk) (hb : s.h b = some x)
    (hrun : ∀ (F : Nat → Prop) (ρ : Nat → Lc) (h : Nat → Option Blk) (w : World) (ev : Operand → Value), HRel F ρ h w → h b = some x → (∀ x, x ∈ o.op.operands → relU F ρ w (opU s.t x) (ev x) ∧ okU h (opU s.t x)) →
      ∃ u, (execOp ev o).run P w = .ok (.value u) w ∧ relU F ρ w v u ∧ okU h v) : LocOp P o s [b] [] v := by
  intro F ρ h w a Q H hR hx
  obtain ⟨u, hr, h1, h2⟩ := hrun F ρ h w a.eval H ((hR b (.inl (List.mem_singleton.2 rfl))).trans hb) (opU_rel H hx)
  unfold Oper.wp
  rw [hr]
  exact ⟨u, F, ρ, rfl, H.refl_moves, h1, h2⟩

section ops
variable {P : Program} {s : St} {dst : Option Tmp} {rt : TypeId} {pos : String} {after : Array Edge} {guard : Option (Nat × Bool)}

theorem loc_move {x : Operand} {v : U} (hv : opU s.t x = v) : LocOp P ⟨dst, .move x, rt, pos, after, guard⟩ s [] [] v :=
  loc_run fun F ρ h w ev H hx => by
    have h1 := hx x (by simp [Op.operands])
    rw [hv] at h1
    exact ⟨ev x, rfl, h1.1, h1.2⟩
theorem loc_assign {x : Operand} {v : U} (hv : opU s.t x = v) : LocOp P ⟨dst, .assign x, rt, pos, after, guard⟩ s [] [] v :=
  loc_run fun F ρ h w ev H hx => by
    have h1 := hx x (by simp [Op.operands])
    rw [hv] at h1
    exact ⟨ev x, rfl, h1.1, h1.2⟩
theorem loc_pick {c x y : Operand} {b : Bool} {v : U} (hc : opU s.t c = .one (.bool b)) (hv : opU s.t (bif b then x else y) = v) : LocOp P ⟨dst, .pick c x y, rt, pos, after, guard⟩ s [] [] v :=
  loc_run fun F ρ h w ev H hx => by
    have h1 := (hx c (by simp [Op.operands])).1
    rw [hc] at h1
    have h1 : ev c = .bool b := h1
    have h2 := hx (bif b then x else y) (by cases b <;> simp [Op.operands])
    rw [hv] at h2
    refine ⟨ev (bif b then x else y), ?_, h2.1, h2.2⟩
    cases b <;> simp [execOp, h1, asBool, go_sem]
/-- Which of two truths: both are known. -/
theorem loc_pickB {c x y : Operand} {b p q : Bool} (hc : opU s.t c = .one (.bool b)) (hx' : opU s.t x = .one (.bool p)) (hy' : opU s.t y = .one (.bool q)) : LocOp P ⟨dst, .pick c x y, rt, pos, after, guard⟩ s [] [] (.one (.bool (bif b then p else q))) :=
  loc_pick (b := b) hc (by cases b <;> simp [hx', hy'])
theorem loc_nilCheck {x : Operand} {c : C} (hv : opU s.t x = .one c) (hc : (match c with | .ptr _ _ => true | .fp _ _ => true | .fn _ => true | _ => false) = true) : LocOp P ⟨dst, .nilCheck x, rt, pos, after, guard⟩ s [] [] (.one c) :=
  loc_run fun F ρ h w ev H hx => by
    have h1 := hx x (by simp [Op.operands])
    rw [hv] at h1
    refine ⟨ev x, ?_, h1.1, h1.2⟩
    cases c <;> simp only [Bool.false_eq_true] at hc
    · have hg : ev x = .func (.func _) #[] #[] := h1.1
      simp [execOp, hg, go_sem]
    · rename_i b o
      obtain ⟨cells, hb⟩ := h1.2
      obtain ⟨g, _, hg⟩ := h1.1.2 (H.ver hb)
      simp [execOp, hg, go_sem]
    · rename_i k f
      obtain ⟨g, o, hg, _⟩ := h1.1
      simp [execOp, hg, go_sem]

/-! ### Types, as the operations ask for them -/
def aggB (P : Program) (t : TypeId) (n : Nat) : Bool := (match P.underlying t with | some d => d.isRow | none => false) && ((P.info? t).map (·.size) == some n)
def oneB (P : Program) (t : TypeId) : Bool := (match P.underlying t with | some d => !d.isRow | none => false) && ((P.info? t).map (·.size) == some 1)
def fieldB (P : Program) (t : TypeId) (f off : Nat) : Bool :=
  match P.underlying t with
  | some (.struct fs) => match fs[f]? with
    | some fd => fd.offset == off && (match P.info? fd.type with | some i => i.size != 0 | none => false)
    | none => false
  | _ => false
def elemB (P : Program) (t e : TypeId) (k bytes : Nat) : Bool :=
  match P.underlying t with
  | some (.slice e') => e' == e && (match P.info? e with | some i => i.size == k && i.bytes == bytes && decide (0 < k) && (match i.zero with | some z => z.cells.size == k | none => false) | none => false)
  | _ => false
def arrB (P : Program) (t : TypeId) (n k : Nat) : Bool :=
  match P.underlying t with
  | some (.array n' e) => n' == n && (match P.info? e with | some i => i.size == k | none => false)
  | _ => false
/-- A type of n cells, more than one value. -/
class TAgg (P : Program) (t : TypeId) (n : outParam Nat) : Prop where
  ok : aggB P t n = true
/-- A type of one cell. -/
class TOne (P : Program) (t : TypeId) : Prop where
  ok : oneB P t = true
/-- A field's place. -/
class TField (P : Program) (t : TypeId) (f : Nat) (off : outParam Nat) : Prop where
  ok : fieldB P t f off = true
/-- A slice's element type, its cells and bytes. -/
class TElem (P : Program) (t : TypeId) (e k bytes : outParam Nat) : Prop where
  ok : elemB P t e k bytes = true
/-- An array's length and its elements' cells. -/
class TArr (P : Program) (t : TypeId) (n k : outParam Nat) : Prop where
  ok : arrB P t n k = true

theorem TAgg.spec {P : Program} {t : TypeId} {n : Nat} (h : TAgg P t n) : (∃ d, P.underlying t = some d ∧ d.isRow = true) ∧ (P.info? t).map (·.size) = some n := by
  have := h.ok
  unfold aggB at this
  rw [Bool.and_eq_true] at this
  obtain ⟨h1, h2⟩ := this
  cases hu : P.underlying t with
  | none => rw [hu] at h1; cases h1
  | some d => rw [hu] at h1; exact ⟨⟨d, rfl, h1⟩, by simpa using h2⟩
theorem TOne.spec {P : Program} {t : TypeId} (h : TOne P t) : (∃ d, P.underlying t = some d ∧ d.isRow = false) ∧ (P.info? t).map (·.size) = some 1 := by
  have := h.ok
  unfold oneB at this
  rw [Bool.and_eq_true] at this
  obtain ⟨h1, h2⟩ := this
  cases hu : P.underlying t with
  | none => rw [hu] at h1; cases h1
  | some d => rw [hu] at h1; exact ⟨⟨d, rfl, by simpa using h1⟩, by simpa using h2⟩
theorem TField.spec {P : Program} {t : TypeId} {f off : Nat} (h : TField P t f off) : ∃ fs fd i, P.underlying t = some (.struct fs) ∧ fs[f]? = some fd ∧ fd.offset = off ∧ P.info? fd.type = some i ∧ i.size ≠ 0 := by
  have := h.ok
  unfold fieldB at this
  split at this
  · rename_i fs hu
    split at this
    · rename_i fd hf
      rw [Bool.and_eq_true] at this
      obtain ⟨h1, h2⟩ := this
      split at h2
      · rename_i i hi
        exact ⟨fs, fd, i, hu, hf, by simpa using h1, hi, by simpa using h2⟩
      · cases h2
    · cases this
  · cases this
theorem TElem.spec {P : Program} {t e : TypeId} {k bytes : Nat} (h : TElem P t e k bytes) : ∃ i z, P.underlying t = some (.slice e) ∧ P.info? e = some i ∧ i.size = k ∧ i.bytes = bytes ∧ 0 < k ∧ i.zero = some z ∧ z.cells.size = k := by
  have := h.ok
  unfold elemB at this
  split at this
  · rename_i e' hu
    rw [Bool.and_eq_true] at this
    obtain ⟨h1, h2⟩ := this
    have he : e' = e := by simpa using h1
    subst he
    split at h2
    · rename_i i hi
      simp only [Bool.and_eq_true] at h2
      obtain ⟨⟨⟨h3, h4⟩, h5⟩, h6⟩ := h2
      split at h6
      · rename_i z hz
        exact ⟨i, z, hu, hi, by simpa using h3, by simpa using h4, by simpa using h5, hz, by simpa using h6⟩
      · cases h6
    · cases h2
  · cases this
theorem TArr.spec {P : Program} {t : TypeId} {n k : Nat} (h : TArr P t n k) : ∃ e i, P.underlying t = some (.array n e) ∧ P.info? e = some i ∧ i.size = k := by
  have := h.ok
  unfold arrB at this
  split at this
  · rename_i n' e hu
    rw [Bool.and_eq_true] at this
    obtain ⟨h1, h2⟩ := this
    have hn : n' = n := by simpa using h1
    subst hn
    split at h2
    · rename_i i hi
      exact ⟨e, i, hu, hi, by simpa using h2⟩
    · cases h2
  · cases this

theorem run_fieldAt {P : Program} {t : TypeId} {f off : Nat} (T : TField P t f off) (w : World) (g o : Nat) : (Instr.fieldAt t (.pointer (some ⟨g, o, none⟩)) f).run P w = .ok (.pointer (some ⟨g, o + off, none⟩)) w := by
  obtain ⟨fs, fd, i, h1, h2, h3, h4, h5⟩ := T.spec
  subst h3
  simp [Instr.fieldAt, run_underlying h1, h2, Instr.sureAddr, fieldPlace, sizeOf, typeInfo, h4, h5, Addr.add_mid]

theorem loc_fieldAddr {t : TypeId} {x : Operand} {f off b o : Nat} [T : TField P t f off] (hv : opU s.t x = .one (.ptr b o)) : LocOp P ⟨dst, .fieldAddr t x f, rt, pos, after, guard⟩ s [] [] (.one (.ptr b (o + off))) :=
  loc_run fun F ρ h w ev H hx => by
    have h1 := hx x (by simp [Op.operands])
    rw [hv] at h1
    obtain ⟨cells, hb⟩ := h1.2
    have hver := H.ver hb
    obtain ⟨g, hg, hp⟩ := h1.1.2 hver
    refine ⟨.pointer (some ⟨g, o + off, none⟩), ?_, ⟨rfl, fun _ => ⟨g, hg, rfl⟩⟩, ⟨cells, hb⟩⟩
    simp [execOp, hp, run_fieldAt T]
/-- Into an element of a row of the call's own. -/
theorem loc_fieldAddrE {t : TypeId} {x : Operand} {f off b v k i o : Nat} [T : TField P t f off] (hv : opU s.t x = .one (.eptr b v k i o)) {e k' : Nat} {rows : List (List C)} (hb : s.h b = some (.row e k' v rows)) (hi : i < rows.length) :
    LocOp P ⟨dst, .fieldAddr t x f, rt, pos, after, guard⟩ s [b] [] (.one (.eptr b v k i (o + off))) :=
  loc_runR b _ hb fun F ρ h w ev H hb hx => by
    have h1 := hx x (by simp [Op.operands])
    rw [hv] at h1
    have hver : (ρ b).v = v := H.ver hb
    obtain ⟨g, hg, hp⟩ := h1.1.2 hver
    refine ⟨.pointer (some ⟨g, i * k + (o + off), none⟩), ?_, ⟨rfl, fun _ => ⟨g, hg, rfl⟩⟩, h1.2⟩
    simp [execOp, hp, run_fieldAt T, Nat.add_assoc]
/-- Into what turns no more. -/
theorem loc_fieldAddrF {t : TypeId} {x : Operand} {f off o : Nat} {row : List C} [T : TField P t f off] (hv : opU s.t x = .one (fpo row o)) : LocOp P ⟨dst, .fieldAddr t x f, rt, pos, after, guard⟩ s [] [] (.one (fpo row (o + off))) :=
  loc_run fun F ρ h w ev H hx => by
    have h1 := hx x (by simp [Op.operands])
    rw [hv] at h1
    obtain ⟨g, q, hp, hF, hj⟩ := h1.1
    refine ⟨.pointer (some ⟨g, q + off, none⟩), ?_, ⟨g, q + off, rfl, hF, fun j hj' => ?_⟩, trivial⟩
    · simp [execOp, hp, run_fieldAt T]
    · obtain ⟨u, hu, hr⟩ := hj (off + j) (by omega)
      exact ⟨u, by rw [Nat.add_assoc]; exact hu, by show relK F w (rowF row (o + off + j)) u; rw [Nat.add_assoc]; exact hr⟩

/-! ### Loads -/
theorem run_loadAt_one {P : Program} {t : TypeId} (T : TOne P t) (w : World) (g o : Nat) (v : Value) (hc : w.cell? ⟨g, o, none⟩ = some v) : (Instr.loadAt t (.pointer (some ⟨g, o, none⟩))).run P w = .ok v w := by
  obtain ⟨⟨d, hu, hd⟩, _⟩ := T.spec
  have hagg : (isAgg t).run P w = .ok false w := by
    unfold isAgg
    rw [Sem.run_bind, run_underlying hu w]
    cases d <;> simp_all
  simp [Instr.loadAt, Instr.sureAddr, loadVar, hagg, go_sem, hc]
theorem run_loadAt_agg {P : Program} {t : TypeId} {n : Nat} (T : TAgg P t n) (w : World) (g o : Nat) (vs : List Value) (hn : vs.length = n) (hc : ∀ j v, vs[j]? = some v → w.cell? ⟨g, o + j, none⟩ = some v) :
    (Instr.loadAt t (.pointer (some ⟨g, o, none⟩))).run P w = .ok (.agg vs.toArray) w := by
  obtain ⟨⟨d, hu, hd⟩, hi⟩ := T.spec
  exact run_loadAt_mid w g o t vs d hc hu hd (by rw [hi, hn])

/-- The n cells from o on. -/
def Cut : List C → Nat → Nat → List C → Prop
  | _, _, 0, l => l = []
  | cs, o, n + 1, l => ∃ c l', cs[o]? = some c ∧ l = c :: l' ∧ Cut cs (o + 1) n l'
theorem Cut.spec : ∀ {n : Nat} {cs : List C} {o : Nat} {l : List C}, Cut cs o n l → l.length = n ∧ ∀ (j : Nat) c, l[j]? = some c → cs[o + j]? = some c
  | 0, _, _, _, h => by cases h; exact ⟨rfl, fun j c h => by simp at h⟩
  | n + 1, cs, o, _, ⟨c, l', hc, rfl, h⟩ => by
    obtain ⟨h1, h2⟩ := Cut.spec h
    refine ⟨by simp [h1], fun j d hd => ?_⟩
    cases j with
    | zero => simp at hd; subst hd; exact hc
    | succ j => rw [show o + (j + 1) = o + 1 + j by omega]; exact h2 j d (by simpa using hd)

theorem blk_at {F : Nat → Prop} {ρ : Nat → Lc} {w : World} {b : Nat} {cells : List C} (h : blkRel F ρ w b (.obj cells)) : ∃ g, (ρ b).g = some g ∧ ∀ (j : Nat) c, cells[j]? = some c → ∃ u, w.cell? ⟨g, j, none⟩ = some u ∧ w.frozen? ⟨g, j, none⟩ = false ∧ relC F ρ w c u := by
  obtain ⟨_, g, e, cs, hg, hh, hj⟩ := h
  refine ⟨g, hg, fun j c hc => ?_⟩
  obtain ⟨u, hu, hr⟩ := hj j c hc
  exact ⟨u, by simp [World.cell?, hh, hu], by simp [World.frozen?, hh], hr⟩
theorem row_at {F : Nat → Prop} {ρ : Nat → Lc} {w : World} {b : Nat} {e : TypeId} {k v : Nat} {rows : List (List C)} (h : blkRel F ρ w b (.row e k v rows)) {i : Nat} {row : List C} (hi : rows[i]? = some row) : ∃ g, (ρ b).g = some g ∧ row.length = k ∧ ∀ (j : Nat) c, row[j]? = some c → ∃ u, w.cell? ⟨g, i * k + j, none⟩ = some u ∧ w.frozen? ⟨g, i * k + j, none⟩ = false ∧ relC F ρ w c u := by
  obtain ⟨_, _, ⟨_, h0⟩ | ⟨g, cs, hg, hh, _, _, _, hj⟩⟩ := h
  · subst h0; simp at hi
  · refine ⟨g, hg, (hj i row hi).1, fun j c hc => ?_⟩
    obtain ⟨u, hu, hr⟩ := (hj i row hi).2 j c hc
    exact ⟨u, by simp [World.cell?, hh, hu], by simp [World.frozen?, hh], hr⟩

theorem choose_list {α β : Type} {R : Nat → α → β → Prop} : ∀ (l : List α) (o : Nat), (∀ (j : Nat) c, l[j]? = some c → ∃ u, R (o + j) c u) → ∃ vs : List β, vs.length = l.length ∧ ∀ (j : Nat) c u, l[j]? = some c → vs[j]? = some u → R (o + j) c u
  | [], _, _ => ⟨[], rfl, fun j c u h => by simp at h⟩
  | a :: l, o, h => by
    obtain ⟨u0, h0⟩ := h 0 a rfl
    obtain ⟨vs, h1, h2⟩ := choose_list (R := R) l (o + 1) (fun j c hc => by
      obtain ⟨u, hu⟩ := h (j + 1) c (by simpa using hc)
      exact ⟨u, by rw [show o + 1 + j = o + (j + 1) by omega]; exact hu⟩)
    refine ⟨u0 :: vs, by simp [h1], fun j c u hc hu => ?_⟩
    cases j with
    | zero => simp at hc hu; subst hc; subst hu; exact h0
    | succ j => rw [show o + (j + 1) = o + 1 + j by omega]; exact h2 j c u (by simpa using hc) (by simpa using hu)

theorem loc_load {t : TypeId} {x : Operand} {b o : Nat} {cells : List C} {c : C} [T : TOne P t] (hv : opU s.t x = .one (.ptr b o)) (hb : s.h b = some (.obj cells)) (hc : cells[o]? = some c) :
    LocOp P ⟨dst, .load t x, rt, pos, after, guard⟩ s [b] [] (.one c) :=
  loc_runR b _ hb fun F ρ h w ev H hb hx => by
    have h1 := (hx x (by simp [Op.operands])).1
    rw [hv] at h1
    obtain ⟨g, hg, hp⟩ := h1.2 (H.ver hb)
    obtain ⟨g', hg', hj⟩ := blk_at (H.blk b _ hb)
    obtain rfl : g = g' := Option.some.inj (hg.symm.trans hg')
    obtain ⟨u, hu, _, hr⟩ := hj o c hc
    refine ⟨u, ?_, hr, H.ok b _ hb c (List.mem_of_getElem? hc)⟩
    simp [execOp, hp, run_loadAt_one T w g o u hu]
theorem loc_loadA {t : TypeId} {x : Operand} {b o n : Nat} {cells l : List C} [T : TAgg P t n] (hv : opU s.t x = .one (.ptr b o)) (hb : s.h b = some (.obj cells)) (hc : Cut cells o n l) :
    LocOp P ⟨dst, .load t x, rt, pos, after, guard⟩ s [b] [] (.agg l) :=
  loc_runR b _ hb fun F ρ h w ev H hb hx => by
    have h1 := (hx x (by simp [Op.operands])).1
    rw [hv] at h1
    obtain ⟨g, hg, hp⟩ := h1.2 (H.ver hb)
    obtain ⟨g', hg', hj⟩ := blk_at (H.blk b _ hb)
    obtain rfl : g = g' := Option.some.inj (hg.symm.trans hg')
    obtain ⟨hl, hsub⟩ := hc.spec
    obtain ⟨vs, hvs, hR⟩ := choose_list (R := fun j c u => w.cell? ⟨g, j, none⟩ = some u ∧ relC F ρ w c u) l o (fun j c hjc => by
      obtain ⟨u, hu, _, hr⟩ := hj _ c (hsub j c hjc)
      exact ⟨u, hu, hr⟩)
    refine ⟨.agg vs.toArray, ?_, ⟨vs, rfl, All2.of hvs.symm fun i c u h1 h2 => (hR i c u h1 h2).2⟩, fun c hcm => ?_⟩
    · rw [show execOp ev (⟨dst, .load t x, rt, pos, after, guard⟩ : Oper) = (do pure (Next.value (← Instr.loadAt t (ev x)))) from rfl, hp]
      rw [Sem.run_bind, run_loadAt_agg T w g o vs (by rw [hvs, hl]) fun j v hjv => ?_]
      · rfl
      · have hlt : j < l.length := by rw [← hvs]; exact (List.getElem?_eq_some_iff.1 hjv).1
        exact (hR j _ v (List.getElem?_eq_getElem hlt) hjv).1
    · obtain ⟨j, hjl, hje⟩ := List.getElem_of_mem hcm
      have := hsub j c (by rw [List.getElem?_eq_getElem hjl, hje])
      exact H.ok b _ hb c (List.mem_of_getElem? this)

/-- Out of an element of a row of the call's own. -/
theorem loc_loadE {t : TypeId} {x : Operand} {b v k i o : Nat} {e : TypeId} {rows : List (List C)} {row : List C} {c : C} [T : TOne P t] (hv : opU s.t x = .one (.eptr b v k i o)) (hb : s.h b = some (.row e k v rows)) (hi : rows[i]? = some row) (hc : row[o]? = some c) :
    LocOp P ⟨dst, .load t x, rt, pos, after, guard⟩ s [b] [] (.one c) :=
  loc_runR b _ hb fun F ρ h w ev H hb hx => by
    have h1 := (hx x (by simp [Op.operands])).1
    rw [hv] at h1
    obtain ⟨g, hg, hp⟩ := h1.2 (H.ver hb)
    obtain ⟨g', hg', _, hj⟩ := row_at (H.blk b _ hb) hi
    obtain rfl : g = g' := Option.some.inj (hg.symm.trans hg')
    obtain ⟨u, hu, _, hr⟩ := hj o c hc
    refine ⟨u, ?_, hr, H.ok b _ hb row (List.mem_of_getElem? hi) c (List.mem_of_getElem? hc)⟩
    simp [execOp, hp, run_loadAt_one T w g _ u hu]
theorem loc_loadEA {t : TypeId} {x : Operand} {b v k i o n : Nat} {e : TypeId} {rows : List (List C)} {row l : List C} [T : TAgg P t n] (hv : opU s.t x = .one (.eptr b v k i o)) (hb : s.h b = some (.row e k v rows)) (hi : rows[i]? = some row) (hc : Cut row o n l) :
    LocOp P ⟨dst, .load t x, rt, pos, after, guard⟩ s [b] [] (.agg l) :=
  loc_runR b _ hb fun F ρ h w ev H hb hx => by
    have h1 := (hx x (by simp [Op.operands])).1
    rw [hv] at h1
    obtain ⟨g, hg, hp⟩ := h1.2 (H.ver hb)
    obtain ⟨g', hg', _, hj⟩ := row_at (H.blk b _ hb) hi
    obtain rfl : g = g' := Option.some.inj (hg.symm.trans hg')
    obtain ⟨hl, hsub⟩ := hc.spec
    obtain ⟨vs, hvs, hR⟩ := choose_list (R := fun j c u => w.cell? ⟨g, i * k + j, none⟩ = some u ∧ relC F ρ w c u) l o (fun j c hjc => by
      obtain ⟨u, hu, _, hr⟩ := hj _ c (hsub j c hjc)
      exact ⟨u, hu, hr⟩)
    refine ⟨.agg vs.toArray, ?_, ⟨vs, rfl, All2.of hvs.symm fun i c u h1 h2 => (hR i c u h1 h2).2⟩, fun c hcm => ?_⟩
    · rw [show execOp ev (⟨dst, .load t x, rt, pos, after, guard⟩ : Oper) = (do pure (Next.value (← Instr.loadAt t (ev x)))) from rfl, hp]
      rw [Sem.run_bind, run_loadAt_agg T w g _ vs (by rw [hvs, hl]) fun j v hjv => ?_]
      · rfl
      · have hlt : j < l.length := by rw [← hvs]; exact (List.getElem?_eq_some_iff.1 hjv).1
        rw [Nat.add_assoc]
        exact (hR j _ v (List.getElem?_eq_getElem hlt) hjv).1
    · obtain ⟨j, hjl, hje⟩ := List.getElem_of_mem hcm
      have := hsub j c (by rw [List.getElem?_eq_getElem hjl, hje])
      exact H.ok b _ hb row (List.mem_of_getElem? hi) c (List.mem_of_getElem? this)
/-- Out of what turns no more. -/
theorem loc_loadF {t : TypeId} {x : Operand} {o : Nat} {row : List C} {c : C} [T : TOne P t] (hv : opU s.t x = .one (fpo row o)) (hc : row[o]? = some c) :
    LocOp P ⟨dst, .load t x, rt, pos, after, guard⟩ s [] [] (.one c) :=
  loc_run fun F ρ h w ev H hx => by
    have h1 := (hx x (by simp [Op.operands])).1
    rw [hv] at h1
    obtain ⟨g, q, hp, hF, hj⟩ := h1
    have hlt := (List.getElem?_eq_some_iff.1 hc).1
    obtain ⟨u, hu, hr⟩ := hj 0 (by omega)
    have hcc : rowF row (o + 0) = c := by simp [rowF, hc]
    have hr : relK F w (rowF row (o + 0)) u := hr
    rw [hcc] at hr
    rw [Nat.add_zero] at hu
    refine ⟨u, ?_, relC_relK hr, closed_ok h hr⟩
    simp [execOp, hp, run_loadAt_one T w g _ u hu]
theorem loc_loadFA {t : TypeId} {x : Operand} {o n : Nat} {row l : List C} [T : TAgg P t n] (hv : opU s.t x = .one (fpo row o)) (hc : Cut row o n l) :
    LocOp P ⟨dst, .load t x, rt, pos, after, guard⟩ s [] [] (.agg l) :=
  loc_run fun F ρ h w ev H hx => by
    have h1 := (hx x (by simp [Op.operands])).1
    rw [hv] at h1
    obtain ⟨g, q, hp, hF, hj⟩ := h1
    obtain ⟨hl, hsub⟩ := hc.spec
    obtain ⟨vs, hvs, hR⟩ := choose_list (R := fun j c u => w.cell? ⟨g, q + j, none⟩ = some u ∧ relK F w c u) l 0 (fun j c hjc => by
      have h3 := hsub j c hjc
      have hlt := (List.getElem?_eq_some_iff.1 h3).1
      obtain ⟨u, hu, hr⟩ := hj j (by omega)
      have hcc : rowF row (o + j) = c := by simp [rowF, h3]
      have hr : relK F w (rowF row (o + j)) u := hr
      rw [hcc] at hr
      rw [Nat.zero_add]
      exact ⟨u, hu, hr⟩)
    simp only [Nat.zero_add] at hR
    refine ⟨.agg vs.toArray, ?_, ⟨vs, rfl, All2.of hvs.symm fun i c u h1 h2 => relC_relK (hR i c u h1 h2).2⟩, fun c hcm => ?_⟩
    · rw [show execOp ev (⟨dst, .load t x, rt, pos, after, guard⟩ : Oper) = (do pure (Next.value (← Instr.loadAt t (ev x)))) from rfl, hp]
      rw [Sem.run_bind, run_loadAt_agg T w g q vs (by rw [hvs, hl]) fun j v hjv => ?_]
      · rfl
      · have hlt : j < l.length := by rw [← hvs]; exact (List.getElem?_eq_some_iff.1 hjv).1
        exact (hR j _ v (List.getElem?_eq_getElem hlt) hjv).1
    · obtain ⟨j, hjl, hje⟩ := List.getElem_of_mem hcm
      have hlt : j < vs.length := by rw [hvs]; exact hjl
      exact closed_ok h (hR j c _ (by rw [List.getElem?_eq_getElem hjl, hje]) (List.getElem?_eq_getElem hlt)).2
theorem Cut.whole (l : List C) : ∀ (n o : Nat), o + n = l.length → Cut l o n (l.drop o)
  | 0, o, h => by
    show l.drop o = []
    exact List.drop_eq_nil_of_le (by omega)
  | n + 1, o, h => by
    have hlt : o < l.length := by omega
    exact ⟨l[o], l.drop (o + 1), by simp [hlt], List.drop_eq_getElem_cons hlt, Cut.whole l n (o + 1) (by omega)⟩
/-- All of it. -/
theorem Cut.all {l : List C} {n : Nat} (h : l.length = n) : Cut l 0 n l := by
  have := Cut.whole l n 0 (by omega)
  rwa [List.drop_zero] at this
end ops
end Go.Proofs.YtnflnbdlgdjfmaaDoor
