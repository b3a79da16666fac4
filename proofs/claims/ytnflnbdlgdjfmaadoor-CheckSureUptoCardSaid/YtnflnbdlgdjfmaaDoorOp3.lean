/-
  What single operations do, kind by kind (3): slices of slices, truths, several values; stores; new variables. Conditions: those typed in each theorem.
-/
import Derived.Test.YtnflnbdlgdjfmaaDoorOp2
namespace Go.Proofs.YtnflnbdlgdjfmaaDoor
open Go.RowKit
set_option linter.unusedVariables false
set_option linter.unusedSimpArgs false
section ops
variable {P : Program} {s : St} {dst : Option Tmp} {rt : TypeId} {pos : String} {after : Array Edge} {guard : Option (Nat × Bool)}

theorem loc_not {t : TypeId} {x : Operand} {b : Bool} (hx' : opU s.t x = .one (.bool b)) : LocOp P ⟨dst, .unOp .not t x, rt, pos, after, guard⟩ s [] [] (.one (.bool (!b))) :=
  loc_run fun F ρ h w ev H hx => by
    have h1 := (hx x (by simp [Op.operands])).1
    rw [hx'] at h1
    have h1 : ev x = .bool b := h1
    exact ⟨.bool (!b), by simp [execOp, h1, Op.unary, go_sem], rfl, trivial⟩
theorem loc_neg {t : TypeId} {x : Operand} {k : IntKind} {n : Int} (hx' : opU s.t x = .one (.int k n)) : LocOp P ⟨dst, .unOp .neg t x, rt, pos, after, guard⟩ s [] [] (.one (.int k (k.wrap (0 - n)))) :=
  loc_run fun F ρ h w ev H hx => by
    have h1 := (hx x (by simp [Op.operands])).1
    rw [hx'] at h1
    have h1 : ev x = .int k n := h1
    exact ⟨.int k (k.wrap (0 - n)), by simp [execOp, h1, Op.unary, Op.intArith, go_sem], rfl, trivial⟩
theorem relU1_relU {F : Nat → Prop} {ρ : Nat → Lc} {w : World} {u : U} {v : Value} (h : relU1 F ρ w u v) : relU F ρ w u v := by
  cases u <;> first | exact h | exact h.elim
theorem okU1_okU {h : Nat → Option Blk} {F : Nat → Prop} {ρ : Nat → Lc} {w : World} {u : U} {v : Value} (hr : relU1 F ρ w u v) (ho : okU1 h u) : okU h u := by
  cases u <;> first | exact ho | exact hr.elim
theorem loc_extract {x : Operand} {i : Nat} {l : List U} {u : U} (hx' : opU s.t x = .tup l) (hu : l[i]? = some u) : LocOp P ⟨dst, .extract x i, rt, pos, after, guard⟩ s [] [] u :=
  loc_run fun F ρ h w ev H hx => by
    have h1 := hx x (by simp [Op.operands])
    rw [hx'] at h1
    obtain ⟨⟨vs, hv, ha⟩, hok⟩ := h1
    obtain ⟨v, hv', hr⟩ := ha.get i u hu
    refine ⟨v, ?_, relU1_relU hr, okU1_okU hr (hok u (List.mem_of_getElem? hu))⟩
    simp [execOp, hv, Instr.extract, hv', go_sem]

/-! ### Slices of slices -/
theorem elem_of {P : Program} {t e : TypeId} {k bytes : Nat} (T : TElem P t e k bytes) : P.underlying t = some (.slice e) ∧ (∃ inf, P.info? e = some inf ∧ inf.size = k) := by
  obtain ⟨inf, z, h1, h2, h3, _⟩ := T.spec
  exact ⟨h1, inf, h2, h3⟩
theorem run_slice_hm' {P : Program} {t e : TypeId} {k bytes : Nat} (T : TElem P t e k bytes) (w : World) (a : Option Addr) (n cap hi : Nat) (ik jk : IntKind) (h : hi ≤ cap) :
    (Instr.sliceAt t (.slice a n cap) none (some (.int ik hi)) (some (.int jk hi))).run P w = .ok (.slice (if hi = 0 then a else a) hi hi) w := by
  obtain ⟨h1, inf, h2, h3⟩ := elem_of T
  have e1 : (hi : Int) ≤ cap := by omega
  by_cases h0 : hi = 0
  · subst h0; simp [Instr.sliceAt, Instr.slice, Instr.sliceBounds, Instr.sliceBound, run_underlying h1, asIntOf, sizeOf, typeInfo, h2, go_sem]
  · cases a <;> simp [Instr.sliceAt, Instr.slice, Instr.sliceBounds, Instr.sliceBound, run_underlying h1, asIntOf, sizeOf, typeInfo, h2, h, h0, go_sem, Addr.add]
/-- 'x[:n:n]', all of it: no room behind. -/
theorem loc_sliceFull {t : TypeId} {x y z : Operand} {e : TypeId} {k bytes : Nat} {ik jk : IntKind} {rows : List (List C)} {m m' : Int} [T : TElem P t e k bytes] (hv : opU s.t x = .one (slOf k rows)) (hy : opU s.t y = .one (.int ik m)) (hz : opU s.t z = .one (.int jk m'))
    (hm : m = (rows.length : Nat)) (hm' : m' = (rows.length : Nat)) : LocOp P ⟨dst, .slice t x none (some y) (some z), rt, pos, after, guard⟩ s [] [] (.one (slFOf k rows)) :=
  loc_run fun F ρ h w ev H hx => by
    have h1 := (hx x (by simp [Op.operands])).1
    have h2 := (hx y (by simp [Op.operands])).1
    have h3 := (hx z (by simp [Op.operands])).1
    rw [hv] at h1
    rw [hy] at h2
    rw [hz] at h3
    have h2 : ev y = .int ik m := h2
    have h3 : ev z = .int jk m' := h3
    subst hm
    subst hm'
    obtain ⟨a, cap, hp, hcap, hmax, hj⟩ := h1
    refine ⟨.slice a rows.length rows.length, ?_, ⟨a, rfl, hmax, hj⟩, trivial⟩
    simp [execOp, hp, h2, h3, run_slice_hm' T w a rows.length cap rows.length ik jk hcap]
theorem run_slice_hi {P : Program} {t e : TypeId} {k bytes : Nat} (T : TElem P t e k bytes) (w : World) (a : Option Addr) (n cap hi : Nat) (jk : IntKind) (h : hi ≤ cap) :
    (Instr.sliceAt t (.slice a n cap) none (some (.int jk hi)) none).run P w = .ok (.slice a hi cap) w := by
  obtain ⟨h1, inf, h2, h3⟩ := elem_of T
  have e1 : (hi : Int) ≤ cap := by omega
  by_cases h0 : cap = 0
  · subst h0
    obtain rfl : hi = 0 := by omega
    simp [Instr.sliceAt, Instr.slice, Instr.sliceBounds, Instr.sliceBound, run_underlying h1, asIntOf, sizeOf, typeInfo, h2, go_sem]
  · cases a <;> simp [Instr.sliceAt, Instr.slice, Instr.sliceBounds, Instr.sliceBound, run_underlying h1, asIntOf, sizeOf, typeInfo, h2, h, h0, go_sem, Addr.add]
theorem run_slice_lo {P : Program} {t e : TypeId} {k bytes : Nat} (T : TElem P t e k bytes) (w : World) (g o n cap lo : Nat) (jk : IntKind) (h : lo ≤ n) (hc : n ≤ cap) :
    (Instr.sliceAt t (.slice (some ⟨g, o, none⟩) n cap) (some (.int jk lo)) none none).run P w = .ok (.slice (some (if cap = lo then ⟨g, o, none⟩ else ⟨g, o + lo * k, none⟩)) (n - lo) (cap - lo)) w := by
  obtain ⟨h1, inf, h2, h3⟩ := elem_of T
  have e1 : (lo : Int) ≤ n := by omega
  simp [Instr.sliceAt, Instr.slice, Instr.sliceBounds, Instr.sliceBound, run_underlying h1, asIntOf, sizeOf, typeInfo, h2, h3, h, go_sem, Addr.add_mid]
  try (split <;> rfl)
/-- 'x[:n]' of what turns no more. -/
theorem loc_sliceHi {t : TypeId} {x y : Operand} {e : TypeId} {k bytes n : Nat} {jk : IntKind} {rows : List (List C)} {m : Int} [T : TElem P t e k bytes] (hv : opU s.t x = .one (slOf k rows)) (hy : opU s.t y = .one (.int jk m)) (hm : m = (n : Nat)) (hn : n ≤ rows.length) :
    LocOp P ⟨dst, .slice t x none (some y) none, rt, pos, after, guard⟩ s [] [] (.one (slOf k (rows.take n))) :=
  loc_run fun F ρ h w ev H hx => by
    have h1 := (hx x (by simp [Op.operands])).1
    have h2 := (hx y (by simp [Op.operands])).1
    rw [hv] at h1
    rw [hy] at h2
    have h2 : ev y = .int jk m := h2
    subst hm
    obtain ⟨a, cap, hp, hcap, hmax, hj⟩ := h1
    have hl : (rows.take n).length = n := by rw [List.length_take]; omega
    refine ⟨.slice a n cap, ?_, ⟨a, cap, by rw [hl], by omega, by omega, fun i hi => ?_⟩, trivial⟩
    · simp [execOp, hp, h2, run_slice_hi T w a rows.length cap n jk (by omega)]
    · rw [hl] at hi
      obtain ⟨g, o, ha, hF, hj'⟩ := hj i (by omega)
      refine ⟨g, o, ha, hF, fun j hjk => ?_⟩
      obtain ⟨u, hu, hr⟩ := hj' j hjk
      refine ⟨u, hu, ?_⟩
      show relK F w (rowF ((rows.take n).getD i []) j) u
      rw [List.getD_eq_getElem?_getD, List.getElem?_take_of_lt hi, ← List.getD_eq_getElem?_getD]
      exact hr
/-- 'x[n:]' of what turns no more. -/
theorem loc_sliceLo {t : TypeId} {x y : Operand} {e : TypeId} {k bytes n : Nat} {jk : IntKind} {rows : List (List C)} {m : Int} [T : TElem P t e k bytes] (hv : opU s.t x = .one (slOf k rows)) (hy : opU s.t y = .one (.int jk m)) (hm : m = (n : Nat)) (hn : n ≤ rows.length) (hne : 0 < rows.length) :
    LocOp P ⟨dst, .slice t x (some y) none none, rt, pos, after, guard⟩ s [] [] (.one (slOf k (rows.drop n))) :=
  loc_run fun F ρ h w ev H hx => by
    have h1 := (hx x (by simp [Op.operands])).1
    have h2 := (hx y (by simp [Op.operands])).1
    rw [hv] at h1
    rw [hy] at h2
    have h2 : ev y = .int jk m := h2
    subst hm
    obtain ⟨a, cap, hp, hcap, hmax, hj⟩ := h1
    obtain ⟨g, o, rfl, hF, _⟩ := hj 0 hne
    have hl : (rows.drop n).length = rows.length - n := List.length_drop
    refine ⟨.slice (some (if cap = n then ⟨g, o, none⟩ else ⟨g, o + n * k, none⟩)) (rows.length - n) (cap - n), ?_, ⟨_, cap - n, by rw [hl], by omega, by omega, fun i hi => ?_⟩, trivial⟩
    · simp [execOp, hp, h2, run_slice_lo T w g o rows.length cap n jk hn hcap]
    · rw [hl] at hi
      rw [if_neg (by omega)]
      obtain ⟨g', o', ha, hF', hj'⟩ := hj (n + i) (by omega)
      cases ha
      refine ⟨g, o + n * k, rfl, hF, fun j hjk => ?_⟩
      obtain ⟨u, hu, hr⟩ := hj' j hjk
      refine ⟨u, ?_, ?_⟩
      · rw [show o + n * k + i * k + j = o + (n + i) * k + j by rw [Nat.add_mul]; omega]; exact hu
      · show relK F w (rowF ((rows.drop n).getD i []) j) u
        rw [List.getD_eq_getElem?_getD, List.getElem?_drop, ← List.getD_eq_getElem?_getD]
        exact hr
/-- 'x[:n]' of a row of the call's own. -/
theorem loc_sliceOwn {t : TypeId} {x y : Operand} {e : TypeId} {k bytes b v n n' : Nat} {jk : IntKind} {rows : List (List C)} {m : Int} [T : TElem P t e k bytes] (hv : opU s.t x = .one (.own b v n)) (hy : opU s.t y = .one (.int jk m)) (hm : m = (n' : Nat)) (hb : s.h b = some (.row e k v rows)) (hn : n' ≤ rows.length) (hnn : n ≤ rows.length) :
    LocOp P ⟨dst, .slice t x none (some y) none, rt, pos, after, guard⟩ s [b] [] (.one (.own b v n')) :=
  loc_runR b _ hb fun F ρ h w ev H hb hx => by
    have h1 := hx x (by simp [Op.operands])
    have h2 := (hx y (by simp [Op.operands])).1
    rw [hv] at h1
    rw [hy] at h2
    have h2 : ev y = .int jk m := h2
    subst hm
    have hB := H.blk b _ hb
    rcases h1.1.2 (H.ver hb) with ⟨hg, h0, hp⟩ | ⟨g, hg, hp⟩
    · obtain ⟨_, _, ⟨_, hr⟩ | ⟨g', _, hg', _⟩⟩ := hB
      · subst hr
        obtain rfl : n' = 0 := by simpa using hn
        exact ⟨.slice none 0 0, by
          have hq := run_slice_hi T w none 0 0 0 jk (Nat.le_refl _)
          simp only [Int.natCast_zero] at hq h2
          simp [execOp, hp, h2, hq], ⟨rfl, fun _ => .inl ⟨hg, rfl, rfl⟩⟩, h1.2⟩
      · rw [hg] at hg'; cases hg'
    · obtain ⟨_, _, ⟨hg', _⟩ | ⟨g', cs, hg', _, _, hle, _⟩⟩ := hB
      · rw [hg] at hg'; cases hg'
      · exact ⟨.slice (some ⟨g, 0, none⟩) n' (ρ b).cap, by simp [execOp, hp, h2, run_slice_hi T w (some ⟨g, 0, none⟩) n (ρ b).cap n' jk (by omega)], ⟨rfl, fun _ => .inr ⟨g, hg, rfl⟩⟩, h1.2⟩
end ops
end Go.Proofs.YtnflnbdlgdjfmaaDoor
