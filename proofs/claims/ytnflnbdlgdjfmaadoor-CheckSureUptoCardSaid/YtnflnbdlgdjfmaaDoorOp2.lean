/-
  What single operations do, kind by kind (2): indexes, slices, lengths, sums, tests. Conditions: those typed in each theorem.
-/
import Derived.Test.YtnflnbdlgdjfmaaDoorOp
import Derived.IntWalk
namespace Go.Proofs.YtnflnbdlgdjfmaaDoor
open Go.RowKit
set_option linter.unusedVariables false
set_option linter.unusedSimpArgs false
section ops
variable {P : Program} {s : St} {dst : Option Tmp} {rt : TypeId} {pos : String} {after : Array Edge} {guard : Option (Nat × Bool)}

theorem run_indexAt_sl {P : Program} {t e : TypeId} {k bytes : Nat} (T : TElem P t e k bytes) (w : World) (g o n cap i : Nat) (ik : IntKind) (hi : i < n) :
    (Instr.indexAt t (.slice (some ⟨g, o, none⟩) n cap) (.int ik i)).run P w = .ok (.pointer (some ⟨g, o + i * k, none⟩)) w := by
  obtain ⟨inf, z, h1, h2, h3, h4, h5, h6, h7⟩ := T.spec
  have : (i : Int) < n := by omega
  simp [Instr.indexAt, run_underlying h1, sizeOf, typeInfo, h2, h3, asIntOf, hi, Addr.add_mid, go_sem]

/-- An element of a row of the call's own. -/
theorem loc_indexOwn {t : TypeId} {x y : Operand} {e : TypeId} {k bytes b v n : Nat} {ik : IntKind} {m : Int} {rows : List (List C)} [T : TElem P t e k bytes] (i : Nat)
    (hv : opU s.t x = .one (.own b v n)) (hy : opU s.t y = .one (.int ik m)) (hm : m = (i : Int)) (hb : s.h b = some (.row e k v rows)) (hi : i < n) :
    LocOp P ⟨dst, .indexAddr t x y, rt, pos, after, guard⟩ s [b] [] (.one (.eptr b v k i 0)) :=
  loc_runR b _ hb fun F ρ h w ev H hb hx => by
    have h1 := hx x (by simp [Op.operands])
    have h2 := (hx y (by simp [Op.operands])).1
    rw [hv] at h1
    rw [hy] at h2
    have h2 : ev y = .int ik m := h2
    subst hm
    rcases h1.1.2 (H.ver hb) with ⟨_, h0, _⟩ | ⟨g, hg, hp⟩
    · omega
    · refine ⟨.pointer (some ⟨g, i * k + 0, none⟩), ?_, ⟨rfl, fun _ => ⟨g, hg, rfl⟩⟩, ⟨e, k, v, rows, hb, Nat.le_refl _⟩⟩
      simp [execOp, hp, h2, run_indexAt_sl T w g 0 n _ i ik hi]
/-- An element of what turns no more. -/
theorem loc_indexSl {t : TypeId} {x y : Operand} {e : TypeId} {k bytes : Nat} {ik : IntKind} {m : Int} {rows : List (List C)} {row : List C} [T : TElem P t e k bytes] (i : Nat)
    (hv : opU s.t x = .one (slOf k rows)) (hy : opU s.t y = .one (.int ik m)) (hm : m = (i : Int)) (hr : rows[i]? = some row) (hl : row.length = k) :
    LocOp P ⟨dst, .indexAddr t x y, rt, pos, after, guard⟩ s [] [] (.one (fpo row 0)) :=
  loc_run fun F ρ h w ev H hx => by
    have h1 := (hx x (by simp [Op.operands])).1
    have h2 := (hx y (by simp [Op.operands])).1
    rw [hv] at h1
    rw [hy] at h2
    have h2 : ev y = .int ik m := h2
    subst hm
    obtain ⟨a, cap, hp, hcap, hmax, hj⟩ := h1
    have hi := (List.getElem?_eq_some_iff.1 hr).1
    obtain ⟨g, o, rfl, hF, hj⟩ := hj i hi
    refine ⟨.pointer (some ⟨g, o + i * k, none⟩), ?_, ⟨g, o + i * k, rfl, hF, fun j hj' => ?_⟩, trivial⟩
    · simp [execOp, hp, h2, run_indexAt_sl T w g o rows.length cap i ik hi]
    · obtain ⟨u, hu, hr'⟩ := hj j (by omega)
      refine ⟨u, hu, ?_⟩
      have hr' : relK F w (rowF (rows.getD i []) j) u := hr'
      rw [List.getD_eq_getElem?_getD, hr] at hr'
      show relK F w (rowF row (0 + j)) u
      rw [Nat.zero_add]
      exact hr'
theorem loc_indexSlF {t : TypeId} {x y : Operand} {e : TypeId} {k bytes : Nat} {ik : IntKind} {m : Int} {rows : List (List C)} {row : List C} [T : TElem P t e k bytes] (i : Nat)
    (hv : opU s.t x = .one (slFOf k rows)) (hy : opU s.t y = .one (.int ik m)) (hm : m = (i : Int)) (hr : rows[i]? = some row) (hl : row.length = k) :
    LocOp P ⟨dst, .indexAddr t x y, rt, pos, after, guard⟩ s [] [] (.one (fpo row 0)) :=
  loc_run fun F ρ h w ev H hx => by
    have h1 := (hx x (by simp [Op.operands])).1
    have h2 := (hx y (by simp [Op.operands])).1
    rw [hv] at h1
    rw [hy] at h2
    have h2 : ev y = .int ik m := h2
    subst hm
    obtain ⟨a, hp, hmax, hj⟩ := h1
    have hi := (List.getElem?_eq_some_iff.1 hr).1
    obtain ⟨g, o, rfl, hF, hj⟩ := hj i hi
    refine ⟨.pointer (some ⟨g, o + i * k, none⟩), ?_, ⟨g, o + i * k, rfl, hF, fun j hj' => ?_⟩, trivial⟩
    · simp [execOp, hp, h2, run_indexAt_sl T w g o rows.length rows.length i ik hi]
    · obtain ⟨u, hu, hr'⟩ := hj j (by omega)
      refine ⟨u, hu, ?_⟩
      have hr' : relK F w (rowF (rows.getD i []) j) u := hr'
      rw [List.getD_eq_getElem?_getD, hr] at hr'
      show relK F w (rowF row (0 + j)) u
      rw [Nat.zero_add]
      exact hr'
/-- An element of an array that turns no more, behind its address. -/
theorem loc_indexArr {t : TypeId} {x y : Operand} {n k : Nat} {ik : IntKind} {m : Int} {row : List C} [T : TArr P t n k] (i : Nat)
    (hv : opU s.t x = .one (fpo row 0)) (hy : opU s.t y = .one (.int ik m)) (hm : m = (i : Int)) (hi : i < n) :
    LocOp P ⟨dst, .indexAddr t x y, rt, pos, after, guard⟩ s [] [] (.one (fpo row (i * k))) :=
  loc_run fun F ρ h w ev H hx => by
    have h1 := (hx x (by simp [Op.operands])).1
    have h2 := (hx y (by simp [Op.operands])).1
    rw [hv] at h1
    rw [hy] at h2
    have h2 : ev y = .int ik m := h2
    subst hm
    obtain ⟨g, o, hp, hF, hj⟩ := h1
    obtain ⟨e, inf, t1, t2, t3⟩ := T.spec
    refine ⟨.pointer (some ⟨g, o + i * k, none⟩), ?_, ⟨g, o + i * k, rfl, hF, fun j hj' => ?_⟩, trivial⟩
    · have hlt : (i : Int) < n := by omega
      simp [execOp, hp, h2, Instr.indexAt, run_underlying t1, sizeOf, typeInfo, t2, t3, asIntOf, hi, Addr.add_mid, Instr.sureAddr, go_sem]
    · obtain ⟨u, hu, hr⟩ := hj (i * k + j) (by omega)
      have hr : relK F w (rowF row (0 + (i * k + j))) u := hr
      rw [Nat.zero_add] at hr
      exact ⟨u, by rw [Nat.add_assoc]; exact hu, hr⟩

theorem loc_indexArrI {t : TypeId} {x y : Operand} {n k : Nat} {ik : IntKind} {m : Int} {row : List C} [T : TArr P t n k]
    (hv : opU s.t x = .one (fpo row 0)) (hy : opU s.t y = .one (.int ik m)) (h0 : 0 ≤ m) (hi : m < (n : Int)) :
    LocOp P ⟨dst, .indexAddr t x y, rt, pos, after, guard⟩ s [] [] (.one (fpo row (m.toNat * k))) :=
  loc_indexArr m.toNat hv hy (Int.toNat_of_nonneg h0).symm (by omega)

/-! ### Lengths -/
theorem loc_lenOwn {x : Operand} {t : TypeId} {e : TypeId} {k bytes b v n : Nat} {rows : List (List C)} [T : TElem P t e k bytes] (hv : opU s.t x = .one (.own b v n)) (hb : s.h b = some (.row e k v rows)) :
    LocOp P ⟨dst, .call ⟨.builtin .len, #[x], #[t]⟩, rt, pos, after, guard⟩ s [b] [] (.one (.int .i64 n)) :=
  loc_runR b _ hb fun F ρ h w ev H hb hx => by
    have h1 := (hx x (by simp [Op.operands, Call.operands])).1
    rw [hv] at h1
    obtain ⟨inf, z, t1, _⟩ := T.spec
    refine ⟨.int .i64 n, ?_, rfl, trivial⟩
    rcases h1.2 (H.ver hb) with ⟨_, h0, hp⟩ | ⟨g, hg, hp⟩
    · subst h0
      simp [execOp, resolve, invoke, builtin, Builtin.len_, hp, run_underlying t1, goInt, go_sem]
    · simp [execOp, resolve, invoke, builtin, Builtin.len_, hp, run_underlying t1, goInt, go_sem]
theorem loc_lenSl {x : Operand} {t : TypeId} {e : TypeId} {k bytes k' : Nat} {rows : List (List C)} [T : TElem P t e k bytes] (hv : opU s.t x = .one (slOf k' rows)) :
    LocOp P ⟨dst, .call ⟨.builtin .len, #[x], #[t]⟩, rt, pos, after, guard⟩ s [] [] (.one (.int .i64 (rows.length : Nat))) :=
  loc_run fun F ρ h w ev H hx => by
    have h1 := (hx x (by simp [Op.operands, Call.operands])).1
    rw [hv] at h1
    obtain ⟨inf, z, t1, _⟩ := T.spec
    obtain ⟨a, cap, hp, _⟩ := h1
    exact ⟨.int .i64 (rows.length : Nat), by simp [execOp, resolve, invoke, builtin, Builtin.len_, hp, run_underlying t1, goInt, go_sem], rfl, trivial⟩
theorem loc_lenSlF {x : Operand} {t : TypeId} {e : TypeId} {k bytes k' : Nat} {rows : List (List C)} [T : TElem P t e k bytes] (hv : opU s.t x = .one (slFOf k' rows)) :
    LocOp P ⟨dst, .call ⟨.builtin .len, #[x], #[t]⟩, rt, pos, after, guard⟩ s [] [] (.one (.int .i64 (rows.length : Nat))) :=
  loc_run fun F ρ h w ev H hx => by
    have h1 := (hx x (by simp [Op.operands, Call.operands])).1
    rw [hv] at h1
    obtain ⟨inf, z, t1, _⟩ := T.spec
    obtain ⟨a, hp, _⟩ := h1
    exact ⟨.int .i64 (rows.length : Nat), by simp [execOp, resolve, invoke, builtin, Builtin.len_, hp, run_underlying t1, goInt, go_sem], rfl, trivial⟩
theorem loc_lenNil {x : Operand} {t : TypeId} {e : TypeId} {k bytes : Nat} [T : TElem P t e k bytes] (hv : opU s.t x = .one .nilsl) :
    LocOp P ⟨dst, .call ⟨.builtin .len, #[x], #[t]⟩, rt, pos, after, guard⟩ s [] [] (.one (.int .i64 0)) :=
  loc_run fun F ρ h w ev H hx => by
    have h1 := (hx x (by simp [Op.operands, Call.operands])).1
    rw [hv] at h1
    have hp : ev x = .slice none 0 0 := h1
    obtain ⟨inf, z, t1, _⟩ := T.spec
    exact ⟨.int .i64 0, by simp [execOp, resolve, invoke, builtin, Builtin.len_, hp, run_underlying t1, goInt, go_sem], rfl, trivial⟩
class TStr (P : Program) (t : TypeId) : Prop where
  ok : P.underlying t = some .string
theorem loc_lenStr {x : Operand} {t : TypeId} {b : ByteArray} [T : TStr P t] (hv : opU s.t x = .one (.str b)) :
    LocOp P ⟨dst, .call ⟨.builtin .len, #[x], #[t]⟩, rt, pos, after, guard⟩ s [] [] (.one (.int .i64 (b.size : Nat))) :=
  loc_run fun F ρ h w ev H hx => by
    have h1 := (hx x (by simp [Op.operands, Call.operands])).1
    rw [hv] at h1
    have h1 : ev x = .string b := h1
    exact ⟨.int .i64 (b.size : Nat), by simp [execOp, resolve, invoke, builtin, Builtin.len_, h1, run_underlying T.ok, goInt, go_sem], rfl, trivial⟩

/-! ### Sums and tests -/
/-- What an operation on two integers comes to. -/
def intOp (op : BinOp) (k : IntKind) (a b : Int) : Option C :=
  match op with
  | .add => some (.int k (k.wrap (a + b)))
  | .sub => some (.int k (k.wrap (a - b)))
  | .mul => some (.int k (k.wrap (a * b)))
  | .eql => some (.bool (a == b))
  | .neq => some (.bool (a != b))
  | .lss => some (.bool (decide (a < b)))
  | .leq => some (.bool (decide (a ≤ b)))
  | .gtr => some (.bool (decide (a > b)))
  | .geq => some (.bool (decide (a ≥ b)))
  | _ => none
theorem loc_binInt {op : BinOp} {t t' : TypeId} {x y : Operand} {k : IntKind} {a b : Int} {c : C} (hx' : opU s.t x = .one (.int k a)) (hy' : opU s.t y = .one (.int k b)) (hc : intOp op k a b = some c) :
    LocOp P ⟨dst, .binOp op t x y t', rt, pos, after, guard⟩ s [] [] (.one c) :=
  loc_run fun F ρ h w ev H hx => by
    have h1 := (hx x (by simp [Op.operands])).1
    have h2 := (hx y (by simp [Op.operands])).1
    rw [hx'] at h1
    rw [hy'] at h2
    have h1 : ev x = .int k a := h1
    have h2 : ev y = .int k b := h2
    cases op <;> simp only [intOp, Option.some.injEq, reduceCtorEq] at hc <;> subst hc <;>
      exact ⟨_, by simp [execOp, h1, h2, eqGuard, Go.binOp, Op.intArith, Op.intCmp, go_sem]; try rfl, rfl, trivial⟩
end ops
end Go.Proofs.YtnflnbdlgdjfmaaDoor
