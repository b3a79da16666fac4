/-
  The steps of a walk, in the forms in which they are typed. Conditions: those typed in each theorem.
-/
import Derived.Test.YtnflnbdlgdjfmaaDoorBody
namespace Go.Proofs.YtnflnbdlgdjfmaaDoor
open Go.RowKit
set_option linter.unusedVariables false
set_option linter.unusedSimpArgs false

instance {P : Program} {t : TypeId} {n : Nat} [T : TAgg P t n] : TSize P t n := ⟨by simpa using T.spec.2⟩
instance {P : Program} {t : TypeId} [T : TOne P t] : TSize P t 1 := ⟨by simpa using T.spec.2⟩
section ops
variable {P : Program} {s : St} {dst : Option Tmp} {rt : TypeId} {pos : String} {after : Array Edge} {guard : Option (Nat × Bool)} {x0 : Nat}

theorem loc_allocD {e : TypeId} {l : List C} [T : TZero P e l] (hn : s.h x0 = none) (hd : (s.d.contains x0) = false) : LocOp P ⟨some x0, .alloc e, rt, pos, after, guard⟩ s [] [(x0, some (.obj l))] (.one (.ptr x0 0)) := loc_alloc x0 hn hd
theorem loc_boxD {e : TypeId} {x : Operand} {l : List C} (hx' : opU s.t x = .agg l) (hn : s.h x0 = none) (hd : (s.d.contains x0) = false) : LocOp P ⟨some x0, .box e x, rt, pos, after, guard⟩ s [] [(x0, some (.obj l))] (.one (.ptr x0 0)) := loc_box x0 hx' rfl hn hd
theorem loc_box1 {e : TypeId} {x : Operand} {c : C} (hx' : opU s.t x = .one c) (hn : s.h x0 = none) (hd : (s.d.contains x0) = false) : LocOp P ⟨some x0, .box e x, rt, pos, after, guard⟩ s [] [(x0, some (.obj [c]))] (.one (.ptr x0 0)) := loc_box x0 hx' rfl hn hd
theorem loc_moveC {x : Operand} {c : C} (hv : opU s.t x = .one c) : LocOp P ⟨dst, .move x, rt, pos, after, guard⟩ s [] [] (.one c) := loc_move hv
theorem loc_moveA {x : Operand} {l : List C} (hv : opU s.t x = .agg l) : LocOp P ⟨dst, .move x, rt, pos, after, guard⟩ s [] [] (.agg l) := loc_move hv
theorem loc_moveT {x : Operand} {l : List U} (hv : opU s.t x = .tup l) : LocOp P ⟨dst, .move x, rt, pos, after, guard⟩ s [] [] (.tup l) := loc_move hv
theorem loc_assignC {x : Operand} {c : C} (hv : opU s.t x = .one c) : LocOp P ⟨dst, .assign x, rt, pos, after, guard⟩ s [] [] (.one c) := loc_assign hv
theorem loc_assignA {x : Operand} {l : List C} (hv : opU s.t x = .agg l) : LocOp P ⟨dst, .assign x, rt, pos, after, guard⟩ s [] [] (.agg l) := loc_assign hv
theorem loc_pickT {c x y : Operand} {v : C} (hc : opU s.t c = .one (.bool true)) (hv : opU s.t x = .one v) : LocOp P ⟨dst, .pick c x y, rt, pos, after, guard⟩ s [] [] (.one v) := loc_pick (b := true) hc hv
theorem loc_pickF {c x y : Operand} {v : C} (hc : opU s.t c = .one (.bool false)) (hv : opU s.t y = .one v) : LocOp P ⟨dst, .pick c x y, rt, pos, after, guard⟩ s [] [] (.one v) := loc_pick (b := false) hc hv
theorem loc_pickI {c x y : Operand} {b : Bool} {v : C} (b' : Bool) (hb : b = b') (hc : opU s.t c = .one (.bool b)) (hv : opU s.t (bif b' then x else y) = .one v) : LocOp P ⟨dst, .pick c x y, rt, pos, after, guard⟩ s [] [] (.one v) := loc_pick (b := b') (by rw [← hb]; exact hc) hv
theorem loc_extractC {x : Operand} {i : Nat} {l : List U} {c : C} (hx' : opU s.t x = .tup l) (hu : l[i]? = some (.one c)) : LocOp P ⟨dst, .extract x i, rt, pos, after, guard⟩ s [] [] (.one c) := loc_extract hx' hu
theorem loc_extractA {x : Operand} {i : Nat} {l : List U} {c : List C} (hx' : opU s.t x = .tup l) (hu : l[i]? = some (.agg c)) : LocOp P ⟨dst, .extract x i, rt, pos, after, guard⟩ s [] [] (.agg c) := loc_extract hx' hu
/-- A sum that stays within its bounds. -/
theorem wrap_in {n : Int} (h0 : -9223372036854775808 ≤ n) (h1 : n ≤ 9223372036854775807) : IntKind.i64.wrap n = n := IntWalk.i64_in n ⟨h0, h1⟩
theorem loc_addB {t t' : TypeId} {x y : Operand} {a b : Int} (hx' : opU s.t x = .one (.int .i64 a)) (hy' : opU s.t y = .one (.int .i64 b)) (h : -9223372036854775808 ≤ a + b ∧ a + b ≤ 9223372036854775807) : LocOp P ⟨dst, .binOp .add t x y t', rt, pos, after, guard⟩ s [] [] (.one (.int .i64 (a + b))) :=
  loc_binInt hx' hy' (by simp only [intOp]; rw [wrap_in h.1 h.2])
theorem loc_subB {t t' : TypeId} {x y : Operand} {a b : Int} (hx' : opU s.t x = .one (.int .i64 a)) (hy' : opU s.t y = .one (.int .i64 b)) (h : -9223372036854775808 ≤ a - b ∧ a - b ≤ 9223372036854775807) : LocOp P ⟨dst, .binOp .sub t x y t', rt, pos, after, guard⟩ s [] [] (.one (.int .i64 (a - b))) :=
  loc_binInt hx' hy' (by simp only [intOp]; rw [wrap_in h.1 h.2])
/-- A counter goes on. -/
theorem loc_inc {t t' : TypeId} {x y : Operand} {i : Nat} (hx' : opU s.t x = .one (.int .i64 (i : Nat))) (hy' : opU s.t y = .one (.int .i64 1)) (h : i < 9223372036854775807) : LocOp P ⟨dst, .binOp .add t x y t', rt, pos, after, guard⟩ s [] [] (.one (.int .i64 ((i + 1 : Nat) : Int))) :=
  loc_binInt hx' hy' (by simp only [intOp]; rw [wrap_in (by omega) (by omega)]; rfl)
/-- The rows of values. -/
def RowsOf : List U → List (List C) → Prop
  | [], rows => rows = []
  | u :: us, rows => ∃ l rows', cellsU u = some l ∧ rows = l :: rows' ∧ RowsOf us rows'
theorem RowsOf.nil : RowsOf [] [] := rfl
theorem RowsOf.cons {u : U} {us : List U} {l : List C} {rows : List (List C)} (h : cellsU u = some l) (hr : RowsOf us rows) : RowsOf (u :: us) (l :: rows) := ⟨l, rows, h, rfl, hr⟩
theorem AllP.nil {α : Type} {p : α → Prop} : AllP p [] := trivial
theorem AllP.cons {α : Type} {p : α → Prop} {a : α} {l : List α} (h : p a) (hl : AllP p l) : AllP p (a :: l) := ⟨h, hl⟩
theorem Cut.cons {cs : List C} {o n : Nat} {c : C} {l : List C} (h : cs[o]? = some c) (hl : Cut cs (o + 1) n l) : Cut cs o (n + 1) (c :: l) := ⟨c, l, h, rfl, hl⟩
theorem Cut.nil {cs : List C} {o : Nat} : Cut cs o 0 [] := rfl
theorem RowsOf.rows : ∀ {us : List U} {rows : List (List C)}, RowsOf us rows → rowsU us = some rows
  | [], _, h => by cases h; rfl
  | u :: us, _, ⟨l, rows', h1, rfl, h2⟩ => by simp [rowsU, h1, h2.rows]
theorem loc_sliceLit {t e : TypeId} {len k bytes : Nat} {parts : Array (Nat × Operand)} {rows : List (List C)} [T : TElem P t e k bytes] (hparts : parts.toList = ((parts.toList.map (·.2)).zipIdx 0).map fun x => (x.2, x.1)) (hlen : (parts.toList.map (·.2)).length = len) (h0 : 0 < len) (hsmall : len * k ≤ 16777216)
    (hrows : RowsOf ((parts.toList.map (·.2)).map (opU s.t)) rows) (hk : AllP (fun l => l.length = k) rows) (hcl : closedRows rows = true) : LocOp P ⟨dst, .buildSlice t len parts, rt, pos, after, guard⟩ s [] [] (.one (slFOf k rows)) :=
  loc_buildSlice hparts hlen h0 hsmall rfl hrows.rows (allP_iff.1 hk) hcl
/-- 'append(l, ..)', l all of a row of the call's own. -/
theorem loc_appendAll {t e : TypeId} {k bytes b v n : Nat} {x y : Operand} {rows news : List (List C)} {c : C} [T : TElem P t e k bytes] (hx' : opU s.t x = .one (.own b v n)) (hy' : opU s.t y = .one c) (hb : s.h b = some (.row e k v rows)) (hsrc : SrcC k news c)
    (hn : rows.length = n) (hk : AllP (fun r => r.length = k) news) (hmax : (n + news.length) * bytes ≤ 140737488355328) (h0 : 0 < bytes) :
    LocOp P ⟨dst, .call ⟨.builtin .append, #[x, y], #[t, t]⟩, rt, pos, after, guard⟩ s [] [(b, some (.row e k (v + 1) (rows ++ news)))] (.one (.own b (v + 1) (n + news.length))) :=
  loc_appendOwn hx' hy' hb hsrc (Nat.le_of_eq hn.symm) (by rw [← hn, List.take_length]) (allP_iff.1 hk) (by have : n + news.length ≤ (n + news.length) * bytes := Nat.le_mul_of_pos_right _ h0; unfold maxLen; omega) hmax
theorem loc_appendD {t e : TypeId} {k bytes : Nat} {x y : Operand} {rows news : List (List C)} {c c0 : C} [T : TElem P t e k bytes] (hx' : opU s.t x = .one c0) (hy' : opU s.t y = .one c) (hc0 : c0 = slFOf k rows ∨ (rows = [] ∧ c0 = .nilsl)) (hsrc : SrcC k news c)
    (hne : news ≠ []) (hk : AllP (fun r => r.length = k) news) (hk0 : ∀ r ∈ rows, r.length = k) (hn : s.h x0 = none) (hd : (s.d.contains x0) = false) (hbytes : (rows.length + news.length) * bytes ≤ 140737488355328) (h0 : 0 < bytes) :
    LocOp P ⟨some x0, .call ⟨.builtin .append, #[x, y], #[t, t]⟩, rt, pos, after, guard⟩ s [] [(x0, some (.row e k 0 (rows ++ news)))] (.one (.own x0 0 (rows.length + news.length))) :=
  loc_appendNew x0 hx' hy' hc0 hsrc hne (allP_iff.1 hk) hk0 hn hd (by have : rows.length + news.length ≤ (rows.length + news.length) * bytes := Nat.le_mul_of_pos_right _ h0; unfold maxLen; omega) hbytes
theorem loc_makeD {t e : TypeId} {k bytes n : Nat} {x y : Operand} {ik jk : IntKind} {zero : List C} [T : TElem P t e k bytes] [Z : TZero P e zero] (hx' : opU s.t x = .one (.int ik (n : Nat))) (hy' : opU s.t y = .one (.int jk (n : Nat)))
    (hn : s.h x0 = none) (hd : (s.d.contains x0) = false) (hb : bytes * n ≤ 281474976710656) (hmax : n ≤ maxLen) :
    LocOp P ⟨some x0, .makeSlice t x y, rt, pos, after, guard⟩ s [] [(x0, some (.row e k 0 (List.replicate n zero)))] (.one (.own x0 0 n)) := loc_makeSlice x0 hx' hy' rfl rfl hn hd hb hmax

/-! ### Which kind of operation comes next -/
section
variable {P : Program} {ops : Array Oper} {d : List Nat} {dr : Bool} {K : (Nat → U) → (Nat → Option Blk) → Prop} {l : List Oper} {acc : List (List Nat × List Nat)} {t : Nat → U} {h : Nat → Option Blk} {dst : Option Tmp} {rt : TypeId} {pos : String} {after : Array Edge} {guard : Option (Nat × Bool)}
  {a b c : Nat} {x y z : Operand} {ox oy oz : Option Operand} {bo : BinOp} {uo : UnOp} {ps : Array (Nat × Operand)} {ar : Array Operand} {ts : Array TypeId}
theorem is_fieldAddr (w : RunL P ops d dr K (⟨dst, .fieldAddr a x b, rt, pos, after, guard⟩ :: l) acc t h) : RunL P ops d dr K (⟨dst, .fieldAddr a x b, rt, pos, after, guard⟩ :: l) acc t h := w
theorem is_load (w : RunL P ops d dr K (⟨dst, .load a x, rt, pos, after, guard⟩ :: l) acc t h) : RunL P ops d dr K (⟨dst, .load a x, rt, pos, after, guard⟩ :: l) acc t h := w
theorem is_move (w : RunL P ops d dr K (⟨dst, .move x, rt, pos, after, guard⟩ :: l) acc t h) : RunL P ops d dr K (⟨dst, .move x, rt, pos, after, guard⟩ :: l) acc t h := w
theorem is_assign (w : RunL P ops d dr K (⟨dst, .assign x, rt, pos, after, guard⟩ :: l) acc t h) : RunL P ops d dr K (⟨dst, .assign x, rt, pos, after, guard⟩ :: l) acc t h := w
theorem is_binOp (w : RunL P ops d dr K (⟨dst, .binOp bo a x y b, rt, pos, after, guard⟩ :: l) acc t h) : RunL P ops d dr K (⟨dst, .binOp bo a x y b, rt, pos, after, guard⟩ :: l) acc t h := w
theorem is_len (w : RunL P ops d dr K (⟨dst, .call ⟨.builtin .len, ar, ts⟩, rt, pos, after, guard⟩ :: l) acc t h) : RunL P ops d dr K (⟨dst, .call ⟨.builtin .len, ar, ts⟩, rt, pos, after, guard⟩ :: l) acc t h := w
theorem is_pick (w : RunL P ops d dr K (⟨dst, .pick x y z, rt, pos, after, guard⟩ :: l) acc t h) : RunL P ops d dr K (⟨dst, .pick x y z, rt, pos, after, guard⟩ :: l) acc t h := w
theorem is_unOp (w : RunL P ops d dr K (⟨dst, .unOp uo a x, rt, pos, after, guard⟩ :: l) acc t h) : RunL P ops d dr K (⟨dst, .unOp uo a x, rt, pos, after, guard⟩ :: l) acc t h := w
theorem is_indexAddr (w : RunL P ops d dr K (⟨dst, .indexAddr a x y, rt, pos, after, guard⟩ :: l) acc t h) : RunL P ops d dr K (⟨dst, .indexAddr a x y, rt, pos, after, guard⟩ :: l) acc t h := w
theorem is_extract (w : RunL P ops d dr K (⟨dst, .extract x a, rt, pos, after, guard⟩ :: l) acc t h) : RunL P ops d dr K (⟨dst, .extract x a, rt, pos, after, guard⟩ :: l) acc t h := w
theorem is_build (w : RunL P ops d dr K (⟨dst, .build a ps, rt, pos, after, guard⟩ :: l) acc t h) : RunL P ops d dr K (⟨dst, .build a ps, rt, pos, after, guard⟩ :: l) acc t h := w
theorem is_buildSlice (w : RunL P ops d dr K (⟨dst, .buildSlice a b ps, rt, pos, after, guard⟩ :: l) acc t h) : RunL P ops d dr K (⟨dst, .buildSlice a b ps, rt, pos, after, guard⟩ :: l) acc t h := w
theorem is_slice (w : RunL P ops d dr K (⟨dst, .slice a x ox oy oz, rt, pos, after, guard⟩ :: l) acc t h) : RunL P ops d dr K (⟨dst, .slice a x ox oy oz, rt, pos, after, guard⟩ :: l) acc t h := w
theorem is_nilCheck (w : RunL P ops d dr K (⟨dst, .nilCheck x, rt, pos, after, guard⟩ :: l) acc t h) : RunL P ops d dr K (⟨dst, .nilCheck x, rt, pos, after, guard⟩ :: l) acc t h := w
theorem is_store (w : RunL P ops d dr K (⟨dst, .store a x y, rt, pos, after, guard⟩ :: l) acc t h) : RunL P ops d dr K (⟨dst, .store a x y, rt, pos, after, guard⟩ :: l) acc t h := w
theorem is_box (w : RunL P ops d dr K (⟨dst, .box a x, rt, pos, after, guard⟩ :: l) acc t h) : RunL P ops d dr K (⟨dst, .box a x, rt, pos, after, guard⟩ :: l) acc t h := w
theorem is_alloc (w : RunL P ops d dr K (⟨dst, .alloc a, rt, pos, after, guard⟩ :: l) acc t h) : RunL P ops d dr K (⟨dst, .alloc a, rt, pos, after, guard⟩ :: l) acc t h := w
end
theorem WkU.of_eq {h : Nat → Option Blk} {fz ad : List Nat} {u u' : U} (e : u = u') (hn : notTup u') : WkU h fz ad u u' := by
  subst e
  cases u with
  | any => trivial
  | one c => exact WkU.one
  | agg l => exact WkU.agg
  | tup l => exact hn.elim
theorem guard_eq {x want b : Bool} (c : Bool) (h : x = c) (hc : (c == want) = b) : (x == want) = b := by rw [h]; exact hc

/-! ### Arguments -/
theorem LeU.of_eq {u u' : U} (h : u = u') (hn : notTup u') : LeU u u' := by
  subst h
  cases u with
  | any => trivial
  | one c => exact LeC.refl c
  | agg l => exact leRow_refl l
  | tup l => exact hn.elim
theorem LeU.agg' {u : U} {l l' : List C} (h : u = .agg l) (hl : All2 LeC l l') : LeU u (.agg l') := by subst h; exact hl
theorem LeU.one' {u : U} {c c' : C} (h : u = .one c) (hl : LeC c c') : LeU u (.one c') := by subst h; exact hl
/-- The arguments are at least what the contract asks. -/
def ArgsLe (t : Nat → U) (h : Nat → Option Blk) : List Operand → List U → Prop
  | [], us => us = []
  | x :: xs, us => ∃ u us', us = u :: us' ∧ LeU (opU t x) u ∧ okU' h u ∧ ArgsLe t h xs us'
theorem ArgsLe.le {t : Nat → U} {h : Nat → Option Blk} : ∀ {xs : List Operand} {us : List U}, ArgsLe t h xs us → All2 LeU (xs.map (opU t)) us ∧ ∀ u ∈ us, okU h u
  | [], _, he => by cases he; exact ⟨trivial, fun u hu => by cases hu⟩
  | x :: xs, _, ⟨u, us', rfl, h1, h2, h3⟩ => by
    obtain ⟨h4, h5⟩ := h3.le
    exact ⟨⟨h1, h4⟩, fun v hv => by
      rcases List.mem_cons.1 hv with rfl | hv
      · exact okU_of h2
      · exact h5 v hv⟩
theorem loc_fun {f : FuncId} {fo : Operand} {args : Array Operand} {ats : Array TypeId} {us : List U} {r : U} (hc : ACalls P f us [] r []) (hf : opU s.t fo = .one (.fn f)) (ha : ArgsLe s.t (ofL []) args.toList us) :
    LocOp P ⟨dst, .call ⟨.value fo, args, ats⟩, rt, pos, after, guard⟩ s [] [] r :=
  loc_callQ hf rfl ha.le.1 hc ha.le.2
theorem loc_funE {f : FuncId} {fo : Operand} {args : Array Operand} {ats : Array TypeId} {us : List U} {O O' : List (Nat × Blk)} {r : U} (hc : ACalls P f us O r O') (hf : opU s.t fo = .one (.fn f)) (ha : ArgsLe s.t (ofL O) args.toList us)
    (hO : AllP (fun p => s.h p.1 = some p.2) O) (hn : namesL O' = namesL O) (hnd : (namesL O).Nodup) (hok : AllP (fun p => okBlk' (ofL O) p.2) O) :
    LocOp P ⟨dst, .call ⟨.value fo, args, ats⟩, rt, pos, after, guard⟩ s [] (patchL O') r := by
  have hOm := allP_iff.1 hO
  refine loc_call hf rfl ha.le.1 hc (fun b hb => ?_) hn hnd (fun b x hx => okBlk_of (allP_iff.1 hok _ (ofL_mem hx))) ha.le.2
  cases hx : ofL O b with
  | none => exact absurd hx (ofL_some.1 hb)
  | some x => exact hOm _ (ofL_mem hx)
end ops

theorem AW.id {P : Program} {n : Nat} {c : Code} {t : Nat → U} {h : Nat → Option Blk} {d : List Nat} {Q : Exit → (Nat → U) → (Nat → Option Blk) → Prop} (w : AW P n c t h d Q) : AW P n c t h d Q := w

/-- A list is not longer than may be. -/
theorem AW.lenSl {P : Program} {n : Nat} {c : Code} {t : Nat → U} {h : Nat → Option Blk} {d : List Nat} {Q : Exit → (Nat → U) → (Nat → Option Blk) → Prop} (x : Nat) {k : Nat} {rows : List (List C)} (hx : t x = .one (slOf k rows)) (hw : rows.length ≤ 9223372036854775807 → AW P n c t h d Q) : AW P n c t h d Q := fun E a w hn S => by
  obtain ⟨F, ρ, S'⟩ := S
  have hr := S'.rel x
  rw [show (⟨t, h, d⟩ : St).t x = .one (slOf k rows) from hx] at hr
  obtain ⟨_, _, _, _, hm, _⟩ := hr
  exact hw hm E a w hn ⟨F, ρ, S'⟩
theorem AW.condTa {P : Program} {n : Nat} {x y : Code} {c : Operand} {b : Bool} {t : Nat → U} {h : Nat → Option Blk} {d : List Nat} {Q : Exit → (Nat → U) → (Nat → Option Blk) → Prop} (hc : opU t c = .one (.bool b)) (hb : b = true) (hw : AW P n x t h d Q) : AW P n (.cond c x y) t h d Q := AW.condT (by rw [hc, hb]) hw
theorem AW.condFa {P : Program} {n : Nat} {x y : Code} {c : Operand} {b : Bool} {t : Nat → U} {h : Nat → Option Blk} {d : List Nat} {Q : Exit → (Nat → U) → (Nat → Option Blk) → Prop} (hc : opU t c = .one (.bool b)) (hb : b = false) (hw : AW P n y t h d Q) : AW P n (.cond c x y) t h d Q := AW.condF (by rw [hc, hb]) hw

/-! ### The body's end -/
/-- One result, in a slot. -/
theorem ret_one {P : Program} {x : Tmp} {r u : U} {e : Exit} {t : Nat → U} {h : Nat → Option Blk} (he : e = .normal ∨ e = .ret) (hx : t x = u) (hnt : notTup u) (fz : List Nat) (hfz : AllP (ClosedAt h) fz) (hw : WkU h fz [] u r) (hok : okU' (ofL []) r) : RetQ P #[.tmp x] r [] e t h :=
  ⟨he, [u], ⟨hx, trivial⟩, ⟨hnt, trivial⟩, u, rfl, fz, hfz, hw, trivial, by
    induction fz with
    | nil => rfl
    | cons b l ih => simp [disj, namesL], hok, trivial⟩
/-- One result that is the very one. -/
theorem ret_same {P : Program} {x : Tmp} {c : C} {e : Exit} {t : Nat → U} {h : Nat → Option Blk} (he : e = .normal ∨ e = .ret) (hx : t x = .one c) (hok : okC (ofL []) c) : RetQ P #[.tmp x] (.one c) [] e t h :=
  ret_one he hx trivial [] trivial WkU.one hok
end Go.Proofs.YtnflnbdlgdjfmaaDoor
