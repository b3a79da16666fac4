/-
  A law's contract, as its row asks for it: arguments that are read, a table that is listed. Conditions: those typed in each theorem.
-/
import Derived.Test.YtnflnbdlgdjfmaaDoorRead
import Derived.Deep.DeepHandedRow
import Derived.Lib.LaidTab
namespace Go.Proofs.YtnflnbdlgdjfmaaDoor
open Go.ChangeShapes Go.WideShapes Go.ChangeAt Go.RowKit Go.Joins Go.Deep
set_option linter.unusedVariables false
set_option linter.unusedSimpArgs false

def ρ0 : Nat → Lc := fun _ => ⟨none, 0, 0⟩
/-- What the listed variables give. -/
def GlobIn (W : World) : Prop := ∀ g c, glob g = some c → relK (Old W) W c (.pointer (some ⟨g, 0, none⟩))
theorem hrel_old {W : World} (hg : GlobIn W) : HRel (Old W) ρ0 (ofL []) W :=
  ⟨fun b x h => (by cases h), fun b b' g h => absurd rfl h, fun b g h => absurd rfl h, fun k h => h, fun b x h => (by cases h), hg⟩
/-- A law that answers true, as its row asks for it. -/
theorem law_calls {f : FuncId} {us : List U} {vals : List Value} {W : World} (hc : ACalls Tryd.prog f us [] (.one (.bool true)) []) (hg : GlobIn W) (ha : All2 (fun u v => relU (Old W) ρ0 W u v ∧ okU (ofL []) u) us vals) :
    Calls Tryd.prog f vals.toArray W fun e W' => e = .returned (.bool true) ∧ Below W.heap.size W W' := by
  refine (hc.2 (Old W) ρ0 W vals (hrel_old hg) ha).mono fun e W' ⟨v, F', ρ', he, hM, hr, _⟩ => ?_
  have hr : v = .bool true := hr
  subst hr
  exact ⟨he, hM.os, hM.tape, hM.output, hM.size, fun k hk => hM.kept k hk fun b hb => absurd rfl hb⟩
theorem ok_Tm (t : Tm) : okU (ofL []) t.u := okU_of (u := t.u) ⟨trivial, trivial, trivial, trivial, trivial, trivial, trivial, trivial⟩

set_option maxRecDepth 100000 in
/-- A term that comes in. -/
theorem open_Tm {H : Type} {enc : TypeId × Value → H} {W : World} {r : Reach} {b0 : Nat} {v : Value} {d : DataW H} {p : List MemPlace} (hv : Value.okWide Tryd.prog W r b0 27 v)
    (h : DataW.Trod enc Tryd.prog W 0 (fun _ => true) true 27 v d p) (hb : Rows.uptoBulk d ≤ 1048576) : ∃ t : Tm, relU (Old W) ρ0 W t.u v ∧ TmOk t ∧ t.nodes ≤ 1048576 := by
  obtain ⟨f0, f1, f2, f3, f4, hu, _⟩ := struct_Term
  obtain ⟨cs, rfl, hsz⟩ := okWide_struct hu hv
  obtain ⟨fuel, hf⟩ := h
  obtain ⟨t, ht, hok, hn⟩ := trod_Tm 1048576 fuel _ d p hb (Nat.le_refl _) hf
  simp only [Value.cells] at ht
  refine ⟨t, ⟨cs.toList, by simp, ?_⟩, hok, by omega⟩
  exact ht.mono fun c _ v h => relC_relK h
set_option maxRecDepth 100000 in
/-- A number that comes in. -/
theorem open_Int {H : Type} {enc : TypeId × Value → H} {W : World} {r : Reach} {b0 : Nat} {v : Value} {d : DataW H} {p : List MemPlace} (hv : Value.okWide Tryd.prog W r b0 3 v)
    (h : DataW.Trod enc Tryd.prog W 0 (fun _ => true) true 3 v d p) : ∃ n : Int, v = .int .i64 n ∧ -9223372036854775808 ≤ n ∧ n ≤ 9223372036854775807 := by
  obtain ⟨n, rfl, _, _, hw⟩ := open_int Tryd.underlying3 hv h
  simp only [Lit.wf, Bool.and_eq_true, decide_eq_true_eq] at hw
  have h8 : IntKind.i64.min = -9223372036854775808 := by decide
  have h9 : IntKind.i64.max = 9223372036854775807 := by decide
  exact ⟨n, rfl, by rw [← h8]; exact hw.1, by rw [← h9]; exact hw.2⟩
theorem laidOutP : laidOutB Tryd.prog = true := by kernel_rfl
theorem readable_Term : Tryd.prog.readableRec 27 = true := by kernel_rfl
theorem rowed_Term : 27 < Tryd.prog.types.size := of_decide_eq_true (by kernel_rfl)
theorem readable_int : Tryd.prog.readableRec 3 = true := by kernel_rfl
theorem rowed_int : 3 < Tryd.prog.types.size := of_decide_eq_true (by kernel_rfl)
/-- It reads behind the call as it did. -/
theorem again_Tm {H : Type} {enc : TypeId × Value → H} {W W' : World} {v : Value} {d : DataW H} {p : List MemPlace} (hx : Below W.heap.size W W') (h : DataW.Trod enc Tryd.prog W 0 (fun _ => true) true 27 v d p) (hlt : ∀ x ∈ p, x.block < W.heap.size) :
    DataW.Trod enc Tryd.prog W' 0 (fun b => decide (b < W.heap.size)) true 27 v d p := Below.trod laidOutP readable_Term rowed_Term h hx hlt
theorem again_Int {H : Type} {enc : TypeId × Value → H} {W W' : World} {v : Value} {d : DataW H} {p : List MemPlace} (hx : Below W.heap.size W W') (h : DataW.Trod enc Tryd.prog W 0 (fun _ => true) true 3 v d p) (hlt : ∀ x ∈ p, x.block < W.heap.size) :
    DataW.Trod enc Tryd.prog W' 0 (fun b => decide (b < W.heap.size)) true 3 v d p := Below.trod laidOutP readable_int rowed_int h hx hlt
/-- What a law's row asks behind the call, where nothing that was there has turned. -/
theorem law_post {H : Type} {enc : TypeId × Value → H} {f : Func} {s : ChangeSpec} {W W' : World} {args : Array Value} {ds : List (DataW H)} {before pa : List MemPlace}
    (hW : DataW.Whole enc Tryd.prog f.params.toList s.vars false W args.toList ds [] before) (hvars : s.vars = []) (hr : f.resultTypes = #[4]) (hs : s.fn H (ds ++ []) = { results := [.lit (.bool true)], args := ds })
    (hx : Below W.heap.size W W') (hargs : DataW.TrodAll enc Tryd.prog W' 0 (fun b => decide (b < W.heap.size)) true f.params.toList args.toList ds pa) :
    s.post enc Tryd.prog f false true false false W args (.bool true) W' := by
  refine ⟨ds, [], before, [], pa, [], hW, ?_, by rw [hs]; exact hargs, ?_, Below.frame hx _, fun h => by cases h⟩
  · rw [hs, hr]
    exact trodAll_cons_mk (shut_bool Tryd.underlying4 _) trodAll_mk0
  · rw [hvars, hs]
    rfl
theorem own : ownKnob Tryd.prog.godebug = none := by kernel_rfl

/-! ### The table -/
theorem gArity : Tryd.prog.globalNamed "chaperone/term.arity" = some 0 := by kernel_rfl
theorem gArityType : (Tryd.prog.globals[0]?).map (·.type) = some 93 := by kernel_rfl
theorem cells_arr : Tryd.prog.cellsOf 93 = 10 := by kernel_rfl
theorem arity_is {W : World} {rest : List (String × DataW Unit)} (h : laidMet Tryd.prog (("chaperone/term.arity", Rows.laid_chaperone_term_arity) :: rest) W) : Lib.TabIs Tryd.prog W "chaperone/term.arity" .i64 [0, 0, 0, 0, 2, 2, 3, 1, 2, 1] :=
  Lib.tabIs_of_head gArity gArityType Tryd.underlying93 Tryd.underlying3 cells_int cells_arr h
theorem arity_in {W : World} (h : Lib.TabIs Tryd.prog W "chaperone/term.arity" .i64 [0, 0, 0, 0, 2, 2, 3, 1, 2, 1]) : relK (Old W) W (fpo arityC 0) (.pointer (some ⟨0, 0, none⟩)) := by
  have hc := fun i hi => h.cell gArity i hi
  refine ⟨0, 0, rfl, World.block_lt_of_cell? _ _ (hc 0 (by decide)), fun j hj => ?_⟩
  have hj : j < 10 := hj
  have := hc j hj
  rw [Nat.zero_add]
  refine ⟨_, this, ?_⟩
  match j, hj with
  | 0, _ | 1, _ | 2, _ | 3, _ | 4, _ | 5, _ | 6, _ | 7, _ | 8, _ | 9, _ => rfl
theorem glob_in {W : World} (h : laidMetH Tryd.prog [("chaperone/term.arity", Rows.laid_chaperone_term_arity)] W) : GlobIn W := fun g c hgc => by
  unfold glob at hgc
  cases hb : Nat.beq g 0 with
  | false => rw [hb] at hgc; cases hgc
  | true =>
    rw [hb] at hgc
    cases hgc
    rw [Nat.eq_of_beq_eq_true hb]
    exact arity_in (arity_is (rest := []) h)

/-- A world for the witness: the settled one, the table holding what its initialiser lays. -/
noncomputable def laidWorld (os : Os) : World :=
  { World.holding Tryd.prog os ⟨#[], #[], []⟩ with heap := (World.holding Tryd.prog os ⟨#[], #[], []⟩).heap.modify 0 fun
      | .cells _ t frozen => .cells #[.int .i64 0, .int .i64 0, .int .i64 0, .int .i64 0, .int .i64 2, .int .i64 2, .int .i64 3, .int .i64 1, .int .i64 2, .int .i64 1] t frozen
      | o => o }
end Go.Proofs.YtnflnbdlgdjfmaaDoor
