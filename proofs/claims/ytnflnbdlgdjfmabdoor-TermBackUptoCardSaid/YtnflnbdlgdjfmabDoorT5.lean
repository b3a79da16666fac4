/-
  Arguments that are types, as they lie in memory; what a law's row asks behind the call. Conditions: those typed in each theorem.
  Arguments that are terms, as they lie in memory. Conditions: those typed in each theorem.
  A law's contract, as its row asks for it: arguments that are read, a table that is listed. Conditions: those typed in each theorem.
  The row's listed variables. Conditions: those typed in each theorem.
-/
import Derived.Test.YtnflnbdlgdjfmabDoorT4
import Derived.Test.YtnflnbdlgdjfmabDoorRows
import Derived.ProofKit
import Derived.OpenShut
import Derived.Lib.SmallJoins
import Derived.Deep.Slices
import Derived.Deep.DeepHandedRow
import Derived.Lib.LaidTab
import Derived.Lay
import Derived.Stop.LaidErr
import Derived.Shelf.Vars
import Derived.Deep.DeepWitnessRowRef
import Derived.LaidLaws
namespace Go.Proofs.YtnflnbdlgdjfmabDoor
open Go.ChangeShapes Go.WideShapes Go.ChangeAt Go.RowKit Go.Joins Go.Deep
set_option linter.unusedVariables false
set_option linter.unusedSimpArgs false
/-- What lies in memory when the call begins. -/
def Old (w : World) : Nat → Prop := fun k => k < w.heap.size
theorem bulk_mem {H : Type} {d : DataW H} {l : List (DataW H)} (h : d ∈ l) : Rows.uptoBulk d ≤ Rows.uptoBulkAll l := by
  induction l with
  | nil => cases h
  | cons x r ih =>
    simp only [Rows.uptoBulkAll]
    cases List.mem_cons.1 h with
    | inl e => subst e; omega
    | inr e => have := ih e; omega
theorem bulk_pos {H : Type} (d : DataW H) : 1 ≤ Rows.uptoBulk d := by
  cases d with
  | lit l => cases l <;> simp [Rows.uptoBulk]
  | _ => simp [Rows.uptoBulk]
theorem bulk_lenAll {H : Type} (l : List (DataW H)) : l.length ≤ Rows.uptoBulkAll l := by
  induction l with
  | nil => simp [Rows.uptoBulkAll]
  | cons x r ih => have := bulk_pos x; simp only [List.length_cons, Rows.uptoBulkAll]; omega
section
variable {H : Type} {enc : TypeId × Value → H} {w : World} {sp : Nat → Bool} {held : Bool} {F : Nat → Prop}
/-- A slice whose elements are read. -/
theorem open_rows {α : Type} [Inhabited α] {P : Program} {t e k fuel : Nat} {cs : List Value} {x : DataW H × List MemPlace} (c : α → List C) (sz : α → Nat) (G : α → Prop) (ht : P.underlying t = some (.slice e)) (hk : P.cellsOf e = k) (hk0 : 0 < k) (hc : ∀ y, (c y).length = k)
    (h : DataW.trod enc P w 0 sp held fuel t cs = some x) (hb : Rows.uptoBulk x.1 ≤ 1048576)
    (elem : ∀ (n : Nat) (cs' : List Value) (d' : DataW H) (ps' : List MemPlace), Rows.uptoBulk d' < Rows.uptoBulk x.1 → DataW.trod enc P w 0 sp held n e cs' = some (d', ps') → ∃ y : α, All2 (relK (Old w) w) (c y) cs' ∧ G y ∧ sz y ≤ Rows.uptoBulk d') :
    ∃ (l : List α) (v : Value), cs = [v] ∧ relK (Old w) w (slOf k (l.map c)) v ∧ (∀ y ∈ l, G y) ∧ (l.map sz).sum + 1 ≤ Rows.uptoBulk x.1 ∧ l.length < Rows.uptoBulk x.1 := by
  rcases open_slice ht h with ⟨rfl, rfl⟩ | ⟨a, len, cap, m, n, D, Pl, rfl, _, hle, hcap, hm, rfl, hel⟩
  · exact ⟨[], _, rfl, ⟨none, 0, rfl, Nat.zero_le _, Nat.zero_le _, fun i hi => absurd hi (Nat.not_lt_zero _)⟩, fun y hy => (by cases hy), by simp [Rows.uptoBulk], by simp [Rows.uptoBulk]⟩
  · have hlm : len ≤ m := by rw [hm]; split <;> omega
    have hbk : Rows.uptoBulk (DataW.slice ((List.range len).map D) ((List.range (m - len)).map fun j => D (len + j))) = Rows.uptoBulkAll ((List.range len).map D) + Rows.uptoBulkAll ((List.range (m - len)).map fun j => D (len + j)) + 1 := by simp [Rows.uptoBulk]
    simp only at hb elem ⊢
    rw [hbk] at hb
    have part : ∀ i, ∃ y : α, i < len → (∀ j, j < k → ∃ u, w.cell? (a.add (i * k + j)) = some u ∧ relK (Old w) w (rowF (c y) j) u) ∧ G y ∧ sz y ≤ Rows.uptoBulk (D i) := by
      intro i
      by_cases hi : i < len
      · obtain ⟨cs', hcs, hd⟩ := hel i (by omega)
        rw [hk] at hcs
        have hDi : Rows.uptoBulk (D i) ≤ Rows.uptoBulkAll ((List.range len).map D) := bulk_mem (List.mem_map.2 ⟨i, List.mem_range.2 hi, rfl⟩)
        obtain ⟨y, h1, h2, h3⟩ := elem n cs' (D i) (Pl i) (by rw [hbk]; omega) hd
        obtain ⟨_, hlen, hat⟩ := World.cells?_some hcs
        refine ⟨y, fun _ => ⟨fun j hj => ?_, h2, h3⟩⟩
        have hjc : j < (c y).length := by rw [hc]; exact hj
        obtain ⟨u, hu, hr⟩ := h1.get j _ (List.getElem?_eq_getElem hjc)
        refine ⟨u, ?_, ?_⟩
        · have := hat j hj
          rw [hu] at this
          rw [← this, Go.Deep.add_add]
        · rw [show rowF (c y) j = (c y)[j] by simp [rowF, hjc]]; exact hr
      · exact ⟨default, fun h => absurd h hi⟩
    obtain ⟨T, hT⟩ := Classical.axiomOfChoice part
    have hlen2 : len ≤ 1048576 := by
      have := bulk_lenAll ((List.range len).map D)
      simp at this; omega
    refine ⟨(List.range len).map T, _, rfl, ⟨some a, cap, by simp, by simpa using hle, by simp [maxLen]; omega, fun i hi => ?_⟩, fun y hy => ?_, ?_, ?_⟩
    · have hi : i < len := by simpa using hi
      obtain ⟨h1, _, _⟩ := hT i hi
      obtain ⟨u0, hu0, _⟩ := h1 0 hk0
      have hsp : a.spot = none := by
        obtain ⟨h2, _, _⟩ := hT 0 (by omega)
        obtain ⟨u1, hu1, _⟩ := h2 0 hk0
        rw [show (0 * k + 0) = 0 by omega, show a.add 0 = a from rfl] at hu1
        unfold World.cell? at hu1
        split at hu1
        · split at hu1
          · cases hu1
          · rename_i hne; simpa using hne
        · cases hu1
      obtain ⟨ab, ao, asp⟩ := a
      simp only at hsp
      subst hsp
      have hadd : ∀ n, (⟨ab, ao, none⟩ : Addr).add n = ⟨ab, ao + n, none⟩ := fun n => by
        unfold Addr.add
        split
        · rename_i h0; rw [h0]; rfl
        · rfl
      refine ⟨ab, ao, rfl, ?_, fun j hj => ?_⟩
      · rw [hadd] at hu0
        exact World.block_lt_of_cell? _ _ hu0
      · obtain ⟨u, hu, hr⟩ := h1 j hj
        rw [hadd] at hu
        refine ⟨u, by rw [Nat.add_assoc]; exact hu, ?_⟩
        simpa [hi] using hr
    · obtain ⟨i, hi, rfl⟩ := List.mem_map.1 hy
      exact (hT i (List.mem_range.1 hi)).2.1
    · rw [hbk]
      have hsum : ∀ (l : List Nat), (∀ i ∈ l, i < len) → ((l.map T).map sz).sum ≤ Rows.uptoBulkAll (l.map D) := by
        intro l
        induction l with
        | nil => intro _; simp
        | cons i l ihl =>
          intro hl
          have h1 := (hT i (hl i (List.mem_cons_self ..))).2.2
          have h2 := ihl fun j hj => hl j (List.mem_cons_of_mem _ hj)
          simp only [List.map_cons, List.sum_cons, Rows.uptoBulkAll]
          omega
      have := hsum (List.range len) fun i hi => List.mem_range.1 hi
      omega
    · have := bulk_lenAll ((List.range len).map D)
      simp at this ⊢
      rw [hbk]; omega
end
theorem len5 {α : Type} {l : List α} (h : l.length = 5) : ∃ a b c d e, l = [a, b, c, d, e] := by
  match l, h with
  | [a, b, c, d, e], _ => exact ⟨a, b, c, d, e, rfl⟩
theorem len7 {α : Type} {l : List α} (h : l.length = 7) : ∃ a b c d e f g, l = [a, b, c, d, e, f, g] := by
  match l, h with
  | [a, b, c, d, e, f, g], _ => exact ⟨a, b, c, d, e, f, g, rfl⟩
instance : Inhabited Ty := ⟨.any⟩
mutual
def Ty.size : Ty → Nat
  | .mk _ l => 1 + sizeL l
def sizeL : List Ty → Nat
  | [] => 0
  | t :: l => Ty.size t + sizeL l
end
theorem sizeL_sum : ∀ l : List Ty, sizeL l = (l.map Ty.size).sum
  | [] => rfl
  | a :: l => by simp [sizeL, sizeL_sum l]
theorem struct_Type : ∃ f0 f1 : Field, Tryd.prog.underlying 24 = some (.struct #[f0, f1]) ∧ f0.type = 3 ∧ f0.offset = 0 ∧ f1.type = 22 ∧ f1.offset = 1 := ⟨_, _, Tryd.underlying24, rfl, rfl, rfl, rfl⟩
theorem cells_int : Tryd.prog.cellsOf 3 = 1 := by kernel_rfl
theorem cells_types : Tryd.prog.cellsOf 22 = 1 := by kernel_rfl
theorem cells_Type : Tryd.prog.cellsOf 24 = 2 := by kernel_rfl
section
variable {H : Type} {enc : TypeId × Value → H} {w : World} {sp : Nat → Bool} {held : Bool}
/-- What reads as a type is one. -/
theorem trod_Ty : ∀ (N fuel : Nat) (cs : List Value) (d : DataW H) (ps : List MemPlace), Rows.uptoBulk d ≤ N → N ≤ 1048576 → DataW.trod enc Tryd.prog w 0 sp held fuel 24 cs = some (d, ps) →
    ∃ t : Ty, All2 (relK (Old w) w) t.c cs ∧ Thin t ∧ t.size ≤ Rows.uptoBulk d := by
  intro N
  induction N with
  | zero => intro fuel cs d ps hN; have := bulk_pos d; omega
  | succ N ih =>
    intro fuel cs d ps hN hmax h
    obtain ⟨f0, f1, hu, t0, o0, t1, o1⟩ := struct_Type
    obtain ⟨y0, y1, n, hx, hlen, h0, h1⟩ := trod_struct2 hu h
    simp only [Prod.mk.injEq] at hx
    obtain ⟨rfl, rfl⟩ := hx
    rw [cells_Type] at hlen
    obtain ⟨c0, c1, rfl⟩ := len2 hlen
    rw [t0, o0, cells_int] at h0
    rw [t1, o1, cells_types] at h1
    simp only [List.drop_zero, List.take_succ_cons, List.take_zero, List.drop_succ_cons] at h0 h1
    obtain ⟨k, hk, hy0, _⟩ := DataW.trod_int Tryd.underlying3 h0
    obtain rfl : c0 = .int .i64 k := by simpa using hk
    have hb : Rows.uptoBulk (DataW.agg [y0.1, y1.1]) = Rows.uptoBulk y1.1 + 2 := by rw [hy0]; simp [Rows.uptoBulk, Rows.uptoBulkAll]; omega
    rw [hb] at hN
    obtain ⟨l, v, hv, hr, hG, hs, hl⟩ := open_rows (α := Ty) Ty.c Ty.size Thin Tryd.underlying22 cells_Type (by decide) (fun y => rfl) h1 (by omega) (fun n cs' d' ps' hd h => by
      obtain ⟨t, h1, h2, h3⟩ := ih n cs' d' ps' (by omega) (by omega) h
      exact ⟨t, h1, h2, h3⟩)
    obtain rfl : c1 = v := by simpa using hv
    refine ⟨.mk k l, ⟨rfl, ?_, trivial⟩, .mk k l (by omega) hG, ?_⟩
    · show relK (Old w) w (slOf 2 (tyRows l)) c1
      rw [tyRows_map]; exact hr
    · simp only [Ty.size, sizeL_sum]; omega
end
end Go.Proofs.YtnflnbdlgdjfmabDoor
namespace Go.Proofs.YtnflnbdlgdjfmabDoor
open Go.ChangeShapes Go.WideShapes Go.ChangeAt Go.RowKit Go.Joins Go.Deep
set_option linter.unusedVariables false
set_option linter.unusedSimpArgs false
instance : Inhabited Tm := ⟨.mk 0 0 .any .any []⟩
theorem nodesL_sum : ∀ l : List Tm, nodesL l = (l.map Tm.nodes).sum
  | [] => rfl
  | a :: l => by simp [nodesL, nodesL_sum l]
/-- No type in it is large. -/
inductive TmFit : Tm → Prop
  | mk {t : Tm} (ht : t.t.size ≤ 1048576) (hf : t.f.size ≤ 1048576) (hl : ∀ x ∈ t.l, TmFit x) : TmFit t
theorem struct_Term : ∃ f0 f1 f2 f3 f4 : Field, Tryd.prog.underlying 27 = some (.struct #[f0, f1, f2, f3, f4]) ∧ (f0.type = 3 ∧ f0.offset = 0) ∧ (f1.type = 3 ∧ f1.offset = 1) ∧ (f2.type = 24 ∧ f2.offset = 2) ∧ (f3.type = 24 ∧ f3.offset = 4) ∧ (f4.type = 25 ∧ f4.offset = 6) := ⟨_, _, _, _, _, Tryd.underlying27, ⟨rfl, rfl⟩, ⟨rfl, rfl⟩, ⟨rfl, rfl⟩, ⟨rfl, rfl⟩, ⟨rfl, rfl⟩⟩
theorem cells_terms : Tryd.prog.cellsOf 25 = 1 := by kernel_rfl
theorem cells_Term : Tryd.prog.cellsOf 27 = 7 := by kernel_rfl
section
variable {H : Type} {enc : TypeId × Value → H} {w : World} {sp : Nat → Bool} {held : Bool}
/-- What reads as a term is one. -/
theorem trod_Tm : ∀ (N fuel : Nat) (cs : List Value) (d : DataW H) (ps : List MemPlace), Rows.uptoBulk d ≤ N → N ≤ 1048576 → DataW.trod enc Tryd.prog w 0 sp held fuel 27 cs = some (d, ps) →
    ∃ t : Tm, All2 (relK (Old w) w) t.c cs ∧ (TmOk t ∧ TmFit t) ∧ t.nodes ≤ Rows.uptoBulk d := by
  intro N
  induction N with
  | zero => intro fuel cs d ps hN; have := bulk_pos d; omega
  | succ N ih =>
    intro fuel cs d ps hN hmax h
    obtain ⟨f0, f1, f2, f3, f4, hu, ⟨t0, o0⟩, ⟨t1, o1⟩, ⟨t2, o2⟩, ⟨t3, o3⟩, ⟨t4, o4⟩⟩ := struct_Term
    obtain ⟨xs, n, rfl, hx, hlen, hxs, hf⟩ := DataW.trod_struct hu h
    simp only [Prod.mk.injEq] at hx
    obtain ⟨rfl, rfl⟩ := hx
    rw [cells_Term] at hlen
    obtain ⟨c0, c1, c2, c3, c4, c5, c6, rfl⟩ := len7 hlen
    obtain ⟨y0, y1, y2, y3, y4, rfl⟩ := len5 hxs
    have g0 := hf 0 f0 rfl
    have g1 := hf 1 f1 rfl
    have g2 := hf 2 f2 rfl
    have g3 := hf 3 f3 rfl
    have g4 := hf 4 f4 rfl
    rw [t0, o0, cells_int] at g0
    rw [t1, o1, cells_int] at g1
    rw [t2, o2, cells_Type] at g2
    rw [t3, o3, cells_Type] at g3
    rw [t4, o4, cells_terms] at g4
    simp only [List.drop_zero, List.take_succ_cons, List.take_zero, List.drop_succ_cons, List.getElem?_cons_zero, List.getElem?_cons_succ] at g0 g1 g2 g3 g4
    obtain ⟨k, hk, hy0, _⟩ := DataW.trod_int Tryd.underlying3 g0
    obtain rfl : c0 = .int .i64 k := by simpa using hk
    obtain ⟨m, hm, hy1, hwf⟩ := DataW.trod_int Tryd.underlying3 g1
    obtain rfl : c1 = .int .i64 m := by simpa using hm
    have hmm : m ≤ 9223372036854775807 := by
      simp only [Lit.wf, Bool.and_eq_true, decide_eq_true_eq] at hwf
      have h9 : IntKind.i64.max = 9223372036854775807 := by decide
      rw [← h9]; exact hwf.2
    have hb : Rows.uptoBulk (DataW.agg ([y0, y1, y2, y3, y4].map (·.1))) = Rows.uptoBulk y2.1 + Rows.uptoBulk y3.1 + Rows.uptoBulk y4.1 + 3 := by rw [hy0, hy1]; simp [Rows.uptoBulk, Rows.uptoBulkAll]; omega
    rw [hb] at hN
    obtain ⟨T, hT, hTt, hTs⟩ := trod_Ty 1048576 n _ y2.1 y2.2 (by omega) (Nat.le_refl _) g2
    obtain ⟨Fm, hFm, hFt, hFs⟩ := trod_Ty 1048576 n _ y3.1 y3.2 (by omega) (Nat.le_refl _) g3
    obtain ⟨l, v, hv, hr, hG, hs, hl⟩ := open_rows (α := Tm) Tm.c Tm.nodes (fun t => TmOk t ∧ TmFit t) Tryd.underlying25 cells_Term (by decide) (fun y => rfl) g4 (by omega) (fun n cs' d' ps' hd h => by
      obtain ⟨t, h1, h2, h3⟩ := ih n cs' d' ps' (by omega) (by omega) h
      exact ⟨t, h1, h2, h3⟩)
    obtain rfl : c6 = v := by simpa using hv
    obtain ⟨hT0, hT1, _⟩ := hT
    obtain ⟨hF0, hF1, _⟩ := hFm
    refine ⟨.mk k m T Fm l, ⟨rfl, rfl, hT0, hT1, hF0, hF1, ?_, trivial⟩, ⟨.mk hmm hTt hFt fun x hx => (hG x hx).1, .mk (by show T.size ≤ _; omega) (by show Fm.size ≤ _; omega) fun x hx => (hG x hx).2⟩, ?_⟩
    · show relK (Old w) w (slOf 7 (tmRows l)) c6
      rw [tmRows_map]; exact hr
    · rw [hb]; simp only [Tm.nodes, nodesL_sum]; omega
end
end Go.Proofs.YtnflnbdlgdjfmabDoor
namespace Go.Proofs.YtnflnbdlgdjfmabDoor
open Go.ChangeShapes Go.WideShapes Go.ChangeAt Go.RowKit Go.Joins Go.Deep
set_option linter.unusedVariables false
set_option linter.unusedSimpArgs false
def ρ0 : Nat → Lc := fun _ => ⟨none, 0, 0⟩
/-- What the listed variables give. -/
structure GlobIn (W : World) : Prop where
  gl : ∀ g c, glob g = some c → relK (Old W) W c (.pointer (some ⟨g, 0, none⟩))
  gx : ∀ g p, globX g = some p → ∃ cs t fz, p cs ∧ W.heap[g]? = some (.cells cs t fz)
theorem hrel_old {W : World} (hg : GlobIn W) : HRel (Old W) ρ0 (ofL []) W :=
  ⟨fun b x h => (by cases h), fun b b' g h => absurd rfl h, fun b g h => absurd rfl h, fun k h => h, fun b x h => (by cases h), hg.gl, fun g p h => by
    obtain ⟨cs, t, fz, hp, hh⟩ := hg.gx g p h
    exact ⟨(Array.getElem?_eq_some_iff.1 hh).1, cs, t, fz, hp, hh⟩⟩
/-- A law that answers true, as its row asks for it. -/
theorem law_calls {f : FuncId} {us : List U} {vals : List Value} {W : World} (hc : ACalls Tryd.prog f us [] (.one (.bool true)) []) (hg : GlobIn W) (ha : All2 (fun u v => relU (Old W) ρ0 W u v ∧ okU (ofL []) u) us vals) :
    Calls Tryd.prog f vals.toArray W fun e W' => e = .returned (.bool true) ∧ Below W.heap.size W W' := by
  refine (hc.2 (Old W) ρ0 W vals (hrel_old hg) ha).mono fun e W' ⟨v, F', ρ', he, hM, hr, _⟩ => ?_
  have hr : v = .bool true := hr
  subst hr
  exact ⟨he, hM.os, hM.tape, hM.output, hM.size, fun k hk => hM.kept k hk fun b hb => absurd rfl hb⟩
theorem ok_Tm (t : Tm) : okU (ofL []) t.u := okU_of (u := t.u) ⟨trivial, trivial, trivial, trivial, trivial, trivial, trivial, trivial⟩
set_option maxRecDepth 100000 in
/-- A term that comes in. -/
theorem open_Tm {H : Type} {enc : TypeId × Value → H} {W : World} {r : Reach} {b0 : Nat} {v : Value} {d : DataW H} {p : List MemPlace} (hv : Value.okWide Tryd.prog W r b0 27 v)
    (h : DataW.Trod enc Tryd.prog W 0 (fun _ => true) true 27 v d p) (hb : Rows.uptoBulk d ≤ 1048576) : ∃ t : Tm, relU (Old W) ρ0 W t.u v ∧ TmOk t ∧ t.nodes ≤ 1048576 := by
  obtain ⟨f0, f1, f2, f3, f4, hu, _⟩ := struct_Term
  obtain ⟨cs, rfl, hsz⟩ := okWide_struct hu hv
  obtain ⟨fuel, hf⟩ := h
  obtain ⟨t, ht, hok, hn⟩ := trod_Tm 1048576 fuel _ d p hb (Nat.le_refl _) hf
  simp only [Value.cells] at ht
  refine ⟨t, ⟨cs.toList, by simp, ?_⟩, hok.1, by omega⟩
  exact ht.mono fun c _ v h => relC_relK h
theorem laidOutP : laidOutB Tryd.prog = true := by kernel_rfl
theorem readable_Term : Tryd.prog.readableRec 27 = true := by kernel_rfl
theorem rowed_Term : 27 < Tryd.prog.types.size := of_decide_eq_true (by kernel_rfl)
/-- It reads behind the call as it did. -/
theorem again_Tm {H : Type} {enc : TypeId × Value → H} {W W' : World} {v : Value} {d : DataW H} {p : List MemPlace} (hx : Below W.heap.size W W') (h : DataW.Trod enc Tryd.prog W 0 (fun _ => true) true 27 v d p) (hlt : ∀ x ∈ p, x.block < W.heap.size) :
    DataW.Trod enc Tryd.prog W' 0 (fun b => decide (b < W.heap.size)) true 27 v d p := Below.trod laidOutP readable_Term rowed_Term h hx hlt
/-- What a law's row asks behind the call, where nothing that was there has turned. -/
theorem law_post {H : Type} {enc : TypeId × Value → H} {f : Func} {s : ChangeSpec} {W W' : World} {args : Array Value} {ds : List (DataW H)} {before pa : List MemPlace}
    (hW : DataW.Whole enc Tryd.prog f.params.toList s.vars false W args.toList ds [] before) (hvars : s.vars = []) (hr : f.resultTypes = #[4]) (hs : s.fn H (ds ++ []) = { results := [.lit (.bool true)], args := ds })
    (hx : Below W.heap.size W W') (hargs : DataW.TrodAll enc Tryd.prog W' 0 (fun b => decide (b < W.heap.size)) true f.params.toList args.toList ds pa) :
    s.post enc Tryd.prog f false true false false W args (.bool true) W' := by
  refine ⟨ds, [], before, [], pa, [], hW, ?_, by rw [hs]; exact hargs, ?_, Below.frame hx _, fun h => by cases h⟩
  · rw [hs, hr]
    exact trodAll_cons_mk (shut_bool Tryd.underlying4 _) trodAll_mk0
  · rw [hvars, hs]
    rfl
theorem own : ownKnob Tryd.prog.godebug = none := by kernel_rfl
end Go.Proofs.YtnflnbdlgdjfmabDoor
namespace Go.Proofs.YtnflnbdlgdjfmabDoor
open Go.ChangeShapes Go.WideShapes Go.ChangeAt Go.RowKit Go.Joins Go.Deep
set_option linter.unusedVariables false
set_option linter.unusedSimpArgs false
/-- A table of strings, as a row lists it. -/
def strData {H : Type} (zs : List (List UInt8)) : DataW H := .agg (zs.map fun z => .lit (.string z))
theorem cells_of_strs {H : Type} {enc : TypeId × Value → H} {P : Program} {w : World} {base : Nat} {sp : Nat → Bool} {held : Bool} {fuel : Nat} {t e : TypeId} {n : Nat} {cs : List Value} {zs : List (List UInt8)} {p : List MemPlace}
    (ht : P.underlying t = some (.array n e)) (he : P.underlying e = some .string) (hce : P.cellsOf e = 1) (hct : P.cellsOf t = n)
    (h : DataW.trod enc P w base sp held fuel t cs = some (strData zs, p)) : cs = zs.map fun z => Value.string ⟨z.toArray⟩ := by
  cases fuel with
  | zero => simp [DataW.trod] at h
  | succ fuel =>
    simp only [DataW.trod, ht, hce, hct, Nat.mul_one] at h
    split at h
    · rename_i hl
      obtain ⟨xs, hm, hx⟩ := Option.map_eq_some_iff.1 h
      have hxs : xs.map (·.1) = zs.map fun z => (DataW.lit (.string z) : DataW H) := by
        have := congrArg Prod.fst hx
        simpa [strData] using this
      have hxl : xs.length = n := by simpa using Lib.mapM_length hm
      have hzl : zs.length = n := by
        have := congrArg List.length hxs
        simp at this
        omega
      apply List.ext_getElem?
      intro i
      by_cases hi : i < n
      · obtain ⟨b, hb, hf⟩ := Lib.mapM_at hm i i (by simp [hi])
        obtain ⟨s, hc, rfl, _⟩ := DataW.trod_string he hf
        have h1 : cs[i]? = some (.string s) := by
          have := congrArg (·[0]?) hc
          simpa [List.getElem?_take, List.getElem?_drop] using this
        have h2 : (xs.map (·.1))[i]? = some (DataW.lit (.string s.data.toList) : DataW H) := by simp [hb]
        rw [hxs] at h2
        simp only [List.getElem?_map, Option.map_eq_some_iff, DataW.lit.injEq, Lit.string.injEq] at h2
        obtain ⟨z', hz', rfl⟩ := h2
        simp [h1, hz']
      · rw [List.getElem?_eq_none (by omega), List.getElem?_eq_none (by simp; omega)]
    · cases h
theorem strs_of_head {P : Program} {W : World} {name : String} {zs : List (List UInt8)} {rest : List (String × DataW Unit)} {g : Nat} {t e : TypeId} {n : Nat}
    (hg : P.globalNamed name = some g) (hty : (P.globals[g]?).map (·.type) = some t) (ht : P.underlying t = some (.array n e)) (he : P.underlying e = some .string) (hce : P.cellsOf e = 1) (hct : P.cellsOf t = n)
    (h : laidMet P ((name, strData zs) :: rest) W) : W.var? P name = some (zs.map fun z => Value.string ⟨z.toArray⟩).toArray := by
  obtain ⟨ps, ⟨g', t', cs, fuel, p, q, hg', ht', hvar, hd, _, _⟩, _⟩ := h
  obtain rfl := Option.some.inj (hg.symm.trans hg')
  obtain rfl := Option.some.inj (hty.symm.trans ht')
  rw [hvar, ← cells_of_strs ht he hce hct hd]
theorem heap_of_var {P : Program} {W : World} {name : String} {g : Nat} {cs : Array Value} (hg : P.globalNamed name = some g) (h : W.var? P name = some cs) : ∃ t fz, W.heap[g]? = some (.cells cs t fz) := by
  unfold World.var? at h
  rw [hg] at h
  simp only [Option.bind_some] at h
  split at h
  · rename_i hh; cases h; exact ⟨_, _, hh⟩
  · cases h
theorem fpo_of_var {P : Program} {W : World} {name : String} {g : Nat} {cs : Array Value} {l : List C} (hg : P.globalNamed name = some g) (h : W.var? P name = some cs) (hr : All2 (relK (Old W) W) l cs.toList) (h0 : 0 < l.length) : relK (Old W) W (fpo l 0) (.pointer (some ⟨g, 0, none⟩)) := by
  obtain ⟨t, fz, hh⟩ := heap_of_var hg h
  refine ⟨g, 0, rfl, (Array.getElem?_eq_some_iff.1 hh).1, fun j hj => ?_⟩
  have hj : j < l.length := by simpa using hj
  obtain ⟨u, hu, hk⟩ := hr.get j l[j] (List.getElem?_eq_getElem hj)
  refine ⟨u, ?_, ?_⟩
  · have := World.var?_cell hg h j
    rw [Nat.zero_add, this]; simpa using hu
  · simp only [rowF, Nat.zero_add, List.getD_eq_getElem?_getD, List.getElem?_eq_getElem hj, Option.getD_some]; exact hk
abbrev laidT : List (String × DataW Unit) := Rows.topErasedUptoRow.laid
theorem hArr : Tryd.prog.cellsOf 79 = 10 := by kernel_rfl
theorem hArrS : Tryd.prog.cellsOf 69 = 10 := by kernel_rfl
theorem hArrK : Tryd.prog.cellsOf 95 = 4 := by kernel_rfl
theorem hArrP : Tryd.prog.cellsOf 173 = 20 := by kernel_rfl
theorem hU64 : Tryd.prog.cellsOf 143 = 1 := by kernel_rfl
theorem hStr : Tryd.prog.cellsOf 9 = 1 := by kernel_rfl
theorem hErr : Tryd.prog.cellsOf 192 = 1 := by kernel_rfl
theorem gAr : Tryd.prog.globalNamed "chaperone/term.arity" = some 1 := by kernel_rfl
theorem gWo : Tryd.prog.globalNamed "chaperone/term.words" = some 0 := by kernel_rfl
theorem gKi : Tryd.prog.globalNamed "chaperone/term.kinds" = some 2 := by kernel_rfl
theorem gPo : Tryd.prog.globalNamed "internal/strconv.uint64pow10" = some 8 := by kernel_rfl
theorem gES : Tryd.prog.globalNamed "strconv.ErrSyntax" = some 9 := by kernel_rfl
theorem gER : Tryd.prog.globalNamed "strconv.ErrRange" = some 10 := by kernel_rfl
theorem star : "*" ++ "errors.errorString" = "*errors.errorString" := by decide
theorem rowErr (u : TypeId) (h : Tryd.prog.typeName? 3 u = some "*errors.errorString") : u = 190 :=
  typeName_ptr_named (nm := "errors.errorString") (by rw [star]; kernel_rfl) (by kernel_rfl) (by decide) u (by rw [star]; exact h)
theorem max_in {W : World} (hsh : W.ShapedOpen Tryd.prog) : ∃ cs t fz, (∃ m, cs = #[.int .i64 m]) ∧ W.heap[5]? = some (.cells cs t fz) := by
  obtain ⟨cs, hh, hs, _⟩ := hsh.1 5 #[.int .i64 0] 3 (of_decide_eq_true (by kernel_rfl)) (by kernel_rfl)
  obtain ⟨m, hm⟩ := cell_of_shapedOpen_int (zero := #[.int .i64 0]) (t := 3) (g := 5) hsh (of_decide_eq_true (by kernel_rfl)) (by kernel_rfl) rfl (by kernel_rfl) (by kernel_rfl) Tryd.underlying3
  have hm0 : cs[0]? = some (.int .i64 m) := by simpa [World.cell?, hh] using hm
  refine ⟨cs, _, _, ⟨m, ?_⟩, hh⟩
  have hs : cs.size = 1 := hs
  apply Array.ext_getElem?
  intro i
  match i with
  | 0 => simpa using hm0
  | i + 1 => rw [Array.getElem?_eq_none (by omega), Array.getElem?_eq_none (by simp)]
set_option maxRecDepth 100000 in
theorem glob_in {W : World} (hL : laidMetH Tryd.prog laidT W) (hsh : W.ShapedOpen Tryd.prog) : GlobIn W := by
  have h0 : laidMet Tryd.prog laidT W := hL
  have h2 := h0.tail.tail
  have h4 := h2.tail.tail
  have h5 := h4.tail
  have h6 := h5.tail
  have h7 := h6.tail
  have h8 := h7.tail
  have vP0 := Lib.tabIs_of_head (k := .u64) (zs := [1, 10, 100, 1000, 10000, 100000, 1000000, 10000000, 100000000, 1000000000, 10000000000, 100000000000, 1000000000000, 10000000000000, 100000000000000, 1000000000000000, 10000000000000000, 100000000000000000, 1000000000000000000, 10000000000000000000]) gPo (t := 173) (by kernel_rfl) Tryd.underlying173 Tryd.underlying143 hU64 hArrP h2
  have vP : W.var? Tryd.prog "internal/strconv.uint64pow10" = some pow10V := by
    unfold Lib.TabIs at vP0
    rw [vP0]
    simp [pow10V]
  obtain ⟨a4, s4, v4, _⟩ := laid_sentinel h4 gER (ti := 103) (by kernel_rfl) Tryd.underlying103 rowErr Tryd.underlying190 Tryd.underlying192 rfl rfl Tryd.underlying9 hErr hStr
  obtain ⟨a5, s5, v5, _⟩ := laid_sentinel h5 gES (ti := 103) (by kernel_rfl) Tryd.underlying103 rowErr Tryd.underlying190 Tryd.underlying192 rfl rfl Tryd.underlying9 hErr hStr
  have vA : W.var? Tryd.prog "chaperone/term.arity" = some #[.int .i64 0, .int .i64 0, .int .i64 0, .int .i64 0, .int .i64 2, .int .i64 2, .int .i64 3, .int .i64 1, .int .i64 2, .int .i64 1] := Lib.tabIs_of_head (zs := [0, 0, 0, 0, 2, 2, 3, 1, 2, 1]) gAr (t := 79) (by kernel_rfl) Tryd.underlying79 Tryd.underlying3 cells_int hArr h6
  have vW := strs_of_head (zs := [[], [], [], [], [97, 100, 100], [108, 101, 115, 115], [105, 102], [102, 117, 110], [99, 97, 108, 108], [97, 115]]) gWo (t := 69) (by kernel_rfl) Tryd.underlying69 Tryd.underlying9 hStr hArrS h7
  have vK := strs_of_head (zs := [[97, 110, 121], [110, 117, 109], [116, 114, 117, 116, 104], [116, 111]]) gKi (t := 95) (by kernel_rfl) Tryd.underlying95 Tryd.underlying9 hStr hArrK h8
  refine ⟨fun g c hgc => ?_, fun g p hgp => ?_⟩
  · unfold glob at hgc
    cases hb : Nat.beq g 1 with
    | true =>
      rw [hb] at hgc; cases hgc
      rw [Nat.eq_of_beq_eq_true hb]
      exact fpo_of_var gAr vA ⟨rfl, rfl, rfl, rfl, rfl, rfl, rfl, rfl, rfl, rfl, trivial⟩ (by decide)
    | false =>
    rw [hb] at hgc
    cases hb1 : Nat.beq g 0 with
    | true =>
      rw [hb1] at hgc; cases hgc
      rw [Nat.eq_of_beq_eq_true hb1]
      exact fpo_of_var gWo vW ⟨rfl, rfl, rfl, rfl, rfl, rfl, rfl, rfl, rfl, rfl, trivial⟩ (by decide)
    | false =>
    rw [hb1] at hgc
    cases hb2 : Nat.beq g 2 with
    | true =>
      rw [hb2] at hgc; cases hgc
      rw [Nat.eq_of_beq_eq_true hb2]
      exact fpo_of_var gKi vK ⟨rfl, rfl, rfl, rfl, trivial⟩ (by decide)
    | false => rw [hb2] at hgc; cases hgc
  · unfold globX at hgp
    cases hb : Nat.beq g 5 with
    | true =>
      rw [hb] at hgp; cases hgp
      rw [Nat.eq_of_beq_eq_true hb]
      exact max_in hsh
    | false =>
    rw [hb] at hgp
    cases hb1 : Nat.beq g 9 with
    | true =>
      rw [hb1] at hgp; cases hgp
      rw [Nat.eq_of_beq_eq_true hb1]
      obtain ⟨t, fz, hh⟩ := heap_of_var gES v5
      exact ⟨_, t, fz, ⟨_, _, rfl⟩, hh⟩
    | false =>
    rw [hb1] at hgp
    cases hb2 : Nat.beq g 10 with
    | true =>
      rw [hb2] at hgp; cases hgp
      rw [Nat.eq_of_beq_eq_true hb2]
      obtain ⟨t, fz, hh⟩ := heap_of_var gER v4
      exact ⟨_, t, fz, ⟨_, _, rfl⟩, hh⟩
    | false =>
    rw [hb2] at hgp
    cases hb3 : Nat.beq g 8 with
    | true =>
      rw [hb3] at hgp; cases hgp
      rw [Nat.eq_of_beq_eq_true hb3]
      obtain ⟨t, fz, hh⟩ := heap_of_var gPo vP
      exact ⟨_, t, fz, rfl, hh⟩
    | false => rw [hb3] at hgp; cases hgp
set_option maxRecDepth 100000 in
/-- A string that comes in. -/
theorem open_Str {H : Type} {enc : TypeId × Value → H} {W : World} {r : Reach} {b0 : Nat} {v : Value} {d : DataW H} {p : List MemPlace} (hv : Value.okWide Tryd.prog W r b0 9 v)
    (h : DataW.Trod enc Tryd.prog W 0 (fun _ => true) true 9 v d p) (hb : Rows.uptoBulk d ≤ 1048576) : ∃ s : ByteArray, v = .string s ∧ s.size ≤ 1048576 := by
  obtain ⟨s, rfl, rfl, _, _⟩ := Go.ChangeMaps.open_string Tryd.underlying9 hv h
  refine ⟨s, rfl, ?_⟩
  simp only [Rows.uptoBulk] at hb
  have : s.data.toList.length = s.size := Array.length_toList
  omega
theorem readable_Str : Tryd.prog.readableRec 9 = true := by kernel_rfl
theorem rowed_Str : 9 < Tryd.prog.types.size := of_decide_eq_true (by kernel_rfl)
theorem again_Str {H : Type} {enc : TypeId × Value → H} {W W' : World} {v : Value} {d : DataW H} {p : List MemPlace} (hx : Below W.heap.size W W') (h : DataW.Trod enc Tryd.prog W 0 (fun _ => true) true 9 v d p) (hlt : ∀ x ∈ p, x.block < W.heap.size) :
    DataW.Trod enc Tryd.prog W' 0 (fun b => decide (b < W.heap.size)) true 9 v d p := Below.trod laidOutP readable_Str rowed_Str h hx hlt
/-- A world for the witness: every listed variable holds what its row lists. -/
noncomputable def laidWorld (os : Os) : World := World.laidAll Tryd.prog os laidT
theorem laid_met (os : Os) (args : Array Value) : laidMet Tryd.prog laidT ((laidWorld os).forCall (fun _ _ => 0) ⟨#[], args, []⟩).memory := laidMet_laidAll args (by kernel_rfl) (by kernel_rfl)
end Go.Proofs.YtnflnbdlgdjfmabDoor
