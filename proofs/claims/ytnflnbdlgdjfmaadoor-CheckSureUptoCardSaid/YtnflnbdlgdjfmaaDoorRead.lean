/-
  Arguments that are types and terms, as they lie in memory; what a law's row asks behind the call. Conditions: those typed in each theorem.
-/
import Derived.Test.YtnflnbdlgdjfmaaDoorChkP
import Derived.Test.YtnflnbdlgdjfmaaDoorTac
import Derived.Test.YtnflnbdlgdjfmaaDoorRows
import Derived.ProofKit
import Derived.OpenShut
import Derived.Lib.SmallJoins
import Derived.Deep.Slices
namespace Go.Proofs.YtnflnbdlgdjfmaaDoor
open Go.ChangeShapes Go.WideShapes Go.ChangeAt Go.RowKit Go.Joins Go.Deep
set_option linter.unusedVariables false
set_option linter.unusedSimpArgs false

/-- What lies in memory when the call begins. -/
def Old (w : World) : Nat → Prop := fun k => k < w.heap.size

theorem bulkAll_append {H : Type} (l r : List (DataW H)) : Rows.uptoBulkAll (l ++ r) = Rows.uptoBulkAll l + Rows.uptoBulkAll r := by
  induction l with
  | nil => simp [Rows.uptoBulkAll]
  | cons x l ih => simp only [List.cons_append, Rows.uptoBulkAll, ih]; omega
theorem bulk_mem {H : Type} {d : DataW H} {l : List (DataW H)} (h : d ∈ l) : Rows.uptoBulk d ≤ Rows.uptoBulkAll l := by
  induction l with
  | nil => cases h
  | cons x r ih =>
    simp only [Rows.uptoBulkAll]
    cases List.mem_cons.1 h with
    | inl e => subst e; omega
    | inr e => have := ih e; omega
theorem bulk_pos {H : Type} (d : DataW H) : 1 ≤ Rows.uptoBulk d := by
  cases d with
  | lit l => cases l <;> simp [Rows.uptoBulk]
  | _ => simp [Rows.uptoBulk]
theorem bulk_lenAll {H : Type} (l : List (DataW H)) : l.length ≤ Rows.uptoBulkAll l := by
  induction l with
  | nil => simp [Rows.uptoBulkAll]
  | cons x r ih => have := bulk_pos x; simp only [List.length_cons, Rows.uptoBulkAll]; omega
theorem all2_append {α β : Type} {R : α → β → Prop} : ∀ {l l' : List α} {m m' : List β}, All2 R l m → All2 R l' m' → All2 R (l ++ l') (m ++ m')
  | [], _, [], _, _, h => h
  | _ :: _, _, _ :: _, _, ⟨h1, h2⟩, h => ⟨h1, all2_append h2 h⟩
  | [], _, _ :: _, _, h, _ => h.elim
  | _ :: _, _, [], _, h, _ => h.elim

section
variable {H : Type} {enc : TypeId × Value → H} {w : World} {sp : Nat → Bool} {held : Bool} {F : Nat → Prop}

/-- A slice whose elements are read. -/
theorem open_rows {α : Type} [Inhabited α] {P : Program} {t e k fuel : Nat} {cs : List Value} {x : DataW H × List MemPlace} (c : α → List C) (sz : α → Nat) (G : α → Prop) (ht : P.underlying t = some (.slice e)) (hk : P.cellsOf e = k) (hk0 : 0 < k) (hc : ∀ y, (c y).length = k)
    (h : DataW.trod enc P w 0 sp held fuel t cs = some x) (hb : Rows.uptoBulk x.1 ≤ 1048576)
    (elem : ∀ (n : Nat) (cs' : List Value) (d' : DataW H) (ps' : List MemPlace), Rows.uptoBulk d' < Rows.uptoBulk x.1 → DataW.trod enc P w 0 sp held n e cs' = some (d', ps') → ∃ y : α, All2 (relK (Old w) w) (c y) cs' ∧ G y ∧ sz y ≤ Rows.uptoBulk d') :
    ∃ (l : List α) (v : Value), cs = [v] ∧ relK (Old w) w (slOf k (l.map c)) v ∧ (∀ y ∈ l, G y) ∧ (l.map sz).sum + 1 ≤ Rows.uptoBulk x.1 ∧ l.length < Rows.uptoBulk x.1 := by
  rcases open_slice ht h with ⟨rfl, rfl⟩ | ⟨a, len, cap, m, n, D, Pl, rfl, _, hle, hcap, hm, rfl, hel⟩
  · exact ⟨[], _, rfl, ⟨none, 0, rfl, Nat.zero_le _, Nat.zero_le _, fun i hi => absurd hi (Nat.not_lt_zero _)⟩, fun y hy => (by cases hy), by simp [Rows.uptoBulk], by simp [Rows.uptoBulk]⟩
  · have hlm : len ≤ m := by rw [hm]; split <;> omega
    have hbk : Rows.uptoBulk (DataW.slice ((List.range len).map D) ((List.range (m - len)).map fun j => D (len + j))) = Rows.uptoBulkAll ((List.range len).map D) + Rows.uptoBulkAll ((List.range (m - len)).map fun j => D (len + j)) + 1 := by simp [Rows.uptoBulk]
    simp only at hb elem ⊢
    rw [hbk] at hb
    have part : ∀ i, ∃ y : α, i < len → (∀ j, j < k → ∃ u, w.cell? (a.add (i * k + j)) = some u ∧ relK (Old w) w (rowF (c y) j) u) ∧ G y ∧ sz y ≤ Rows.uptoBulk (D i) := by
      intro i
      by_cases hi : i < len
      · obtain ⟨cs', hcs, hd⟩ := hel i (by omega)
        rw [hk] at hcs
        have hDi : Rows.uptoBulk (D i) ≤ Rows.uptoBulkAll ((List.range len).map D) := bulk_mem (List.mem_map.2 ⟨i, List.mem_range.2 hi, rfl⟩)
        obtain ⟨y, h1, h2, h3⟩ := elem n cs' (D i) (Pl i) (by rw [hbk]; omega) hd
        obtain ⟨_, hlen, hat⟩ := World.cells?_some hcs
        refine ⟨y, fun _ => ⟨fun j hj => ?_, h2, h3⟩⟩
        have hjc : j < (c y).length := by rw [hc]; exact hj
        obtain ⟨u, hu, hr⟩ := h1.get j _ (List.getElem?_eq_getElem hjc)
        refine ⟨u, ?_, ?_⟩
        · have := hat j hj
          rw [hu] at this
          rw [← this, Go.Deep.add_add]
        · rw [show rowF (c y) j = (c y)[j] by simp [rowF, hjc]]; exact hr
      · exact ⟨default, fun h => absurd h hi⟩
    obtain ⟨T, hT⟩ := Classical.axiomOfChoice part
    have hlen2 : len ≤ 1048576 := by
      have := bulk_lenAll ((List.range len).map D)
      simp at this; omega
    refine ⟨(List.range len).map T, _, rfl, ⟨some a, cap, by simp, by simpa using hle, by simp [maxLen]; omega, fun i hi => ?_⟩, fun y hy => ?_, ?_, ?_⟩
    · have hi : i < len := by simpa using hi
      obtain ⟨h1, _, _⟩ := hT i hi
      obtain ⟨u0, hu0, _⟩ := h1 0 hk0
      have hsp : a.spot = none := by
        obtain ⟨h2, _, _⟩ := hT 0 (by omega)
        obtain ⟨u1, hu1, _⟩ := h2 0 hk0
        rw [show (0 * k + 0) = 0 by omega, show a.add 0 = a from rfl] at hu1
        unfold World.cell? at hu1
        split at hu1
        · split at hu1
          · cases hu1
          · rename_i hne; simpa using hne
        · cases hu1
      obtain ⟨ab, ao, asp⟩ := a
      simp only at hsp
      subst hsp
      have hadd : ∀ n, (⟨ab, ao, none⟩ : Addr).add n = ⟨ab, ao + n, none⟩ := fun n => by
        unfold Addr.add
        split
        · rename_i h0; rw [h0]; rfl
        · rfl
      refine ⟨ab, ao, rfl, ?_, fun j hj => ?_⟩
      · rw [hadd] at hu0
        exact World.block_lt_of_cell? _ _ hu0
      · obtain ⟨u, hu, hr⟩ := h1 j hj
        rw [hadd] at hu
        refine ⟨u, by rw [Nat.add_assoc]; exact hu, ?_⟩
        simpa [hi] using hr
    · obtain ⟨i, hi, rfl⟩ := List.mem_map.1 hy
      exact (hT i (List.mem_range.1 hi)).2.1
    · rw [hbk]
      have hsum : ∀ (l : List Nat), (∀ i ∈ l, i < len) → ((l.map T).map sz).sum ≤ Rows.uptoBulkAll (l.map D) := by
        intro l
        induction l with
        | nil => intro _; simp
        | cons i l ihl =>
          intro hl
          have h1 := (hT i (hl i (List.mem_cons_self ..))).2.2
          have h2 := ihl fun j hj => hl j (List.mem_cons_of_mem _ hj)
          simp only [List.map_cons, List.sum_cons, Rows.uptoBulkAll]
          omega
      have := hsum (List.range len) fun i hi => List.mem_range.1 hi
      omega
    · have := bulk_lenAll ((List.range len).map D)
      simp at this ⊢
      rw [hbk]; omega
end

theorem len5 {α : Type} {l : List α} (h : l.length = 5) : ∃ a b c d e, l = [a, b, c, d, e] := by
  match l, h with
  | [a, b, c, d, e], _ => exact ⟨a, b, c, d, e, rfl⟩
theorem len7 {α : Type} {l : List α} (h : l.length = 7) : ∃ a b c d e f g, l = [a, b, c, d, e, f, g] := by
  match l, h with
  | [a, b, c, d, e, f, g], _ => exact ⟨a, b, c, d, e, f, g, rfl⟩
instance : Inhabited Ty := ⟨.any⟩
instance : Inhabited Tm := ⟨.mk 0 0 .any .any []⟩
mutual
def Ty.size : Ty → Nat
  | .mk _ l => 1 + sizeL l
def sizeL : List Ty → Nat
  | [] => 0
  | t :: l => Ty.size t + sizeL l
end
theorem sizeL_sum : ∀ l : List Ty, sizeL l = (l.map Ty.size).sum
  | [] => rfl
  | a :: l => by simp [sizeL, sizeL_sum l]
theorem nodesL_sum : ∀ l : List Tm, nodesL l = (l.map Tm.nodes).sum
  | [] => rfl
  | a :: l => by simp [nodesL, nodesL_sum l]

theorem struct_Type : ∃ f0 f1 : Field, Tryd.prog.underlying 24 = some (.struct #[f0, f1]) ∧ f0.type = 3 ∧ f0.offset = 0 ∧ f1.type = 22 ∧ f1.offset = 1 := ⟨_, _, Tryd.underlying24, rfl, rfl, rfl, rfl⟩
theorem cells_int : Tryd.prog.cellsOf 3 = 1 := by kernel_rfl
theorem cells_types : Tryd.prog.cellsOf 22 = 1 := by kernel_rfl
theorem cells_Type : Tryd.prog.cellsOf 24 = 2 := by kernel_rfl
theorem struct_Term : ∃ f0 f1 f2 f3 f4 : Field, Tryd.prog.underlying 27 = some (.struct #[f0, f1, f2, f3, f4]) ∧ (f0.type = 3 ∧ f0.offset = 0) ∧ (f1.type = 3 ∧ f1.offset = 1) ∧ (f2.type = 24 ∧ f2.offset = 2) ∧ (f3.type = 24 ∧ f3.offset = 4) ∧ (f4.type = 25 ∧ f4.offset = 6) := ⟨_, _, _, _, _, Tryd.underlying27, ⟨rfl, rfl⟩, ⟨rfl, rfl⟩, ⟨rfl, rfl⟩, ⟨rfl, rfl⟩, ⟨rfl, rfl⟩⟩
theorem cells_terms : Tryd.prog.cellsOf 25 = 1 := by kernel_rfl
theorem cells_Term : Tryd.prog.cellsOf 27 = 7 := by kernel_rfl

section
variable {H : Type} {enc : TypeId × Value → H} {w : World} {sp : Nat → Bool} {held : Bool}
/-- What reads as a type is one. -/
theorem trod_Ty : ∀ (N fuel : Nat) (cs : List Value) (d : DataW H) (ps : List MemPlace), Rows.uptoBulk d ≤ N → N ≤ 1048576 → DataW.trod enc Tryd.prog w 0 sp held fuel 24 cs = some (d, ps) →
    ∃ t : Ty, All2 (relK (Old w) w) t.c cs ∧ Thin t ∧ t.size ≤ Rows.uptoBulk d := by
  intro N
  induction N with
  | zero => intro fuel cs d ps hN; have := bulk_pos d; omega
  | succ N ih =>
    intro fuel cs d ps hN hmax h
    obtain ⟨f0, f1, hu, t0, o0, t1, o1⟩ := struct_Type
    obtain ⟨y0, y1, n, hx, hlen, h0, h1⟩ := trod_struct2 hu h
    simp only [Prod.mk.injEq] at hx
    obtain ⟨rfl, rfl⟩ := hx
    rw [cells_Type] at hlen
    obtain ⟨c0, c1, rfl⟩ := len2 hlen
    rw [t0, o0, cells_int] at h0
    rw [t1, o1, cells_types] at h1
    simp only [List.drop_zero, List.take_succ_cons, List.take_zero, List.drop_succ_cons] at h0 h1
    obtain ⟨k, hk, hy0, _⟩ := DataW.trod_int Tryd.underlying3 h0
    obtain rfl : c0 = .int .i64 k := by simpa using hk
    have hb : Rows.uptoBulk (DataW.agg [y0.1, y1.1]) = Rows.uptoBulk y1.1 + 2 := by rw [hy0]; simp [Rows.uptoBulk, Rows.uptoBulkAll]; omega
    rw [hb] at hN
    obtain ⟨l, v, hv, hr, hG, hs, hl⟩ := open_rows (α := Ty) Ty.c Ty.size Thin Tryd.underlying22 cells_Type (by decide) (fun y => rfl) h1 (by omega) (fun n cs' d' ps' hd h => by
      obtain ⟨t, h1, h2, h3⟩ := ih n cs' d' ps' (by omega) (by omega) h
      exact ⟨t, h1, h2, h3⟩)
    obtain rfl : c1 = v := by simpa using hv
    refine ⟨.mk k l, ⟨rfl, ?_, trivial⟩, .mk k l (by omega) hG, ?_⟩
    · show relK (Old w) w (slOf 2 (tyRows l)) c1
      rw [tyRows_map]; exact hr
    · simp only [Ty.size, sizeL_sum]; omega
/-- What reads as a term is one. -/
theorem trod_Tm : ∀ (N fuel : Nat) (cs : List Value) (d : DataW H) (ps : List MemPlace), Rows.uptoBulk d ≤ N → N ≤ 1048576 → DataW.trod enc Tryd.prog w 0 sp held fuel 27 cs = some (d, ps) →
    ∃ t : Tm, All2 (relK (Old w) w) t.c cs ∧ TmOk t ∧ t.nodes ≤ Rows.uptoBulk d := by
  intro N
  induction N with
  | zero => intro fuel cs d ps hN; have := bulk_pos d; omega
  | succ N ih =>
    intro fuel cs d ps hN hmax h
    obtain ⟨f0, f1, f2, f3, f4, hu, ⟨t0, o0⟩, ⟨t1, o1⟩, ⟨t2, o2⟩, ⟨t3, o3⟩, ⟨t4, o4⟩⟩ := struct_Term
    obtain ⟨xs, n, rfl, hx, hlen, hxs, hf⟩ := DataW.trod_struct hu h
    simp only [Prod.mk.injEq] at hx
    obtain ⟨rfl, rfl⟩ := hx
    rw [cells_Term] at hlen
    obtain ⟨c0, c1, c2, c3, c4, c5, c6, rfl⟩ := len7 hlen
    obtain ⟨y0, y1, y2, y3, y4, rfl⟩ := len5 hxs
    have g0 := hf 0 f0 rfl
    have g1 := hf 1 f1 rfl
    have g2 := hf 2 f2 rfl
    have g3 := hf 3 f3 rfl
    have g4 := hf 4 f4 rfl
    rw [t0, o0, cells_int] at g0
    rw [t1, o1, cells_int] at g1
    rw [t2, o2, cells_Type] at g2
    rw [t3, o3, cells_Type] at g3
    rw [t4, o4, cells_terms] at g4
    simp only [List.drop_zero, List.take_succ_cons, List.take_zero, List.drop_succ_cons, List.getElem?_cons_zero, List.getElem?_cons_succ] at g0 g1 g2 g3 g4
    obtain ⟨k, hk, hy0, _⟩ := DataW.trod_int Tryd.underlying3 g0
    obtain rfl : c0 = .int .i64 k := by simpa using hk
    obtain ⟨m, hm, hy1, hwf⟩ := DataW.trod_int Tryd.underlying3 g1
    obtain rfl : c1 = .int .i64 m := by simpa using hm
    have hmm : m ≤ 9223372036854775807 := by
      simp only [Lit.wf, Bool.and_eq_true, decide_eq_true_eq] at hwf
      have h9 : IntKind.i64.max = 9223372036854775807 := by decide
      rw [← h9]; exact hwf.2
    have hb : Rows.uptoBulk (DataW.agg ([y0, y1, y2, y3, y4].map (·.1))) = Rows.uptoBulk y2.1 + Rows.uptoBulk y3.1 + Rows.uptoBulk y4.1 + 3 := by rw [hy0, hy1]; simp [Rows.uptoBulk, Rows.uptoBulkAll]; omega
    rw [hb] at hN
    obtain ⟨T, hT, hTt, hTs⟩ := trod_Ty 1048576 n _ y2.1 y2.2 (by omega) (Nat.le_refl _) g2
    obtain ⟨Fm, hFm, hFt, hFs⟩ := trod_Ty 1048576 n _ y3.1 y3.2 (by omega) (Nat.le_refl _) g3
    obtain ⟨l, v, hv, hr, hG, hs, hl⟩ := open_rows (α := Tm) Tm.c Tm.nodes TmOk Tryd.underlying25 cells_Term (by decide) (fun y => rfl) g4 (by omega) (fun n cs' d' ps' hd h => by
      obtain ⟨t, h1, h2, h3⟩ := ih n cs' d' ps' (by omega) (by omega) h
      exact ⟨t, h1, h2, h3⟩)
    obtain rfl : c6 = v := by simpa using hv
    obtain ⟨hT0, hT1, _⟩ := hT
    obtain ⟨hF0, hF1, _⟩ := hFm
    refine ⟨.mk k m T Fm l, ⟨rfl, rfl, hT0, hT1, hF0, hF1, ?_, trivial⟩, .mk hmm hTt hFt hG, ?_⟩
    · show relK (Old w) w (slOf 7 (tmRows l)) c6
      rw [tmRows_map]; exact hr
    · rw [hb]; simp only [Tm.nodes, nodesL_sum]; omega
end
end Go.Proofs.YtnflnbdlgdjfmaaDoor
