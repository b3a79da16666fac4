/-
  Arguments that are types, as they lie in memory; what a law's row asks behind the call. Conditions: those typed in each theorem.
  A law's contract, as its row asks for it: arguments that are types. Conditions: those typed in each theorem.
-/
import Derived.Test.YtnflnbdlgdjfmaaM3
import Derived.Test.YtnflnbdlgdjfmaaRows
import Derived.ProofKit
import Derived.OpenShut
import Derived.Lib.SmallJoins
import Derived.Deep.Slices
import Derived.JoinedCond
namespace Go.Proofs.Ytnflnbdlgdjfmaa
open Go.ChangeShapes Go.WideShapes Go.ChangeAt Go.RowKit Go.Joins Go.Deep
set_option linter.unusedVariables false
set_option linter.unusedSimpArgs false
/-- What lies in memory when the call begins. -/
def Old (w : World) : Nat → Prop := fun k => k < w.heap.size
theorem bulk_mem {H : Type} {d : DataW H} {l : List (DataW H)} (h : d ∈ l) : Rows.uptoBulk d ≤ Rows.uptoBulkAll l := by
  induction l with
  | nil => cases h
  | cons x r ih =>
    simp only [Rows.uptoBulkAll]
    cases List.mem_cons.1 h with
    | inl e => subst e; omega
    | inr e => have := ih e; omega
theorem bulk_pos {H : Type} (d : DataW H) : 1 ≤ Rows.uptoBulk d := by
  cases d with
  | lit l => cases l <;> simp [Rows.uptoBulk]
  | _ => simp [Rows.uptoBulk]
theorem bulk_lenAll {H : Type} (l : List (DataW H)) : l.length ≤ Rows.uptoBulkAll l := by
  induction l with
  | nil => simp [Rows.uptoBulkAll]
  | cons x r ih => have := bulk_pos x; simp only [List.length_cons, Rows.uptoBulkAll]; omega
section
variable {H : Type} {enc : TypeId × Value → H} {w : World} {sp : Nat → Bool} {held : Bool} {F : Nat → Prop}
/-- A slice whose elements are read. -/
theorem open_rows {α : Type} [Inhabited α] {P : Program} {t e k fuel : Nat} {cs : List Value} {x : DataW H × List MemPlace} (c : α → List C) (sz : α → Nat) (G : α → Prop) (ht : P.underlying t = some (.slice e)) (hk : P.cellsOf e = k) (hk0 : 0 < k) (hc : ∀ y, (c y).length = k)
    (h : DataW.trod enc P w 0 sp held fuel t cs = some x) (hb : Rows.uptoBulk x.1 ≤ 1048576)
    (elem : ∀ (n : Nat) (cs' : List Value) (d' : DataW H) (ps' : List MemPlace), Rows.uptoBulk d' < Rows.uptoBulk x.1 → DataW.trod enc P w 0 sp held n e cs' = some (d', ps') → ∃ y : α, All2 (relK (Old w) w) (c y) cs' ∧ G y ∧ sz y ≤ Rows.uptoBulk d') :
    ∃ (l : List α) (v : Value), cs = [v] ∧ relK (Old w) w (slOf k (l.map c)) v ∧ (∀ y ∈ l, G y) ∧ (l.map sz).sum + 1 ≤ Rows.uptoBulk x.1 ∧ l.length < Rows.uptoBulk x.1 := by
  rcases open_slice ht h with ⟨rfl, rfl⟩ | ⟨a, len, cap, m, n, D, Pl, rfl, _, hle, hcap, hm, rfl, hel⟩
  · exact ⟨[], _, rfl, ⟨none, 0, rfl, Nat.zero_le _, Nat.zero_le _, fun i hi => absurd hi (Nat.not_lt_zero _)⟩, fun y hy => (by cases hy), by simp [Rows.uptoBulk], by simp [Rows.uptoBulk]⟩
  · have hlm : len ≤ m := by rw [hm]; split <;> omega
    have hbk : Rows.uptoBulk (DataW.slice ((List.range len).map D) ((List.range (m - len)).map fun j => D (len + j))) = Rows.uptoBulkAll ((List.range len).map D) + Rows.uptoBulkAll ((List.range (m - len)).map fun j => D (len + j)) + 1 := by simp [Rows.uptoBulk]
    simp only at hb elem ⊢
    rw [hbk] at hb
    have part : ∀ i, ∃ y : α, i < len → (∀ j, j < k → ∃ u, w.cell? (a.add (i * k + j)) = some u ∧ relK (Old w) w (rowF (c y) j) u) ∧ G y ∧ sz y ≤ Rows.uptoBulk (D i) := by
      intro i
      by_cases hi : i < len
      · obtain ⟨cs', hcs, hd⟩ := hel i (by omega)
        rw [hk] at hcs
        have hDi : Rows.uptoBulk (D i) ≤ Rows.uptoBulkAll ((List.range len).map D) := bulk_mem (List.mem_map.2 ⟨i, List.mem_range.2 hi, rfl⟩)
        obtain ⟨y, h1, h2, h3⟩ := elem n cs' (D i) (Pl i) (by rw [hbk]; omega) hd
        obtain ⟨_, hlen, hat⟩ := World.cells?_some hcs
        refine ⟨y, fun _ => ⟨fun j hj => ?_, h2, h3⟩⟩
        have hjc : j < (c y).length := by rw [hc]; exact hj
        obtain ⟨u, hu, hr⟩ := h1.get j _ (List.getElem?_eq_getElem hjc)
        refine ⟨u, ?_, ?_⟩
        · have := hat j hj
          rw [hu] at this
          rw [← this, Go.Deep.add_add]
        · rw [show rowF (c y) j = (c y)[j] by simp [rowF, hjc]]; exact hr
      · exact ⟨default, fun h => absurd h hi⟩
    obtain ⟨T, hT⟩ := Classical.axiomOfChoice part
    have hlen2 : len ≤ 1048576 := by
      have := bulk_lenAll ((List.range len).map D)
      simp at this; omega
    refine ⟨(List.range len).map T, _, rfl, ⟨some a, cap, by simp, by simpa using hle, by simp [maxLen]; omega, fun i hi => ?_⟩, fun y hy => ?_, ?_, ?_⟩
    · have hi : i < len := by simpa using hi
      obtain ⟨h1, _, _⟩ := hT i hi
      obtain ⟨u0, hu0, _⟩ := h1 0 hk0
      have hsp : a.spot = none := by
        obtain ⟨h2, _, _⟩ := hT 0 (by omega)
        obtain ⟨u1, hu1, _⟩ := h2 0 hk0
        rw [show (0 * k + 0) = 0 by omega, show a.add 0 = a from rfl] at hu1
        unfold World.cell? at hu1
        split at hu1
        · split at hu1
          · cases hu1
          · rename_i hne; simpa using hne
        · cases hu1
      obtain ⟨ab, ao, asp⟩ := a
      simp only at hsp
      subst hsp
      have hadd : ∀ n, (⟨ab, ao, none⟩ : Addr).add n = ⟨ab, ao + n, none⟩ := fun n => by
        unfold Addr.add
        split
        · rename_i h0; rw [h0]; rfl
        · rfl
      refine ⟨ab, ao, rfl, ?_, fun j hj => ?_⟩
      · rw [hadd] at hu0
        exact World.block_lt_of_cell? _ _ hu0
      · obtain ⟨u, hu, hr⟩ := h1 j hj
        rw [hadd] at hu
        refine ⟨u, by rw [Nat.add_assoc]; exact hu, ?_⟩
        simpa [hi] using hr
    · obtain ⟨i, hi, rfl⟩ := List.mem_map.1 hy
      exact (hT i (List.mem_range.1 hi)).2.1
    · rw [hbk]
      have hsum : ∀ (l : List Nat), (∀ i ∈ l, i < len) → ((l.map T).map sz).sum ≤ Rows.uptoBulkAll (l.map D) := by
        intro l
        induction l with
        | nil => intro _; simp
        | cons i l ihl =>
          intro hl
          have h1 := (hT i (hl i (List.mem_cons_self ..))).2.2
          have h2 := ihl fun j hj => hl j (List.mem_cons_of_mem _ hj)
          simp only [List.map_cons, List.sum_cons, Rows.uptoBulkAll]
          omega
      have := hsum (List.range len) fun i hi => List.mem_range.1 hi
      omega
    · have := bulk_lenAll ((List.range len).map D)
      simp at this ⊢
      rw [hbk]; omega
end
instance : Inhabited Ty := ⟨.any⟩
mutual
def Ty.size : Ty → Nat
  | .mk _ l => 1 + sizeL l
def sizeL : List Ty → Nat
  | [] => 0
  | t :: l => Ty.size t + sizeL l
end
theorem sizeL_sum : ∀ l : List Ty, sizeL l = (l.map Ty.size).sum
  | [] => rfl
  | a :: l => by simp [sizeL, sizeL_sum l]
theorem struct_Type : ∃ f0 f1 : Field, Try.prog.underlying 25 = some (.struct #[f0, f1]) ∧ f0.type = 3 ∧ f0.offset = 0 ∧ f1.type = 23 ∧ f1.offset = 1 := ⟨_, _, Try.underlying25, rfl, rfl, rfl, rfl⟩
theorem cells_int : Try.prog.cellsOf 3 = 1 := by kernel_rfl
theorem cells_types : Try.prog.cellsOf 23 = 1 := by kernel_rfl
theorem cells_Type : Try.prog.cellsOf 25 = 2 := by kernel_rfl
section
variable {H : Type} {enc : TypeId × Value → H} {w : World} {sp : Nat → Bool} {held : Bool}
/-- What reads as a type is one. -/
theorem trod_Ty : ∀ (N fuel : Nat) (cs : List Value) (d : DataW H) (ps : List MemPlace), Rows.uptoBulk d ≤ N → N ≤ 1048576 → DataW.trod enc Try.prog w 0 sp held fuel 25 cs = some (d, ps) →
    ∃ t : Ty, All2 (relK (Old w) w) t.c cs ∧ Thin t ∧ t.size ≤ Rows.uptoBulk d := by
  intro N
  induction N with
  | zero => intro fuel cs d ps hN; have := bulk_pos d; omega
  | succ N ih =>
    intro fuel cs d ps hN hmax h
    obtain ⟨f0, f1, hu, t0, o0, t1, o1⟩ := struct_Type
    obtain ⟨y0, y1, n, hx, hlen, h0, h1⟩ := trod_struct2 hu h
    simp only [Prod.mk.injEq] at hx
    obtain ⟨rfl, rfl⟩ := hx
    rw [cells_Type] at hlen
    obtain ⟨c0, c1, rfl⟩ := len2 hlen
    rw [t0, o0, cells_int] at h0
    rw [t1, o1, cells_types] at h1
    simp only [List.drop_zero, List.take_succ_cons, List.take_zero, List.drop_succ_cons] at h0 h1
    obtain ⟨k, hk, hy0, _⟩ := DataW.trod_int Try.underlying3 h0
    obtain rfl : c0 = .int .i64 k := by simpa using hk
    have hb : Rows.uptoBulk (DataW.agg [y0.1, y1.1]) = Rows.uptoBulk y1.1 + 2 := by rw [hy0]; simp [Rows.uptoBulk, Rows.uptoBulkAll]; omega
    rw [hb] at hN
    obtain ⟨l, v, hv, hr, hG, hs, hl⟩ := open_rows (α := Ty) Ty.c Ty.size Thin Try.underlying23 cells_Type (by decide) (fun y => rfl) h1 (by omega) (fun n cs' d' ps' hd h => by
      obtain ⟨t, h1, h2, h3⟩ := ih n cs' d' ps' (by omega) (by omega) h
      exact ⟨t, h1, h2, h3⟩)
    obtain rfl : c1 = v := by simpa using hv
    refine ⟨.mk k l, ⟨rfl, ?_, trivial⟩, .mk k l (by omega) hG, ?_⟩
    · show relK (Old w) w (slOf 2 (tyRows l)) c1
      rw [tyRows_map]; exact hr
    · simp only [Ty.size, sizeL_sum]; omega
end
end Go.Proofs.Ytnflnbdlgdjfmaa
namespace Go.Proofs.Ytnflnbdlgdjfmaa
open Go.ChangeShapes Go.WideShapes Go.ChangeAt Go.RowKit Go.Joins Go.Deep
set_option linter.unusedVariables false
set_option linter.unusedSimpArgs false
def ρ0 : Nat → Lc := fun _ => ⟨none, 0, 0⟩
/-- What the listed variables give. -/
structure GlobIn (W : World) : Prop where
  gl : ∀ g c, glob g = some c → relK (Old W) W c (.pointer (some ⟨g, 0, none⟩))
  gx : ∀ g p, globX g = some p → ∃ cs t fz, p cs ∧ W.heap[g]? = some (.cells cs t fz)
theorem hrel_old {W : World} (hg : GlobIn W) : HRel (Old W) ρ0 (ofL []) W :=
  ⟨fun b x h => (by cases h), fun b b' g h => absurd rfl h, fun b g h => absurd rfl h, fun k h => h, fun b x h => (by cases h), hg.gl, fun g p h => by
    obtain ⟨cs, t, fz, hp, hh⟩ := hg.gx g p h
    exact ⟨(Array.getElem?_eq_some_iff.1 hh).1, cs, t, fz, hp, hh⟩⟩
/-- A law that answers true, as its row asks for it. -/
theorem law_calls {f : FuncId} {us : List U} {vals : List Value} {W : World} (hc : ACalls Try.prog f us [] (.one (.bool true)) []) (hg : GlobIn W) (ha : All2 (fun u v => relU (Old W) ρ0 W u v ∧ okU (ofL []) u) us vals) :
    Calls Try.prog f vals.toArray W fun e W' => e = .returned (.bool true) ∧ Below W.heap.size W W' := by
  refine (hc.2 (Old W) ρ0 W vals (hrel_old hg) ha).mono fun e W' ⟨v, F', ρ', he, hM, hr, _⟩ => ?_
  have hr : v = .bool true := hr
  subst hr
  exact ⟨he, hM.os, hM.tape, hM.output, hM.size, fun k hk => hM.kept k hk fun b hb => absurd rfl hb⟩
theorem ok_Ty (t : Ty) : okU (ofL []) t.u := okU_of (u := t.u) ⟨trivial, trivial, trivial⟩
theorem deep_size : ∀ a : Ty, a.deep ≤ a.size := Ty.ind fun k l ih => by
  rw [deep_eta]
  simp only [Ty.l_mk, Ty.size]
  have : ∀ m : List Ty, (∀ t ∈ m, t.deep ≤ t.size) → deepL m ≤ sizeL m := by
    intro m
    induction m with
    | nil => intro _; simp [deepL]
    | cons b m ihm =>
      intro h
      have h1 := h b (by simp)
      have h2 := ihm fun t ht => h t (by simp [ht])
      simp only [deepL, sizeL]
      omega
  have := this l ih
  omega
set_option maxRecDepth 100000 in
/-- A type that comes in. -/
theorem open_Ty {H : Type} {enc : TypeId × Value → H} {W : World} {r : Reach} {b0 : Nat} {v : Value} {d : DataW H} {p : List MemPlace} (hv : Value.okWide Try.prog W r b0 25 v)
    (h : DataW.Trod enc Try.prog W 0 (fun _ => true) true 25 v d p) (hb : Rows.uptoBulk d ≤ 1048576) : ∃ t : Ty, relU (Old W) ρ0 W t.u v ∧ Thin t ∧ t.deep ≤ 1048576 := by
  obtain ⟨f0, f1, hu, _⟩ := struct_Type
  obtain ⟨cs, rfl, hsz⟩ := okWide_struct hu hv
  obtain ⟨fuel, hf⟩ := h
  obtain ⟨t, ht, hok, hn⟩ := trod_Ty 1048576 fuel _ d p hb (Nat.le_refl _) hf
  simp only [Value.cells] at ht
  have := deep_size t
  refine ⟨t, ⟨cs.toList, by simp, ?_⟩, hok, by omega⟩
  exact ht.mono fun c _ v h => relC_relK h
theorem laidOutP : laidOutB Try.prog = true := by kernel_rfl
theorem readable_Type : Try.prog.readableRec 25 = true := by kernel_rfl
theorem rowed_Type : 25 < Try.prog.types.size := of_decide_eq_true (by kernel_rfl)
/-- It reads behind the call as it did. -/
theorem again_Ty {H : Type} {enc : TypeId × Value → H} {W W' : World} {v : Value} {d : DataW H} {p : List MemPlace} (hx : Below W.heap.size W W') (h : DataW.Trod enc Try.prog W 0 (fun _ => true) true 25 v d p) (hlt : ∀ x ∈ p, x.block < W.heap.size) :
    DataW.Trod enc Try.prog W' 0 (fun b => decide (b < W.heap.size)) true 25 v d p := Below.trod laidOutP readable_Type rowed_Type h hx hlt
theorem glob_none {W : World} : GlobIn W := ⟨fun g c h => (by cases h), fun g p h => (by cases h)⟩
/-- What a law's row asks behind the call, where nothing that was there has turned. -/
theorem law_post {H : Type} {enc : TypeId × Value → H} {f : Func} {s : ChangeSpec} {W W' : World} {args : Array Value} {ds : List (DataW H)} {before pa : List MemPlace}
    (hW : DataW.Whole enc Try.prog f.params.toList s.vars false W args.toList ds [] before) (hvars : s.vars = []) (hr : f.resultTypes = #[4]) (hs : s.fn H (ds ++ []) = { results := [.lit (.bool true)], args := ds })
    (hx : Below W.heap.size W W') (hargs : DataW.TrodAll enc Try.prog W' 0 (fun b => decide (b < W.heap.size)) true f.params.toList args.toList ds pa) :
    s.post enc Try.prog f false true false false W args (.bool true) W' := by
  refine ⟨ds, [], before, [], pa, [], hW, ?_, by rw [hs]; exact hargs, ?_, Below.frame hx _, fun h => by cases h⟩
  · rw [hs, hr]
    exact trodAll_cons_mk (shut_bool Try.underlying4 _) trodAll_mk0
  · rw [hvars, hs]
    rfl
theorem own : ownKnob Try.prog.godebug = none := by kernel_rfl
end Go.Proofs.Ytnflnbdlgdjfmaa
