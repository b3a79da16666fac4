/-
  An argument that is a type lies in memory as a tree, no larger than what is read of it; what a law's row asks behind the call. Conditions: those typed in each theorem.
-/
import Derived.Test.YtnflnbdlgdjfmaaKindS
import Derived.Test.YtnflnbdlgdjfmaaRows
import Derived.ProofKit
import Derived.OpenShut
import Derived.Lib.SmallJoins
import Derived.Deep.Slices
namespace Go.Proofs.Ytnflnbdlgdjfmaa
open Go.ChangeShapes Go.WideShapes Go.ChangeAt Go.RowKit Go.Joins Go.Deep
set_option linter.unusedVariables false
set_option linter.unusedSimpArgs false

mutual
def Ty.size : Ty → Nat
  | .mk _ l => 1 + sizeL l
def sizeL : List Ty → Nat
  | [] => 0
  | t :: l => Ty.size t + sizeL l
end
theorem size_pos (t : Ty) : 1 ≤ t.size := by cases t; simp [Ty.size]
theorem length_sizeL : ∀ l : List Ty, l.length ≤ sizeL l
  | [] => by simp [sizeL]
  | t :: l => by have := size_pos t; have := length_sizeL l; simp [sizeL]; omega
theorem mem_sizeL : ∀ {l : List Ty} {t : Ty}, t ∈ l → t.size ≤ sizeL l
  | u :: l, t, h => by
    rcases List.mem_cons.1 h with rfl | h
    · simp [sizeL]
    · have := mem_sizeL h; simp [sizeL]; omega
theorem thin_of_size : ∀ (t : Ty), t.size ≤ 1048576 → Thin t := by
  intro t
  induction t using Ty.ind with
  | h k l ih =>
    intro h
    simp [Ty.size] at h
    have := length_sizeL l
    exact .mk k l (by omega) fun t ht => ih t ht (by have := mem_sizeL ht; omega)

theorem bulkAll_append {H : Type} (l r : List (DataW H)) : Rows.uptoBulkAll (l ++ r) = Rows.uptoBulkAll l + Rows.uptoBulkAll r := by
  induction l with
  | nil => simp [Rows.uptoBulkAll]
  | cons x l ih => simp only [List.cons_append, Rows.uptoBulkAll, ih]; omega
theorem bulk_mem {H : Type} {d : DataW H} {l : List (DataW H)} (h : d ∈ l) : Rows.uptoBulk d ≤ Rows.uptoBulkAll l := by
  induction l with
  | nil => cases h
  | cons x r ih =>
    simp only [Rows.uptoBulkAll]
    cases List.mem_cons.1 h with
    | inl e => subst e; omega
    | inr e => have := ih e; omega

theorem mapM_two {α β : Type} {f : α → Option β} {a b : α} {l : List β} (h : [a, b].mapM f = some l) : ∃ x y, f a = some x ∧ f b = some y ∧ l = [x, y] := by
  simp only [List.mapM_cons, List.mapM_nil] at h
  cases ha : f a with
  | none => rw [ha] at h; simp at h
  | some x =>
    cases hb : f b with
    | none => rw [ha, hb] at h; simp at h
    | some y => rw [ha, hb] at h; simp at h; exact ⟨x, y, rfl, rfl, h.symm⟩

/-- Two cells at an address. -/
theorem cells_two {w : World} {base : Nat} {a : Addr} {cs : List Value} (h : w.cells? base a 2 = some cs) : ∃ x y, cs = [x, y] ∧ a.spot = none ∧ w.cell? ⟨a.block, a.off, none⟩ = some x ∧ w.cell? ⟨a.block, a.off + 1, none⟩ = some y := by
  unfold World.cells? at h
  split at h
  · obtain ⟨x, y, hx, hy, e⟩ := mapM_two (a := 0) (b := 1) h
    have hs : a.spot = none := by
      rw [show a.add 0 = a from rfl] at hx
      unfold World.cell? at hx
      split at hx
      · split at hx
        · cases hx
        · rename_i hne; simpa using hne
      · cases hx
    refine ⟨x, y, e, hs, ?_, ?_⟩
    · rw [← hx]; obtain ⟨b, o, s⟩ := a; simp only at hs; subst hs; rfl
    · rw [← hy]; rfl
  · cases h

section
variable {H : Type} {enc : TypeId × Value → H} {w : World} {sp : Nat → Bool} {held : Bool}

theorem fields_Type : ∃ f0 f1 : Field, Try.prog.underlying 25 = some (.struct #[f0, f1]) ∧ f0.type = 3 ∧ f0.offset = 0 ∧ f1.type = 23 ∧ f1.offset = 1 := ⟨_, _, Try.underlying25, rfl, rfl, rfl, rfl⟩
theorem cells_int : Try.prog.cellsOf 3 = 1 := by kernel_rfl
theorem cells_types : Try.prog.cellsOf 23 = 1 := by kernel_rfl
theorem cells_Type : Try.prog.cellsOf 25 = 2 := by kernel_rfl

/-- What reads as a type is one. -/
theorem trod_Ty : ∀ (N fuel : Nat) (cs : List Value) (d : DataW H) (ps : List MemPlace), Rows.uptoBulk d ≤ N → DataW.trod enc Try.prog w 0 sp held fuel 25 cs = some (d, ps) →
    ∃ (t : Ty) (s : Value), cs = [.int .i64 t.k, s] ∧ TyL All w t.l s ∧ t.size ≤ Rows.uptoBulk d := by
  intro N
  induction N with
  | zero =>
    intro fuel cs d ps hN h
    obtain ⟨f0, f1, hu, _⟩ := fields_Type
    obtain ⟨y0, y1, n, hx, _⟩ := trod_struct2 hu h
    simp only [Prod.mk.injEq] at hx
    rw [hx.1] at hN
    simp [Rows.uptoBulk] at hN
  | succ N ih =>
    intro fuel cs d ps hN h
    obtain ⟨f0, f1, hu, t0, o0, t1, o1⟩ := fields_Type
    obtain ⟨y0, y1, n, hx, hlen, h0, h1⟩ := trod_struct2 hu h
    simp only [Prod.mk.injEq] at hx
    obtain ⟨rfl, rfl⟩ := hx
    rw [cells_Type] at hlen
    obtain ⟨c0, c1, rfl⟩ : ∃ c0 c1, cs = [c0, c1] := by
      match cs, hlen with
      | [c0, c1], _ => exact ⟨c0, c1, rfl⟩
    rw [t0, o0, cells_int] at h0
    rw [t1, o1, cells_types] at h1
    simp only [List.drop_zero, List.take_succ_cons, List.take_zero, List.drop_succ_cons] at h0 h1
    obtain ⟨k, hk, hy0, _⟩ := DataW.trod_int Try.underlying3 h0
    obtain rfl : c0 = .int .i64 k := by simpa using hk
    rcases open_slice Try.underlying23 h1 with ⟨hc, hy1⟩ | ⟨a, len, cap, m, n', D, Pl, hc, _, hle, hcap, hm, hy1, hel⟩
    · obtain rfl : c1 = .slice none 0 0 := by simpa using hc
      exact ⟨.mk k [], _, rfl, TyL.nil _ _, by rw [hy0, hy1]; simp [Ty.size, sizeL, Rows.uptoBulk, Rows.uptoBulkAll]⟩
    · obtain rfl : c1 = .slice (some a) len cap := by simpa using hc
      have hlm : len ≤ m := by rw [hm]; split <;> omega
      have hb : Rows.uptoBulk (DataW.agg [y0.1, y1.1]) = 1 + (Rows.uptoBulkAll ((List.range len).map D) + Rows.uptoBulkAll ((List.range (m - len)).map fun j => D (len + j)) + 1) + 1 := by
        rw [hy0, hy1]; simp [Rows.uptoBulk, Rows.uptoBulkAll]
      have part : ∀ i, ∃ t : Ty, i < len → ∃ s, w.cell? ⟨a.block, a.off + i * 2, none⟩ = some (.int .i64 t.k) ∧ w.cell? ⟨a.block, a.off + i * 2 + 1, none⟩ = some s ∧ TyL All w t.l s ∧ t.size ≤ Rows.uptoBulk (D i) ∧ a.spot = none := by
        intro i
        by_cases hi : i < len
        · obtain ⟨cs', hcs, hd⟩ := hel i (by omega)
          rw [cells_Type] at hcs
          have hDi : Rows.uptoBulk (D i) ≤ N := by
            have := bulk_mem (d := D i) (l := (List.range len).map D) (List.mem_map.2 ⟨i, List.mem_range.2 hi, rfl⟩)
            rw [hb] at hN
            omega
          obtain ⟨t, s, rfl, hs, hsz⟩ := ih n' cs' (D i) (Pl i) hDi hd
          obtain ⟨x, y, he, _, hx, hy⟩ := cells_two hcs
          obtain ⟨x0, y0', _, hsp, _⟩ : ∃ x y, True ∧ a.spot = none ∧ True := by
            obtain ⟨cs0, hcs0, _⟩ := hel 0 (by omega)
            rw [cells_Type] at hcs0
            obtain ⟨x, y, _, hsp, _⟩ := cells_two hcs0
            exact ⟨x, y, trivial, by simpa [Addr.add] using hsp, trivial⟩
          simp only [List.cons.injEq, and_true] at he
          obtain ⟨rfl, rfl⟩ := he
          have hadd : (a.add (i * 2)).block = a.block ∧ (a.add (i * 2)).off = a.off + i * 2 := by unfold Addr.add; split <;> simp_all
          rw [hadd.1, hadd.2] at hx hy
          exact ⟨t, fun _ => ⟨s, hx, hy, hs, hsz, hsp⟩⟩
        · exact ⟨.mk 0 [], fun h => absurd h hi⟩
      obtain ⟨T, hT⟩ := Classical.axiomOfChoice part
      refine ⟨.mk k ((List.range len).map T), _, rfl, ?_, ?_⟩
      · simp only [Ty.l_mk]
        by_cases hz : len = 0
        · subst hz
          exact .mk [] (some a) cap (fun _ => undef) (by simp [maxLen]) (fun i hi => absurd hi (Nat.not_lt_zero _)) fun i hi => absurd hi (Nat.not_lt_zero _)
        · obtain ⟨_, _, _, _, _, hsp⟩ := hT 0 (by omega)
          obtain ⟨ab, ao, asp⟩ := a
          simp only at hsp
          subst hsp
          refine TyL.of_cells (by simp) (by omega) trivial fun i hi => ?_
          have hi' : i < len := by simpa using hi
          obtain ⟨s, h1, h2, h3, _⟩ := hT i hi'
          exact ⟨s, by simpa using h1, by simpa using h2, by simpa using h3⟩
      · rw [hb]
        have hsum : ∀ (l : List Nat), (∀ i ∈ l, i < len) → sizeL (l.map T) ≤ Rows.uptoBulkAll (l.map D) := by
          intro l
          induction l with
          | nil => intro _; simp [sizeL]
          | cons i l ihl =>
            intro hl
            obtain ⟨_, _, _, _, hsz, _⟩ := hT i (hl i (List.mem_cons_self ..))
            have := ihl fun j hj => hl j (List.mem_cons_of_mem _ hj)
            simp only [List.map_cons, sizeL, Rows.uptoBulkAll]
            omega
        have := hsum (List.range len) fun i hi => List.mem_range.1 hi
        simp only [Ty.size]
        omega
end

/-- A type that comes in. -/
theorem open_Ty {H : Type} {enc : TypeId × Value → H} {W : World} {r : Reach} {b0 : Nat} {v : Value} {d : DataW H} {p : List MemPlace} (hv : Value.okWide Try.prog W r b0 25 v)
    (h : DataW.Trod enc Try.prog W 0 (fun _ => true) true 25 v d p) : ∃ t, TyV All W t v ∧ t.size ≤ Rows.uptoBulk d := by
  obtain ⟨f0, f1, hu, _⟩ := fields_Type
  obtain ⟨cs, rfl, hsz⟩ := okWide_struct hu hv
  obtain ⟨fuel, hf⟩ := h
  obtain ⟨t, s, hc, hs, hb⟩ := trod_Ty _ fuel _ d p (Nat.le_refl _) hf
  refine ⟨t, ⟨s, ?_, hs⟩, hb⟩
  simp only [Value.cells] at hc
  congr 1
  exact Array.ext' (by simpa using hc)

/-- What a law's row asks behind the call, where nothing that was there has turned. -/
theorem law_post {H : Type} {enc : TypeId × Value → H} {f : Func} {s : ChangeSpec} {W W' : World} {args : Array Value} {ds : List (DataW H)} {before pa : List MemPlace}
    (hW : DataW.Whole enc Try.prog f.params.toList s.vars false W args.toList ds [] before) (hvars : s.vars = []) (hr : f.resultTypes = #[4]) (hs : s.fn H (ds ++ []) = { results := [.lit (.bool true)], args := ds })
    (hx : Ext W W') (hargs : DataW.TrodAll enc Try.prog W' 0 (fun b => decide (b < W.heap.size)) true f.params.toList args.toList ds pa) :
    s.post enc Try.prog f false true false false W args (.bool true) W' := by
  refine ⟨ds, [], before, [], pa, [], hW, ?_, by rw [hs]; exact hargs, ?_, Below.frame hx _, fun h => by cases h⟩
  · rw [hs, hr]
    exact trodAll_cons_mk (shut_bool Try.underlying4 _) trodAll_mk0
  · rw [hvars, hs]
    rfl
theorem laidOutP : laidOutB Try.prog = true := by kernel_rfl
theorem readable_Type : Try.prog.readableRec 25 = true := by kernel_rfl
theorem rowed_Type : 25 < Try.prog.types.size := of_decide_eq_true (by kernel_rfl)
/-- A type reads behind the call as it did. -/
theorem again_Ty {H : Type} {enc : TypeId × Value → H} {W W' : World} {v : Value} {d : DataW H} {p : List MemPlace} (hx : Ext W W') (h : DataW.Trod enc Try.prog W 0 (fun _ => true) true 25 v d p) (hlt : ∀ x ∈ p, x.block < W.heap.size) :
    DataW.Trod enc Try.prog W' 0 (fun b => decide (b < W.heap.size)) true 25 v d p := Below.trod laidOutP readable_Type rowed_Type h hx hlt
end Go.Proofs.Ytnflnbdlgdjfmaa
