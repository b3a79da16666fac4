/-
  What single operations do, kind by kind (6): literals of slices, make, append. Conditions: those typed in each theorem.
-/
import Derived.Test.YtnflnbdlgdjfmaaDoorOp5
namespace Go.Proofs.YtnflnbdlgdjfmaaDoor
open Go.RowKit
set_option linter.unusedVariables false
set_option linter.unusedSimpArgs false

/-- Elements one behind the other, from place m on. -/
theorem fill_rows (k : Nat) : ∀ (vs : List Value) (m : Nat) (cs : Array Value), (∀ v ∈ vs, v.cells.toList.length = k) → (m + vs.length) * k ≤ cs.size →
    ∃ cs', Instr.fill (fun i => some (i * k, k)) cs ((vs.zipIdx m).map fun x => (x.2, x.1)) = some cs' ∧ cs'.size = cs.size ∧ (∀ q, q < m * k → cs'[q]? = cs[q]?) ∧
      ∀ (i : Nat) v, vs[i]? = some v → ∀ j, j < k → cs'[(m + i) * k + j]? = v.cells.toList[j]?
  | [], m, cs, _, _ => ⟨cs, rfl, rfl, fun _ _ => rfl, fun i v h => by simp at h⟩
  | v :: vs, m, cs, hk, hsz => by
    have hv := hk v (List.mem_cons_self ..)
    obtain ⟨f1, f2⟩ := fill_cells (m * k) v cs
    have hlen : (m + (v :: vs).length) * k = m * k + (k + vs.length * k) := by rw [List.length_cons, ← Nat.add_assoc, Nat.add_mul, Nat.add_mul, Nat.one_mul]; omega
    rw [hlen] at hsz
    obtain ⟨cs', g1, g2, g3, g4⟩ := fill_rows k vs (m + 1) (v.cells.zipIdx.foldl (fun cs (x : Value × Nat) => cs.setIfInBounds (m * k + x.2) x.1) cs) (fun u hu => hk u (List.mem_cons_of_mem _ hu)) (by rw [f1, Nat.add_mul, Nat.add_mul, Nat.one_mul]; omega)
    refine ⟨cs', ?_, g2.trans f1, fun q hq => ?_, fun i u hu j hj => ?_⟩
    · rw [List.zipIdx_cons, List.map_cons]
      unfold Instr.fill
      simp only
      have hvs : v.cells.size = k := by rw [← hv]; simp
      rw [if_neg (by simp [hvs]; omega)]
      exact g1
    · rw [g3 q (by rw [Nat.add_mul]; omega), f2 q, if_neg (by omega)]
    · cases i with
      | zero =>
        simp only [List.getElem?_cons_zero, Option.some.injEq] at hu
        subst hu
        rw [Nat.add_zero, g3 (m * k + j) (by rw [Nat.add_mul, Nat.one_mul]; omega), f2 (m * k + j), if_pos ⟨by omega, by omega, by omega⟩, show m * k + j - m * k = j by omega]
      | succ i =>
        rw [show m + (i + 1) = m + 1 + i by omega]
        exact g4 i u (by simpa using hu) j hj

/-- The values' cells. -/
def rowsU : List U → Option (List (List C))
  | [] => some []
  | u :: us => match cellsU u, rowsU us with | some l, some r => some (l :: r) | _, _ => none
theorem rowsU_get : ∀ {us : List U} {rows : List (List C)}, rowsU us = some rows → rows.length = us.length ∧ ∀ (i : Nat) u, us[i]? = some u → ∃ l, rows[i]? = some l ∧ cellsU u = some l
  | [], _, h => by cases h; exact ⟨rfl, fun i u h => by simp at h⟩
  | u :: us, rows, h => by
    unfold rowsU at h
    split at h
    · rename_i l r hl hr
      cases h
      obtain ⟨h1, h2⟩ := rowsU_get hr
      refine ⟨by simp [h1], fun i u' hu => ?_⟩
      cases i with
      | zero => simp at hu; subst hu; exact ⟨l, rfl, hl⟩
      | succ i => simpa using h2 i u' (by simpa using hu)
    · cases h

/-- Without names. -/
def closedC : C → Bool
  | .ptr _ _ | .eptr _ _ _ _ _ | .own _ _ _ => false
  | _ => true
def closedRow : List C → Bool
  | [] => true
  | c :: l => closedC c && closedRow l
def closedRows : List (List C) → Bool
  | [] => true
  | r :: l => closedRow r && closedRows l
theorem closedRow_mem : ∀ {r : List C} {c : C}, closedRow r = true → c ∈ r → closedC c = true
  | a :: l, c, h, hc => by
    simp only [closedRow, Bool.and_eq_true] at h
    rcases List.mem_cons.1 hc with rfl | hc
    · exact h.1
    · exact closedRow_mem h.2 hc
theorem closedRows_mem : ∀ {rs : List (List C)} {r : List C} {c : C}, closedRows rs = true → r ∈ rs → c ∈ r → closedC c = true
  | a :: l, r, c, h, hr, hc => by
    simp only [closedRows, Bool.and_eq_true] at h
    rcases List.mem_cons.1 hr with rfl | hr
    · exact closedRow_mem h.1 hc
    · exact closedRows_mem h.2 hr hc
theorem closed_relK {F : Nat → Prop} {ρ : Nat → Lc} {w : World} {c : C} {v : Value} (hc : closedC c = true) (hr : relC F ρ w c v) : relK F w c v := by
  cases c <;> first | exact hr | cases hc
section ops
variable {P : Program} {s : St} {dst : Option Tmp} {rt : TypeId} {pos : String} {after : Array Edge} {guard : Option (Nat × Bool)}

theorem loc_buildSlice {t e : TypeId} {len k bytes : Nat} {xs : List Operand} {parts : Array (Nat × Operand)} {us : List U} {rows : List (List C)} [T : TElem P t e k bytes] (hparts : parts.toList = (xs.zipIdx 0).map fun x => (x.2, x.1)) (hlen : xs.length = len) (h0 : 0 < len) (hsmall : len * k ≤ 16777216)
    (hus : xs.map (opU s.t) = us) (hrows : rowsU us = some rows) (hk : ∀ l ∈ rows, l.length = k) (hcl : closedRows rows = true) :
    LocOp P ⟨dst, .buildSlice t len parts, rt, pos, after, guard⟩ s [] [] (.one (slFOf k rows)) := by
  intro F ρ h w a Q H _ hx
  have hx := opU_rel H hx
  obtain ⟨i, z, t1, t2, t3, t4, t5, t6, t7⟩ := T.spec
  obtain ⟨r1, r2⟩ := rowsU_get hrows
  have hmem : ∀ x ∈ xs, x ∈ (⟨dst, .buildSlice t len parts, rt, pos, after, guard⟩ : Oper).op.operands := fun x hxm => by
    obtain ⟨j, hj, hje⟩ := List.getElem_of_mem hxm
    have h1 : (j, x) ∈ parts.toList := by
      rw [hparts]
      refine List.mem_map.2 ⟨(x, j), ?_, rfl⟩
      rw [List.mem_zipIdx_iff_getElem?]
      simp [hj, hje]
    show x ∈ ((parts.toList.map (·.2)).toArray : Array Operand)
    rw [List.mem_toArray]
    exact List.mem_map.2 ⟨(j, x), h1, rfl⟩
  have hval : ∀ (j : Nat) x, xs[j]? = some x → ∃ l, rows[j]? = some l ∧ All2 (relC F ρ w) l (a.eval x).cells.toList ∧ (∀ c ∈ l, okC h c) ∧ l.length = k := fun j x hjx => by
    have hu : us[j]? = some (opU s.t x) := by rw [← hus]; simp [hjx]
    obtain ⟨l, h1, h2⟩ := r2 j _ hu
    have hr := hx x (hmem x (List.mem_of_getElem? hjx))
    obtain ⟨vs, hvs, hall, hokl⟩ := cellsU_rel h2 hr.1 hr.2
    exact ⟨l, h1, by rw [hvs]; exact hall, hokl, hk l (List.mem_of_getElem? h1)⟩
  let vs := xs.map a.eval
  have hvk : ∀ v ∈ vs, v.cells.toList.length = k := fun v hv => by
    obtain ⟨x, hxm, rfl⟩ := List.mem_map.1 hv
    obtain ⟨j, hj, hje⟩ := List.getElem_of_mem hxm
    obtain ⟨l, _, h2, _, h3⟩ := hval j x (by rw [List.getElem?_eq_getElem hj, hje])
    rw [← h2.length, h3]
  have hlk : len * i.size = len * k := by rw [t3]
  obtain ⟨cs', g1, g2, _, g4⟩ := fill_rows k vs 0 ((Array.range (len * i.size)).map (z.cells[· % z.cells.size]!)) hvk (by simp [vs, hlen, hlk])
  have hpv : (parts.map fun p => (p.1, a.eval p.2)).toList = (vs.zipIdx 0).map fun x => (x.2, x.1) := by
    rw [Array.toList_map, hparts, List.map_map, List.zipIdx_map, List.map_map]
    rfl
  have hrun := run_buildSlice (P := P) w t e len (parts.map fun p => (p.1, a.eval p.2)) cs' i z t1 t2 t6 (by rw [hlk]; omega) (by rw [hlk]; have := Nat.mul_pos h0 t5; omega) (by rw [hpv, t3]; rw [t3] at g1; exact g1)
  have hexec : (execOp a.eval (⟨dst, .buildSlice t len parts, rt, pos, after, guard⟩ : Oper)).run P w = .ok (.value (.slice (some ⟨w.heap.size, 0, none⟩) len len)) (w.alloc (.cells cs' e)) := by
    show (do pure (Next.value (← Instr.buildSlice t len (parts.map fun p => (p.1, a.eval p.2)))) : Sem Next).run P w = _
    rw [Sem.run_bind, hrun]
    rfl
  unfold Oper.wp
  rw [hexec]
  have hsz : (w.alloc (Obj.cells cs' e)).heap.size = w.heap.size + 1 := by simp
  have hrl : rows.length = len := by rw [r1, ← hus, List.length_map, hlen]
  have hblk : (w.alloc (Obj.cells cs' e)).heap[w.heap.size]? = some (.cells cs' e) := heap_alloc_new w _
  have hM : Moves s.d F ρ h w (fun b => F b ∨ b = w.heap.size) ρ h (w.alloc (Obj.cells cs' e)) := moves_quiet H ((Below.refl _ _).alloc (Nat.le_refl _) _) (fun _ h => .inl h) (fun b hb => hb.imp id fun e => Nat.le_of_eq e.symm) (fun b hb => by
    rw [hsz]
    rcases hb with h1 | h1
    · exact Nat.lt_succ_of_lt (H.lt b h1)
    · rw [h1]; exact Nat.lt_succ_self _)
  refine ⟨_, (fun b => F b ∨ b = w.heap.size), ρ, rfl, hM, ⟨some ⟨w.heap.size, 0, none⟩, by rw [hrl], by rw [hrl]; have : len ≤ len * k := Nat.le_mul_of_pos_right _ t5; unfold maxLen; omega, fun q hq => ⟨w.heap.size, 0, rfl, .inr rfl, fun j hj => ?_⟩⟩, trivial⟩
  rw [hrl] at hq
  have hxq : xs[q]? = some xs[q] := by simp [hlen, hq]
  obtain ⟨l, h1, h2, h3, h4⟩ := hval q _ hxq
  have hcell := g4 q (a.eval xs[q]) (by simp [vs, hlen, hq]) j hj
  obtain ⟨u, hu, hru⟩ := h2.get j l[j] (by simp [h4, hj])
  refine ⟨u, ?_, ?_⟩
  · rw [Nat.zero_add] at hcell ⊢
    simp only [World.cell?, hblk]
    simpa [hcell] using hu
  · show relK _ _ (rowF (rows.getD q []) j) u
    rw [List.getD_eq_getElem?_getD, h1]
    have hj2 : j < l.length := by rw [h4]; exact hj
    have hcj : rowF l j = l[j] := by simp [rowF, hj2]
    rw [Option.getD_some, hcj]
    exact relK_mono (w := w) (fun _ h => .inl h) (fun b hb => hM.same b hb) (closed_relK (closedRows_mem hcl (List.mem_of_getElem? h1) (List.getElem_mem hj2)) hru)

theorem loc_makeSlice {t e : TypeId} {k bytes n : Nat} {x y : Operand} {ik jk : IntKind} {m m' : Int} {zero : List C} (nm : Nat) [T : TElem P t e k bytes] [Z : TZero P e zero] (hx' : opU s.t x = .one (.int ik m)) (hy' : opU s.t y = .one (.int jk m')) (hm : m = (n : Nat)) (hm' : m' = (n : Nat))
    (hn : s.h nm = none) (hd : (s.d.contains nm) = false) (hb : bytes * n ≤ 281474976710656) (hmax : n ≤ maxLen) :
    LocOp P ⟨dst, .makeSlice t x y, rt, pos, after, guard⟩ s [] [(nm, some (.row e k 0 (List.replicate n zero)))] (.one (.own nm 0 n)) := by
  intro F ρ h w a Q H hR hx
  have hn : h nm = none := (hR nm (.inr (by simp [namesP]))).trans hn
  have hx := opU_rel H hx
  have h1 := (hx x (by simp [Op.operands])).1
  have h2 := (hx y (by simp [Op.operands])).1
  rw [hx'] at h1
  rw [hy'] at h2
  have h1 : a.eval x = .int ik m := h1
  have h2 : a.eval y = .int jk m' := h2
  subst hm
  subst hm'
  obtain ⟨i, z, t1, t2, t3, t4, t5, t6, t7⟩ := T.spec
  obtain ⟨vs, hz, hr⟩ := Z.ok
  have hzc : z.cells.toList = vs := by simpa [zeroOf, t2, t6] using hz
  have hrun := run_make (P := P) w t e i z t1 t2 t6 ik jk (n : Int) (n : Int) (by omega) (by omega) (by rw [t4, ← Int.natCast_mul]; exact Int.ofNat_le.2 hb) (by unfold maxLen at hmax; omega)
  have hexec : (execOp a.eval (⟨dst, .makeSlice t x y, rt, pos, after, guard⟩ : Oper)).run P w = .ok (.value (.slice (some ⟨w.heap.size, 0, none⟩) n n)) (w.alloc (.cells (madeCells z.cells (n * k)) e)) := by
    show (do pure (Next.value (← Instr.makeSlice t (a.eval x) (a.eval y))) : Sem Next).run P w = _
    rw [h1, h2, Sem.run_bind, hrun, t3]
    rfl
  unfold Oper.wp
  rw [hexec]
  have hd' : nm ∉ s.d := by simpa using hd
  have hzk : zero.length = k := by rw [All2.length hr, ← hzc, ← t7]; simp
  have hsz : (w.alloc (Obj.cells (madeCells z.cells (n * k)) e)).heap.size = w.heap.size + 1 := by simp
  obtain ⟨hz1, hz2⟩ := hr.rel (F := F) (ρ := ρ) (w := w) h
  refine ⟨_, F, upd ρ nm ⟨some w.heap.size, n, 0⟩, rfl, moves_patch H nm _ (fun c hc => upd_ne _ _ hc) (.inl ⟨hn, hd'⟩) (fun _ h => h) (fun _ h => .inl h) (fun k hk => by rw [hsz]; exact Nat.lt_succ_of_lt (H.lt k hk)) (fun k hk _ => Below.heap_alloc w _ k hk) rfl rfl rfl (by rw [hsz]; omega) (fun hrel => ?_) (fun g hg => ?_) (fun g hg hf => ?_) (fun hokm => fun r hr c hc => ?_), ?_, ?_⟩
  · refine ⟨by rw [upd_same], t5, .inr ⟨w.heap.size, madeCells z.cells (n * k), by rw [upd_same], heap_alloc_new w _, by rw [upd_same, size_madeCells], by rw [upd_same]; simp, by rw [upd_same]; exact hmax, fun i row hi => ?_⟩⟩
    rw [List.getElem?_replicate] at hi
    split at hi
    · rename_i hin
      cases hi
      refine ⟨hzk, fun j c hc => ?_⟩
      have hj : j < k := by rw [← hzk]; exact (List.getElem?_eq_some_iff.1 hc).1
      obtain ⟨v, hv, hrv⟩ := hz1.get j c hc
      rw [← hzc] at hv
      have hlt : i * k + j < n * k := by
        have : (i + 1) * k ≤ n * k := Nat.mul_le_mul_right k hin
        rw [Nat.succ_mul] at this
        omega
      refine ⟨v, ?_, hrel c v (hz2 c (List.mem_of_getElem? hc)) hrv⟩
      have hjz : j < z.cells.size := by rw [t7]; exact hj
      have hmod : (i * k + j) % z.cells.size = j := by rw [t7, Nat.mul_comm, Nat.mul_add_mod, Nat.mod_eq_of_lt hj]
      simp only [madeCells]
      rw [Array.getElem?_map, Array.getElem?_range, if_pos hlt, Option.map_some, hmod]
      rw [← hv, Array.getElem?_toList, Array.getElem?_eq_getElem hjz]
      simp [hjz]
    · cases hi
  · rw [upd_same] at hg; cases hg; exact .inr (Nat.le_refl _)
  · rw [upd_same] at hg; cases hg; exact absurd (H.lt _ hf) (Nat.lt_irrefl _)
  · rw [List.mem_replicate] at hr
    obtain ⟨_, rfl⟩ := hr
    exact hokm c (hz2 c hc)
  · exact ⟨rfl, fun _ => .inr ⟨w.heap.size, by rw [upd_same], by rw [upd_same]⟩⟩
  · exact ⟨e, k, 0, _, upd_same .., Nat.le_refl _⟩
end ops

/-- The elements that stand behind a slice that turns no more. -/
def SrcC (k : Nat) (rows : List (List C)) (c : C) : Prop := c = slFOf k rows ∨ c = slOf k rows ∨ (rows = [] ∧ c = .nilsl)
/-- The cells of rows that are read, one behind the other. -/
theorem src_of {P : Program} {F : Nat → Prop} {ρ : Nat → Lc} {w : World} {t e : TypeId} {k bytes : Nat} (T : TElem P t e k bytes) {rows : List (List C)} {c : C} {v : Value} (hs : SrcC k rows c) (hk : ∀ r ∈ rows, r.length = k) (hr : relC F ρ w c v) :
    ∃ news : List Value, Src P k t v rows.length news w ∧ news.length = rows.length * k ∧ (∃ a cap, v = .slice a rows.length cap ∧ rows.length ≤ cap) ∧ (Builtin.firstCells k rows.length v).run P w.drew = .ok news.toArray w.drew ∧
      ∀ (i : Nat) row, rows[i]? = some row → ∀ (j : Nat) c, row[j]? = some c → ∃ u, news[i * k + j]? = some u ∧ relK F w c u := by
  obtain ⟨t1, _⟩ := elem_of T
  obtain ⟨_, _, _, _, _, _, t5, _, _⟩ := T.spec
  have main : ∀ (a : Option Addr) (cap : Nat), rows.length ≤ cap → v = .slice a rows.length cap → (∀ i, i < rows.length → ∃ g o, a = some ⟨g, o, none⟩ ∧ F g ∧ ∀ j, j < k → ∃ u, w.cell? ⟨g, o + i * k + j, none⟩ = some u ∧ relK F w (rowF (rows.getD i []) j) u) →
      ∃ news : List Value, Src P k t v rows.length news w ∧ news.length = rows.length * k ∧ (∃ a cap, v = .slice a rows.length cap ∧ rows.length ≤ cap) ∧ (Builtin.firstCells k rows.length v).run P w.drew = .ok news.toArray w.drew ∧
        ∀ (i : Nat) row, rows[i]? = some row → ∀ (j : Nat) c, row[j]? = some c → ∃ u, news[i * k + j]? = some u ∧ relK F w c u := by
    intro a cap hcap hv hj
    subst hv
    by_cases h0 : rows.length = 0
    · have hnil : rows = [] := List.eq_nil_of_length_eq_zero h0
      subst hnil
      have hs : Src P k t (.slice a 0 cap) 0 [] w := by
        cases a with
        | none => exact Src.ofNil w t1 cap
        | some a => exact Src.ofSlice w t1 a 0 cap [] (by simp) (fun j u h => by simp at h) (fun u h => by cases h)
      exact ⟨[], hs, by simp, ⟨a, cap, rfl, hcap⟩, hs.cellsD, fun i row h => by simp at h⟩
    · obtain ⟨g, o, rfl, hF, _⟩ := hj 0 (by omega)
      obtain ⟨news, n1, n2⟩ := choose_list (R := fun q (_ : Unit) u => w.cell? ⟨g, o + q, none⟩ = some u ∧ ∀ i j, i < rows.length → j < k → q = i * k + j → relK F w (rowF (rows.getD i []) j) u) (List.replicate (rows.length * k) ()) 0 (fun q c hc => by
        have hq : q < rows.length * k := by simpa using (List.getElem?_eq_some_iff.1 hc).1
        have hd := Nat.div_add_mod q k
        rw [Nat.mul_comm] at hd
        have hmod := Nat.mod_lt q t5
        have hdiv : q / k < rows.length := Nat.div_lt_of_lt_mul (by rw [Nat.mul_comm]; exact hq)
        obtain ⟨g', o', ha, _, hcell⟩ := hj (q / k) hdiv
        cases ha
        obtain ⟨u, hu, hru⟩ := hcell (q % k) hmod
        refine ⟨u, by rw [Nat.zero_add, show o + q = o + q / k * k + q % k by omega]; exact hu, fun i j hi hjk e => ?_⟩
        rw [Nat.zero_add] at e
        have e1 : q / k = i := by rw [e, Nat.mul_comm, Nat.mul_add_div t5, Nat.div_eq_of_lt hjk, Nat.add_zero]
        have e2 : q % k = j := by rw [e, Nat.mul_comm, Nat.mul_add_mod, Nat.mod_eq_of_lt hjk]
        rw [← e1, ← e2]
        exact hru)
      rw [List.length_replicate] at n1
      have hget : ∀ (q : Nat) u, news[q]? = some u → w.cell? ⟨g, o + q, none⟩ = some u ∧ ∀ i j, i < rows.length → j < k → q = i * k + j → relK F w (rowF (rows.getD i []) j) u := fun q u hu => by
        have hq : q < rows.length * k := by rw [← n1]; exact (List.getElem?_eq_some_iff.1 hu).1
        have := n2 q () u (by simp [hq]) hu
        rwa [Nat.zero_add] at this
      have hex : ∀ (i : Nat) row, rows[i]? = some row → ∀ (j : Nat) c, row[j]? = some c → ∃ u, news[i * k + j]? = some u ∧ relK F w c u := fun i row hi j c hc => by
        have hil := (List.getElem?_eq_some_iff.1 hi).1
        have hjk : j < k := by rw [← hk row (List.mem_of_getElem? hi)]; exact (List.getElem?_eq_some_iff.1 hc).1
        have hlt : i * k + j < news.length := by
          rw [n1]
          have : (i + 1) * k ≤ rows.length * k := Nat.mul_le_mul_right k hil
          rw [Nat.succ_mul] at this
          omega
        refine ⟨news[i * k + j], by simp [hlt], ?_⟩
        have := (hget _ _ (List.getElem?_eq_getElem hlt)).2 i j hil hjk rfl
        rw [List.getD_eq_getElem?_getD, hi, Option.getD_some] at this
        rwa [show rowF row j = c by simp [rowF, hc]] at this
      have hs : Src P k t (.slice (some ⟨g, o, none⟩) rows.length cap) rows.length news w := Src.ofSlice w t1 ⟨g, o, none⟩ rows.length cap news n1 (fun j u hu => by rw [Addr.add_mid]; exact (hget j u hu).1) (fun u hu => by
        obtain ⟨q, hq, hqe⟩ := List.getElem_of_mem hu
        have hqk : q < rows.length * k := by rw [← n1]; exact hq
        have hdiv : q / k < rows.length := Nat.div_lt_of_lt_mul (by rw [Nat.mul_comm]; exact hqk)
        have hd := Nat.div_add_mod q k
        rw [Nat.mul_comm] at hd
        exact relK_one ((hget q u (by rw [List.getElem?_eq_getElem hq, hqe])).2 (q / k) (q % k) hdiv (Nat.mod_lt q t5) hd.symm))
      exact ⟨news, hs, n1, ⟨_, cap, rfl, hcap⟩, hs.cellsD, hex⟩
  rcases hs with rfl | rfl | ⟨rfl, rfl⟩
  · obtain ⟨a, hv, _, hj⟩ := hr
    exact main a rows.length (Nat.le_refl _) hv hj
  · obtain ⟨a, cap, hv, hcap, _, hj⟩ := hr
    exact main a cap hcap hv hj
  · have hv : v = .slice none 0 0 := hr
    exact main none 0 (Nat.le_refl _) hv (fun i hi => absurd hi (Nat.not_lt_zero _))

end Go.Proofs.YtnflnbdlgdjfmaaDoor
