/-
  Merged texts of the proof. Conditions: those typed in each theorem.
-/
import Derived.Test.YtnflnbdlgdjfmabGreatDoorX2
import Derived.Great.BuildSlice
import Derived.Laws.MakeOwn
import Derived.LoopN
import Derived.Test.YtnflnbdlgdjfmabGreatDoorProg
import Derived.Laws.StructEq
import Derived.Laws.Pointers
import Derived.Laws.Small
import Derived.Stop.IfaceNil
import Derived.Laws.Strings
import Derived.Laws.Strings3
import Derived.Laws.Slices
set_option linter.unusedVariables false
set_option linter.unusedSimpArgs false
namespace Go.Proofs.YtnflnbdlgdjfmabGreatDoor
open Go.RowKit
def zeroOf (P : Program) (t : TypeId) : Option (List Value) := ((P.info? t).bind (·.zero)).map (·.cells.toList)
def RelZ (cells : List C) (vs : List Value) : Prop := All2 (fun c v => constU v = .one c) cells vs
class TZero (P : Program) (t : TypeId) (cells : outParam (List C)) : Prop where
  ok : ∃ vs, zeroOf P t = some vs ∧ RelZ cells vs
def placesOf (P : Program) (t : TypeId) : Option (List (Nat × Nat)) :=
  match P.underlying t with
  | some (.struct fs) => fs.toList.mapM (fun f => (P.info? f.type).map fun i => (f.offset, i.size))
  | _ => none
class TStruct (P : Program) (t : TypeId) (places : outParam (List (Nat × Nat))) : Prop where
  ok : placesOf P t = some places
theorem RelZ.rel {F : Nat → Prop} {ρ : Nat → Lc} {w : World} (h : Nat → Option Blk) {cells : List C} {vs : List Value} (hz : RelZ cells vs) : All2 (relC F ρ w) cells vs ∧ ∀ c ∈ cells, okC h c := by
  refine ⟨hz.mono fun c _ v hv => ?_, fun c hc => ?_⟩
  · have := (lcD F ρ w h v).1
    rw [hv] at this
    exact this
  · obtain ⟨j, hj, hje⟩ := List.getElem_of_mem hc
    obtain ⟨v, _, hv⟩ := All2.get hz j c (by rw [List.getElem?_eq_getElem hj, hje])
    have := (lcD F ρ w h v).2
    rw [hv] at this
    exact this
theorem run_newVar {P : Program} (w : World) (e : TypeId) (v : Value) : (newVar e v).run P w = .ok ⟨w.heap.size, 0, none⟩ (w.alloc (.cells v.cells e)) := by
  unfold newVar
  generalize v.cells = vc
  simp [newRow, go_sem]
section ops
variable {P : Program} {s : St} {dst : Option Tmp} {rt : TypeId} {pos : String} {after : Array Edge} {guard : Option (Nat × Bool)}
theorem loc_new {o : Oper} (nm : Nat) {l : List C} (hn : s.h nm = none) (hd : (s.d.contains nm) = false)
    (hrun : ∀ (F : Nat → Prop) (ρ : Nat → Lc) (h : Nat → Option Blk) (w : World) (ev : Operand → Value), HRel F ρ h w → (∀ x, x ∈ o.op.operands → relU F ρ w (opU s.t x) (ev x) ∧ okU h (opU s.t x)) →
      ∃ (cs : Array Value) (e : TypeId), (execOp ev o).run P w = .ok (.value (.pointer (some ⟨w.heap.size, 0, none⟩))) (w.alloc (.cells cs e)) ∧ All2 (relC F ρ w) l cs.toList ∧ ∀ c ∈ l, okC h c) :
    LocOp P o s [] [(nm, some (.obj l))] (.one (.ptr nm 0)) := by
  intro F ρ h w a Q H hR hx
  have hn : h nm = none := (hR nm (.inr (by simp [namesP]))).trans hn
  obtain ⟨cs, e, hr, hl, hokl⟩ := hrun F ρ h w a.eval H (lby H hx)
  unfold Oper.wp
  rw [hr]
  have hd' : nm ∉ s.d := by simpa using hd
  have hsz : (w.alloc (Obj.cells cs e)).heap.size = w.heap.size + 1 := by simp
  refine ⟨_, F, upd ρ nm ⟨some w.heap.size, 0, 0⟩, rfl, lbU H nm (.obj l) (fun c hc => lbl _ _ hc) (.inl ⟨hn, hd'⟩) (fun _ h => h) (fun _ h => .inl h) (fun k hk => by rw [hsz]; exact Nat.lt_succ_of_lt (H.lt k hk)) (fun k hk _ => Below.heap_alloc w _ k hk) rfl rfl rfl (by rw [hsz]; omega) (fun hrel => ?_) (fun g hg => ?_) (fun g hg hf => ?_) (fun hokm => fun c hc => hokm c (hokl c hc)), ?_, ?_⟩
  · rw [show upd ρ nm (⟨some w.heap.size, 0, 0⟩ : Lc) = upd ρ nm ⟨some w.heap.size, 0, 0⟩ from rfl]
    refine ⟨by rw [la3], w.heap.size, e, cs, by rw [la3], heap_alloc_new w _, fun j c hc => ?_⟩
    obtain ⟨v, hv, hr⟩ := hl.get j c hc
    exact ⟨v, by simpa using hv, hrel c v (hokl c (List.mem_of_getElem? hc)) hr⟩
  · rw [la3] at hg; cases hg; exact .inr (Nat.le_refl _)
  · rw [la3] at hg; cases hg; exact absurd (H.lt _ hf) (Nat.lt_irrefl _)
  · exact ⟨rfl, fun _ => ⟨w.heap.size, by rw [la3], rfl⟩⟩
  · exact ⟨l, la3 ..⟩
theorem loc_alloc {e : TypeId} (nm : Nat) {l : List C} [T : TZero P e l] (hn : s.h nm = none) (hd : (s.d.contains nm) = false) : LocOp P ⟨dst, .alloc e, rt, pos, after, guard⟩ s [] [(nm, some (.obj l))] (.one (.ptr nm 0)) :=
  loc_new nm hn hd fun F ρ h w ev H hx => by
    obtain ⟨vs, hz, hr⟩ := T.ok
    unfold zeroOf at hz
    cases hi : P.info? e with
    | none => rw [hi] at hz; cases hz
    | some i =>
      cases hzz : i.zero with
      | none => simp [hi, hzz] at hz
      | some z =>
        have hzc : z.cells.toList = vs := by simpa [hi, hzz] using hz
        refine ⟨z.cells, e, ?_, by rw [hzc]; exact (hr.rel h).1, (hr.rel (F := F) (ρ := ρ) (w := w) h).2⟩
        have h1 : (zeroValue e).run P w = .ok z w := by simp [zeroValue, typeInfo, hi, hzz]
        show (do pure (Next.value (← (do let zero ← zeroValue e; pure (Value.pointer (some (← newVar e zero)))))) : Sem Next).run P w = _
        rw [Sem.run_bind, Sem.run_bind, h1, Result.andThen_ok, Sem.run_bind, run_newVar, Result.andThen_ok]
        rfl
theorem laQ {e : TypeId} {x : Operand} (nm : Nat) {u : U} {l : List C} (hx' : opU s.t x = u) (hu : cellsU u = some l) (hn : s.h nm = none) (hd : (s.d.contains nm) = false) : LocOp P ⟨dst, .box e x, rt, pos, after, guard⟩ s [] [(nm, some (.obj l))] (.one (.ptr nm 0)) :=
  loc_new nm hn hd fun F ρ h w ev H hx => by
    have h1 := hx x (by simp [Op.operands])
    rw [hx'] at h1
    obtain ⟨vs, hvs, hall, hokl⟩ := lcn hu h1.1 h1.2
    refine ⟨(ev x).cells, e, ?_, by rw [hvs]; exact hall, hokl⟩
    show (do pure (Next.value (← (do pure (Value.pointer (some (← newVar e (ev x))))))) : Sem Next).run P w = _
    rw [Sem.run_bind, Sem.run_bind, run_newVar, Result.andThen_ok]
    rfl
def fillC (place : Nat → Option (Nat × Nat)) (cells : List C) : List (Nat × U) → Option (List C)
  | [] => some cells
  | (i, u) :: rest =>
    match place i, cellsU u with
    | some (off, size), some l => bif (l.length == size && Nat.ble (off + size) cells.length) then fillC place (setL cells off l) rest else none
    | _, _ => none
theorem foldl_setL (off : Nat) : ∀ (l : List Value) (m : Nat) (cs : Array Value), ((l.zipIdx m).foldl (fun cs (x : Value × Nat) => cs.setIfInBounds (off + x.2) x.1) cs).size = cs.size ∧
    ∀ j, ((l.zipIdx m).foldl (fun cs (x : Value × Nat) => cs.setIfInBounds (off + x.2) x.1) cs)[j]? = if off + m ≤ j ∧ j < off + m + l.length ∧ j < cs.size then l[j - (off + m)]? else cs[j]?
  | [], m, cs => ⟨rfl, fun j => by rw [if_neg (by simp; omega)]; rfl⟩
  | v :: l, m, cs => by
    obtain ⟨h1, h2⟩ := foldl_setL off l (m + 1) (cs.setIfInBounds (off + m) v)
    simp only [List.zipIdx_cons, List.foldl_cons]
    refine ⟨by rw [h1]; simp, fun j => ?_⟩
    rw [h2 j, Array.size_setIfInBounds, List.length_cons]
    by_cases h5 : off + m = j
    · subst h5
      rw [if_neg (by omega)]
      by_cases h6 : off + m < cs.size
      · rw [if_pos ⟨Nat.le_refl _, by omega, h6⟩]; simp [h6]
      · rw [if_neg (by omega), Array.getElem?_eq_none (by simp; omega), Array.getElem?_eq_none (by omega)]
    · rw [Array.getElem?_setIfInBounds_ne h5]
      by_cases h6 : off + m + 1 ≤ j ∧ j < off + m + 1 + l.length ∧ j < cs.size
      · rw [if_pos ⟨by omega, by omega, h6.2.2⟩, if_pos ⟨by omega, by omega, h6.2.2⟩, show j - (off + m) = (j - (off + (m + 1))) + 1 by omega]; simp
      · rw [if_neg (by omega), if_neg (by omega)]
theorem fill_cells (off : Nat) (v : Value) (cs : Array Value) : (v.cells.zipIdx.foldl (fun cs (x : Value × Nat) => cs.setIfInBounds (off + x.2) x.1) cs).size = cs.size ∧
    ∀ j, (v.cells.zipIdx.foldl (fun cs (x : Value × Nat) => cs.setIfInBounds (off + x.2) x.1) cs)[j]? = if off ≤ j ∧ j < off + v.cells.toList.length ∧ j < cs.size then v.cells.toList[j - off]? else cs[j]? := by
  rw [← Array.foldl_toList, Array.toList_zipIdx]
  exact foldl_setL off v.cells.toList 0 cs
theorem fill_rel {F : Nat → Prop} {ρ : Nat → Lc} {h : Nat → Option Blk} {w : World} (place : Nat → Option (Nat × Nat)) : ∀ (us : List (Nat × U)) (vs : List (Nat × Value)) (cells : List C) (cs : Array Value) (L : List C),
    All2 (fun u v => u.1 = v.1 ∧ relU F ρ w u.2 v.2 ∧ okU h u.2) us vs → All2 (relC F ρ w) cells cs.toList → (∀ c ∈ cells, okC h c) → fillC place cells us = some L →
    ∃ cs', Instr.fill place cs vs = some cs' ∧ All2 (relC F ρ w) L cs'.toList ∧ ∀ c ∈ L, okC h c
  | [], [], cells, cs, L, _, hc, hok, hf => by cases hf; exact ⟨cs, rfl, hc, hok⟩
  | (i, u) :: us, (i', v) :: vs, cells, cs, L, ⟨⟨hii, hr, ho⟩, hrest⟩, hc, hok, hf => by
    have hii : i = i' := hii
    subst hii
    unfold fillC at hf
    cases hp : place i with
    | none => rw [hp] at hf; cases hf
    | some p =>
      obtain ⟨off, size⟩ := p
      cases hcu : cellsU u with
      | none => rw [hp, hcu] at hf; cases hf
      | some l =>
        rw [hp, hcu] at hf
        simp only at hf
        cases hcond : (l.length == size && Nat.ble (off + size) cells.length) with
        | false => rw [hcond] at hf; cases hf
        | true =>
          rw [hcond] at hf
          simp only [Bool.and_eq_true, beq_iff_eq] at hcond
          have hle := Nat.le_of_ble_eq_true hcond.2
          obtain ⟨ws, hws, hall, hokl⟩ := lcn hcu hr ho
          have hlen : ws.length = size := by rw [← hall.length]; exact hcond.1
          have hcs : cs.size = cells.length := by rw [hc.length]; simp
          obtain ⟨f1, f2⟩ := fill_cells off v cs
          rw [hws] at f2
          obtain ⟨cs', g1, g2, g3⟩ := fill_rel place us vs (setL cells off l) (v.cells.zipIdx.foldl (fun cs (x : Value × Nat) => cs.setIfInBounds (off + x.2) x.1) cs) L hrest (All2.of ((ldH ..).trans (hcs.symm.trans (f1.symm.trans (Array.length_toList ..).symm))) fun j c x hj hx => (by
            rw [lcw] at hj
            rw [Array.getElem?_toList, f2 j] at hx
            by_cases hin : off ≤ j ∧ j < off + l.length ∧ j < cells.length
            · rw [if_pos hin] at hj
              rw [if_pos ⟨hin.1, by omega, by omega⟩] at hx
              obtain ⟨y, hy, hry⟩ := hall.get (j - off) c hj
              rw [hx] at hy; cases hy; exact hry
            · rw [if_neg hin] at hj
              rw [if_neg (by omega)] at hx
              obtain ⟨y, hy, hry⟩ := hc.get j c hj
              rw [Array.getElem?_toList, hx] at hy; cases hy; exact hry)) (fun c hcm => by
            obtain ⟨j, hjl, hje⟩ := List.getElem_of_mem hcm
            have hj : (setL cells off l)[j]? = some c := by rw [List.getElem?_eq_getElem hjl, hje]
            rw [lcw] at hj
            split at hj
            · exact hokl c (List.mem_of_getElem? hj)
            · exact hok c (List.mem_of_getElem? hj)) hf
          refine ⟨cs', ?_, g2, g3⟩
          unfold Instr.fill
          simp only [hp]
          have hsz : v.cells.size = size := by rw [← hlen, ← hws]; simp
          rw [if_neg (by simp [hsz]; omega)]
          exact g1
  | [], _ :: _, _, _, _, h, _, _, _ => h.elim
  | _ :: _, [], _, _, _, h, _, _, _ => h.elim
theorem parts_rel {F : Nat → Prop} {ρ : Nat → Lc} {h : Nat → Option Blk} {w : World} {t : Nat → U} {ev : Operand → Value} : ∀ (ps : List (Nat × Operand)), (∀ p ∈ ps, relU F ρ w (opU t p.2) (ev p.2) ∧ okU h (opU t p.2)) →
    All2 (fun (u : Nat × U) (v : Nat × Value) => u.1 = v.1 ∧ relU F ρ w u.2 v.2 ∧ okU h u.2) (ps.map fun p => (p.1, opU t p.2)) (ps.map fun p => (p.1, ev p.2))
  | [], _ => trivial
  | p :: ps, h => ⟨⟨rfl, h p (List.mem_cons_self ..)⟩, parts_rel ps fun q hq => h q (List.mem_cons_of_mem _ hq)⟩
theorem laq {t : TypeId} {parts : Array (Nat × Operand)} {zero L l : List C} {places : List (Nat × Nat)} {n : Nat} [T : TStruct P t places] [Z : TZero P t zero] [A : TAgg P t n] (hf : fillC (fun i => places[i]?) zero (parts.toList.map fun p => (p.1, opU s.t p.2)) = some L := by exact rfl) (hl : Cut L 0 n l := by exact Cut.all (by exact rfl)) (hn : L.length = n := by exact rfl) :
    LocOp P ⟨dst, .build t parts, rt, pos, after, guard⟩ s [] [] (.agg l) :=
  laC fun F ρ h w ev H hx => by
    have hLl : L = l := by
      have := hl.spec
      apply List.ext_getElem?
      intro j
      by_cases hj : j < n
      · have h1 := this.2 j l[j] (by simp [this.1, hj])
        rw [Nat.zero_add] at h1
        rw [h1]; simp [this.1, hj]
      · rw [List.getElem?_eq_none (by omega), List.getElem?_eq_none (by omega)]
    subst hLl
    obtain ⟨vs, hz, hr⟩ := Z.ok
    have hpl := T.ok
    unfold zeroOf at hz
    unfold placesOf at hpl
    cases hi : P.info? t with
    | none => rw [hi] at hz; cases hz
    | some it =>
      cases hzz : it.zero with
      | none => simp [hi, hzz] at hz
      | some z =>
        have hzc : z.cells.toList = vs := by simpa [hi, hzz] using hz
        split at hpl
        · rename_i fs hu
          obtain ⟨cs', h1, h2, h3⟩ := fill_rel (F := F) (ρ := ρ) (h := h) (w := w) (fun i => places[i]?) _ _ zero z.cells L (parts_rel parts.toList fun p hp => hx p.2 (by simp only [Op.operands]; simp; exact ⟨p.1, by simpa using hp⟩)) (by rw [hzc]; exact (hr.rel h).1) ((hr.rel (F := F) (ρ := ρ) (w := w) h).2) hf
          refine ⟨.agg cs', ?_, ⟨cs'.toList, by simp, h2⟩, h3⟩
          have hb : P.built t (parts.map fun p => (p.1, ev p.2)).toList = some cs' := by
            unfold Program.built
            simp only [hi, hu, hzz, hpl]
            rw [Array.toList_map]
            simpa using h1
          have hrb := run_build (P := P) w t (parts.map fun p => (p.1, ev p.2)) cs' hb
          show (do pure (Next.value (← Instr.build t (parts.map fun p => (p.1, ev p.2)))) : Sem Next).run P w = _
          rw [Sem.run_bind, hrb]
          rfl
        · cases hpl
end ops
theorem lfN (k : Nat) : ∀ (vs : List Value) (m : Nat) (cs : Array Value), (∀ v ∈ vs, v.cells.toList.length = k) → (m + vs.length) * k ≤ cs.size →
    ∃ cs', Instr.fill (fun i => some (i * k, k)) cs ((vs.zipIdx m).map fun x => (x.2, x.1)) = some cs' ∧ cs'.size = cs.size ∧ (∀ q, q < m * k → cs'[q]? = cs[q]?) ∧
      ∀ (i : Nat) v, vs[i]? = some v → ∀ j, j < k → cs'[(m + i) * k + j]? = v.cells.toList[j]?
  | [], m, cs, _, _ => ⟨cs, rfl, rfl, fun _ _ => rfl, fun i v h => by simp at h⟩
  | v :: vs, m, cs, hk, hsz => by
    have hv := hk v (List.mem_cons_self ..)
    obtain ⟨f1, f2⟩ := fill_cells (m * k) v cs
    have hlen : (m + (v :: vs).length) * k = m * k + (k + vs.length * k) := by rw [List.length_cons, ← Nat.add_assoc, Nat.add_mul, Nat.add_mul, Nat.one_mul]; omega
    rw [hlen] at hsz
    obtain ⟨cs', g1, g2, g3, g4⟩ := lfN k vs (m + 1) (v.cells.zipIdx.foldl (fun cs (x : Value × Nat) => cs.setIfInBounds (m * k + x.2) x.1) cs) (fun u hu => hk u (List.mem_cons_of_mem _ hu)) (by rw [f1, Nat.add_mul, Nat.add_mul, Nat.one_mul]; omega)
    refine ⟨cs', ?_, g2.trans f1, fun q hq => ?_, fun i u hu j hj => ?_⟩
    · rw [List.zipIdx_cons, List.map_cons]
      unfold Instr.fill
      simp only
      have hvs : v.cells.size = k := by rw [← hv]; simp
      rw [if_neg (by simp [hvs]; omega)]
      exact g1
    · rw [g3 q (by rw [Nat.add_mul]; omega), f2 q, if_neg (by omega)]
    · cases i with
      | zero =>
        simp only [List.getElem?_cons_zero, Option.some.injEq] at hu
        subst hu
        rw [Nat.add_zero, g3 (m * k + j) (by rw [Nat.add_mul, Nat.one_mul]; omega), f2 (m * k + j), if_pos ⟨by omega, by omega, by omega⟩, show m * k + j - m * k = j by omega]
      | succ i =>
        rw [show m + (i + 1) = m + 1 + i by omega]
        exact g4 i u (by simpa using hu) j hj
def rowsU : List U → Option (List (List C))
  | [] => some []
  | u :: us => match cellsU u, rowsU us with | some l, some r => some (l :: r) | _, _ => none
theorem lfO : ∀ {us : List U} {rows : List (List C)}, rowsU us = some rows → rows.length = us.length ∧ ∀ (i : Nat) u, us[i]? = some u → ∃ l, rows[i]? = some l ∧ cellsU u = some l
  | [], _, h => by cases h; exact ⟨rfl, fun i u h => by simp at h⟩
  | u :: us, rows, h => by
    unfold rowsU at h
    split at h
    · rename_i l r hl hr
      cases h
      obtain ⟨h1, h2⟩ := lfO hr
      refine ⟨by simp [h1], fun i u' hu => ?_⟩
      cases i with
      | zero => simp at hu; subst hu; exact ⟨l, rfl, hl⟩
      | succ i => simpa using h2 i u' (by simpa using hu)
    · cases h
def closedC : C → Bool
  | .ptr _ _ | .loc _ _ | .eptr _ _ _ _ _ | .own _ _ _ => false
  | _ => true
def closedRow : List C → Bool
  | [] => true
  | c :: l => closedC c && closedRow l
def closedRows : List (List C) → Bool
  | [] => true
  | r :: l => closedRow r && closedRows l
theorem lbM : ∀ {r : List C} {c : C}, closedRow r = true → c ∈ r → closedC c = true
  | a :: l, c, h, hc => by
    simp only [closedRow, Bool.and_eq_true] at h
    rcases List.mem_cons.1 hc with rfl | hc
    · exact h.1
    · exact lbM h.2 hc
theorem lbR : ∀ {rs : List (List C)} {r : List C} {c : C}, closedRows rs = true → r ∈ rs → c ∈ r → closedC c = true
  | a :: l, r, c, h, hr, hc => by
    simp only [closedRows, Bool.and_eq_true] at h
    rcases List.mem_cons.1 hr with rfl | hr
    · exact lbM h.1 hc
    · exact lbR h.2 hr hc
theorem lb5 {F : Nat → Prop} {ρ : Nat → Lc} {w : World} {c : C} {v : Value} (hc : closedC c = true) (hr : relC F ρ w c v) : relK F w c v := by
  cases c <;> first | exact hr | cases hc
section ops
variable {P : Program} {s : St} {dst : Option Tmp} {rt : TypeId} {pos : String} {after : Array Edge} {guard : Option (Nat × Bool)}
theorem loc_buildSlice {t e : TypeId} {len k bytes : Nat} {xs : List Operand} {parts : Array (Nat × Operand)} {us : List U} {rows : List (List C)} [T : TElem P t e k bytes] (hparts : parts.toList = (xs.zipIdx 0).map fun x => (x.2, x.1)) (hlen : xs.length = len) (h0 : 0 < len) (hsmall : len * k ≤ 16777216)
    (hus : xs.map (opU s.t) = us) (hrows : rowsU us = some rows) (hk : ∀ l ∈ rows, l.length = k) (hcl : closedRows rows = true) :
    LocOp P ⟨dst, .buildSlice t len parts, rt, pos, after, guard⟩ s [] [] (.one (slFOf k rows)) := by
  intro F ρ h w a Q H _ hx
  have hx := lby H hx
  obtain ⟨i, z, t1, t2, t3, t4, t5, t6, t7⟩ := T.spec
  obtain ⟨r1, r2⟩ := lfO hrows
  have hmem : ∀ x ∈ xs, x ∈ (⟨dst, .buildSlice t len parts, rt, pos, after, guard⟩ : Oper).op.operands := fun x hxm => by
    obtain ⟨j, hj, hje⟩ := List.getElem_of_mem hxm
    have h1 : (j, x) ∈ parts.toList := by
      rw [hparts]
      refine List.mem_map.2 ⟨(x, j), ?_, rfl⟩
      rw [List.mem_zipIdx_iff_getElem?]
      simp [hj, hje]
    show x ∈ ((parts.toList.map (·.2)).toArray : Array Operand)
    rw [List.mem_toArray]
    exact List.mem_map.2 ⟨(j, x), h1, rfl⟩
  have hval : ∀ (j : Nat) x, xs[j]? = some x → ∃ l, rows[j]? = some l ∧ All2 (relC F ρ w) l (a.eval x).cells.toList ∧ (∀ c ∈ l, okC h c) ∧ l.length = k := fun j x hjx => by
    have hu : us[j]? = some (opU s.t x) := by rw [← hus]; simp [hjx]
    obtain ⟨l, h1, h2⟩ := r2 j _ hu
    have hr := hx x (hmem x (List.mem_of_getElem? hjx))
    obtain ⟨vs, hvs, hall, hokl⟩ := lcn h2 hr.1 hr.2
    exact ⟨l, h1, by rw [hvs]; exact hall, hokl, hk l (List.mem_of_getElem? h1)⟩
  let vs := xs.map a.eval
  have hvk : ∀ v ∈ vs, v.cells.toList.length = k := fun v hv => by
    obtain ⟨x, hxm, rfl⟩ := List.mem_map.1 hv
    obtain ⟨j, hj, hje⟩ := List.getElem_of_mem hxm
    obtain ⟨l, _, h2, _, h3⟩ := hval j x (by rw [List.getElem?_eq_getElem hj, hje])
    rw [← h2.length, h3]
  have hlk : len * i.size = len * k := by rw [t3]
  obtain ⟨cs', g1, g2, _, g4⟩ := lfN k vs 0 ((Array.range (len * i.size)).map (z.cells[· % z.cells.size]!)) hvk (by simp [vs, hlen, hlk])
  have hpv : (parts.map fun p => (p.1, a.eval p.2)).toList = (vs.zipIdx 0).map fun x => (x.2, x.1) := by
    rw [Array.toList_map, hparts, List.map_map, List.zipIdx_map, List.map_map]
    rfl
  have hrun := run_buildSlice (P := P) w t e len (parts.map fun p => (p.1, a.eval p.2)) cs' i z t1 t2 t6 (by rw [hlk]; omega) (by rw [hlk]; have := Nat.mul_pos h0 t5; omega) (by rw [hpv, t3]; rw [t3] at g1; exact g1)
  have hexec : (execOp a.eval (⟨dst, .buildSlice t len parts, rt, pos, after, guard⟩ : Oper)).run P w = .ok (.value (.slice (some ⟨w.heap.size, 0, none⟩) len len)) (w.alloc (.cells cs' e)) := by
    show (do pure (Next.value (← Instr.buildSlice t len (parts.map fun p => (p.1, a.eval p.2)))) : Sem Next).run P w = _
    rw [Sem.run_bind, hrun]
    rfl
  unfold Oper.wp
  rw [hexec]
  have hsz : (w.alloc (Obj.cells cs' e)).heap.size = w.heap.size + 1 := by simp
  have hrl : rows.length = len := by rw [r1, ← hus, List.length_map, hlen]
  have hblk : (w.alloc (Obj.cells cs' e)).heap[w.heap.size]? = some (.cells cs' e) := heap_alloc_new w _
  have hM : Moves s.d F ρ h w (fun b => F b ∨ b = w.heap.size) ρ h (w.alloc (Obj.cells cs' e)) := ldG H ((Below.refl _ _).alloc (Nat.le_refl _) _) (fun _ h => .inl h) (fun b hb => hb.imp id fun e => Nat.le_of_eq e.symm) (fun b hb => by
    rw [hsz]
    rcases hb with h1 | h1
    · exact Nat.lt_succ_of_lt (H.lt b h1)
    · rw [h1]; exact Nat.lt_succ_self _)
  refine ⟨_, (fun b => F b ∨ b = w.heap.size), ρ, rfl, hM, ⟨some ⟨w.heap.size, 0, none⟩, by rw [hrl], by rw [hrl]; have : len ≤ len * k := Nat.le_mul_of_pos_right _ t5; unfold maxLen; omega, fun q hq => ⟨w.heap.size, 0, rfl, .inr rfl, fun j hj => ?_⟩⟩, trivial⟩
  rw [hrl] at hq
  have hxq : xs[q]? = some xs[q] := by simp [hlen, hq]
  obtain ⟨l, h1, h2, h3, h4⟩ := hval q _ hxq
  have hcell := g4 q (a.eval xs[q]) (by simp [vs, hlen, hq]) j hj
  obtain ⟨u, hu, hru⟩ := h2.get j l[j] (by simp [h4, hj])
  refine ⟨u, ?_, ?_⟩
  · rw [Nat.zero_add] at hcell ⊢
    simp only [World.cell?, hblk]
    simpa [hcell] using hu
  · show relK _ _ (rowF (rows.getD q []) j) u
    rw [List.getD_eq_getElem?_getD, h1]
    have hj2 : j < l.length := by rw [h4]; exact hj
    have hcj : rowF l j = l[j] := by simp [rowF, hj2]
    rw [Option.getD_some, hcj]
    exact lbC (w := w) (fun _ h => .inl h) (fun b hb => hM.same b hb) (lb5 (lbR hcl (List.mem_of_getElem? h1) (List.getElem_mem hj2)) hru)
theorem loc_makeSlice {t e : TypeId} {k bytes n : Nat} {x y : Operand} {ik jk : IntKind} {m m' : Int} {zero : List C} (nm : Nat) [T : TElem P t e k bytes] [Z : TZero P e zero] (hx' : opU s.t x = .one (.int ik m)) (hy' : opU s.t y = .one (.int jk m')) (hm : m = (n : Nat)) (hm' : m' = (n : Nat))
    (hn : s.h nm = none) (hd : (s.d.contains nm) = false) (hb : bytes * n ≤ 281474976710656) (hmax : n ≤ maxLen) :
    LocOp P ⟨dst, .makeSlice t x y, rt, pos, after, guard⟩ s [] [(nm, some (.row e k 0 (List.replicate n zero)))] (.one (.own nm 0 n)) := by
  intro F ρ h w a Q H hR hx
  have hn : h nm = none := (hR nm (.inr (by simp [namesP]))).trans hn
  have hx := lby H hx
  have h1 := (hx x (by simp [Op.operands])).1
  have h2 := (hx y (by simp [Op.operands])).1
  rw [hx'] at h1
  rw [hy'] at h2
  have h1 : a.eval x = .int ik m := h1
  have h2 : a.eval y = .int jk m' := h2
  subst hm
  subst hm'
  obtain ⟨i, z, t1, t2, t3, t4, t5, t6, t7⟩ := T.spec
  obtain ⟨vs, hz, hr⟩ := Z.ok
  have hzc : z.cells.toList = vs := by simpa [zeroOf, t2, t6] using hz
  have hrun := run_make (P := P) w t e i z t1 t2 t6 ik jk (n : Int) (n : Int) (by omega) (by omega) (by rw [t4, ← Int.natCast_mul]; exact Int.ofNat_le.2 hb) (by unfold maxLen at hmax; omega)
  have hexec : (execOp a.eval (⟨dst, .makeSlice t x y, rt, pos, after, guard⟩ : Oper)).run P w = .ok (.value (.slice (some ⟨w.heap.size, 0, none⟩) n n)) (w.alloc (.cells (madeCells z.cells (n * k)) e)) := by
    show (do pure (Next.value (← Instr.makeSlice t (a.eval x) (a.eval y))) : Sem Next).run P w = _
    rw [h1, h2, Sem.run_bind, hrun, t3]
    rfl
  unfold Oper.wp
  rw [hexec]
  have hd' : nm ∉ s.d := by simpa using hd
  have hzk : zero.length = k := by rw [All2.length hr, ← hzc, ← t7]; simp
  have hsz : (w.alloc (Obj.cells (madeCells z.cells (n * k)) e)).heap.size = w.heap.size + 1 := by simp
  obtain ⟨hz1, hz2⟩ := hr.rel (F := F) (ρ := ρ) (w := w) h
  refine ⟨_, F, upd ρ nm ⟨some w.heap.size, n, 0⟩, rfl, lbU H nm _ (fun c hc => lbl _ _ hc) (.inl ⟨hn, hd'⟩) (fun _ h => h) (fun _ h => .inl h) (fun k hk => by rw [hsz]; exact Nat.lt_succ_of_lt (H.lt k hk)) (fun k hk _ => Below.heap_alloc w _ k hk) rfl rfl rfl (by rw [hsz]; omega) (fun hrel => ?_) (fun g hg => ?_) (fun g hg hf => ?_) (fun hokm => fun r hr c hc => ?_), ?_, ?_⟩
  · refine ⟨by rw [la3], t5, .inr ⟨w.heap.size, madeCells z.cells (n * k), by rw [la3], heap_alloc_new w _, by rw [la3, size_madeCells], by rw [la3]; simp, by rw [la3]; exact hmax, fun i row hi => ?_⟩⟩
    rw [List.getElem?_replicate] at hi
    split at hi
    · rename_i hin
      cases hi
      refine ⟨hzk, fun j c hc => ?_⟩
      have hj : j < k := by rw [← hzk]; exact (List.getElem?_eq_some_iff.1 hc).1
      obtain ⟨v, hv, hrv⟩ := hz1.get j c hc
      rw [← hzc] at hv
      have hlt : i * k + j < n * k := by
        have : (i + 1) * k ≤ n * k := Nat.mul_le_mul_right k hin
        rw [Nat.succ_mul] at this
        omega
      refine ⟨v, ?_, hrel c v (hz2 c (List.mem_of_getElem? hc)) hrv⟩
      have hjz : j < z.cells.size := by rw [t7]; exact hj
      have hmod : (i * k + j) % z.cells.size = j := by rw [t7, Nat.mul_comm, Nat.mul_add_mod, Nat.mod_eq_of_lt hj]
      simp only [madeCells]
      rw [Array.getElem?_map, Array.getElem?_range, if_pos hlt, Option.map_some, hmod]
      rw [← hv, Array.getElem?_toList, Array.getElem?_eq_getElem hjz]
      simp [hjz]
    · cases hi
  · rw [la3] at hg; cases hg; exact .inr (Nat.le_refl _)
  · rw [la3] at hg; cases hg; exact absurd (H.lt _ hf) (Nat.lt_irrefl _)
  · rw [List.mem_replicate] at hr
    obtain ⟨_, rfl⟩ := hr
    exact hokm c (hz2 c hc)
  · exact ⟨rfl, fun _ => .inr ⟨w.heap.size, by rw [la3], by rw [la3]⟩⟩
  · exact ⟨e, k, 0, _, la3 .., Nat.le_refl _⟩
end ops
def SrcC (k : Nat) (rows : List (List C)) (c : C) : Prop := c = slFOf k rows ∨ c = slOf k rows ∨ (rows = [] ∧ c = .nilsl)
theorem lfP {P : Program} {F : Nat → Prop} {ρ : Nat → Lc} {w : World} {t e : TypeId} {k bytes : Nat} (T : TElem P t e k bytes) {rows : List (List C)} {c : C} {v : Value} (hs : SrcC k rows c) (hk : ∀ r ∈ rows, r.length = k) (hr : relC F ρ w c v) :
    ∃ news : List Value, Src P k t v rows.length news w ∧ news.length = rows.length * k ∧ (∃ a cap, v = .slice a rows.length cap ∧ rows.length ≤ cap) ∧ (Builtin.firstCells k rows.length v).run P w.drew = .ok news.toArray w.drew ∧
      ∀ (i : Nat) row, rows[i]? = some row → ∀ (j : Nat) c, row[j]? = some c → ∃ u, news[i * k + j]? = some u ∧ relK F w c u := by
  obtain ⟨t1, _⟩ := elem_of T
  obtain ⟨_, _, _, _, _, _, t5, _, _⟩ := T.spec
  have main : ∀ (a : Option Addr) (cap : Nat), rows.length ≤ cap → v = .slice a rows.length cap → (∀ i, i < rows.length → ∃ g o, a = some ⟨g, o, none⟩ ∧ F g ∧ ∀ j, j < k → ∃ u, w.cell? ⟨g, o + i * k + j, none⟩ = some u ∧ relK F w (rowF (rows.getD i []) j) u) →
      ∃ news : List Value, Src P k t v rows.length news w ∧ news.length = rows.length * k ∧ (∃ a cap, v = .slice a rows.length cap ∧ rows.length ≤ cap) ∧ (Builtin.firstCells k rows.length v).run P w.drew = .ok news.toArray w.drew ∧
        ∀ (i : Nat) row, rows[i]? = some row → ∀ (j : Nat) c, row[j]? = some c → ∃ u, news[i * k + j]? = some u ∧ relK F w c u := by
    intro a cap hcap hv hj
    subst hv
    by_cases h0 : rows.length = 0
    · have hnil : rows = [] := List.eq_nil_of_length_eq_zero h0
      subst hnil
      have hs : Src P k t (.slice a 0 cap) 0 [] w := by
        cases a with
        | none => exact Src.ofNil w t1 cap
        | some a => exact Src.ofSlice w t1 a 0 cap [] (by simp) (fun j u h => by simp at h) (fun u h => by cases h)
      exact ⟨[], hs, by simp, ⟨a, cap, rfl, hcap⟩, hs.cellsD, fun i row h => by simp at h⟩
    · obtain ⟨g, o, rfl, hF, _⟩ := hj 0 (by omega)
      obtain ⟨news, n1, n2⟩ := lb4 (R := fun q (_ : Unit) u => w.cell? ⟨g, o + q, none⟩ = some u ∧ ∀ i j, i < rows.length → j < k → q = i * k + j → relK F w (rowF (rows.getD i []) j) u) (List.replicate (rows.length * k) ()) 0 (fun q c hc => by
        have hq : q < rows.length * k := by simpa using (List.getElem?_eq_some_iff.1 hc).1
        have hd := Nat.div_add_mod q k
        rw [Nat.mul_comm] at hd
        have hmod := Nat.mod_lt q t5
        have hdiv : q / k < rows.length := Nat.div_lt_of_lt_mul (by rw [Nat.mul_comm]; exact hq)
        obtain ⟨g', o', ha, _, hcell⟩ := hj (q / k) hdiv
        cases ha
        obtain ⟨u, hu, hru⟩ := hcell (q % k) hmod
        refine ⟨u, by rw [Nat.zero_add, show o + q = o + q / k * k + q % k by omega]; exact hu, fun i j hi hjk e => ?_⟩
        rw [Nat.zero_add] at e
        have e1 : q / k = i := by rw [e, Nat.mul_comm, Nat.mul_add_div t5, Nat.div_eq_of_lt hjk, Nat.add_zero]
        have e2 : q % k = j := by rw [e, Nat.mul_comm, Nat.mul_add_mod, Nat.mod_eq_of_lt hjk]
        rw [← e1, ← e2]
        exact hru)
      rw [List.length_replicate] at n1
      have hget : ∀ (q : Nat) u, news[q]? = some u → w.cell? ⟨g, o + q, none⟩ = some u ∧ ∀ i j, i < rows.length → j < k → q = i * k + j → relK F w (rowF (rows.getD i []) j) u := fun q u hu => by
        have hq : q < rows.length * k := by rw [← n1]; exact (List.getElem?_eq_some_iff.1 hu).1
        have := n2 q () u (by simp [hq]) hu
        rwa [Nat.zero_add] at this
      have hex : ∀ (i : Nat) row, rows[i]? = some row → ∀ (j : Nat) c, row[j]? = some c → ∃ u, news[i * k + j]? = some u ∧ relK F w c u := fun i row hi j c hc => by
        have hil := (List.getElem?_eq_some_iff.1 hi).1
        have hjk : j < k := by rw [← hk row (List.mem_of_getElem? hi)]; exact (List.getElem?_eq_some_iff.1 hc).1
        have hlt : i * k + j < news.length := by
          rw [n1]
          have : (i + 1) * k ≤ rows.length * k := Nat.mul_le_mul_right k hil
          rw [Nat.succ_mul] at this
          omega
        refine ⟨news[i * k + j], by simp [hlt], ?_⟩
        have := (hget _ _ (List.getElem?_eq_getElem hlt)).2 i j hil hjk rfl
        rw [List.getD_eq_getElem?_getD, hi, Option.getD_some] at this
        rwa [show rowF row j = c by simp [rowF, hc]] at this
      have hs : Src P k t (.slice (some ⟨g, o, none⟩) rows.length cap) rows.length news w := Src.ofSlice w t1 ⟨g, o, none⟩ rows.length cap news n1 (fun j u hu => by rw [Addr.add_mid]; exact (hget j u hu).1) (fun u hu => by
        obtain ⟨q, hq, hqe⟩ := List.getElem_of_mem hu
        have hqk : q < rows.length * k := by rw [← n1]; exact hq
        have hdiv : q / k < rows.length := Nat.div_lt_of_lt_mul (by rw [Nat.mul_comm]; exact hqk)
        have hd := Nat.div_add_mod q k
        rw [Nat.mul_comm] at hd
        exact relK_one ((hget q u (by rw [List.getElem?_eq_getElem hq, hqe])).2 (q / k) (q % k) hdiv (Nat.mod_lt q t5) hd.symm))
      exact ⟨news, hs, n1, ⟨_, cap, rfl, hcap⟩, hs.cellsD, hex⟩
  rcases hs with rfl | rfl | ⟨rfl, rfl⟩
  · obtain ⟨a, hv, _, hj⟩ := hr
    exact main a rows.length (Nat.le_refl _) hv hj
  · obtain ⟨a, cap, hv, hcap, _, hj⟩ := hr
    exact main a cap hcap hv hj
  · have hv : v = .slice none 0 0 := hr
    exact main none 0 (Nat.le_refl _) hv (fun i hi => absurd hi (Nat.not_lt_zero _))
theorem lfQ {R R' : C → Value → Prop} {k n : Nat} {rows news : List (List C)} {cs cs' : Array Value} {nv : List Value} (hn : n ≤ rows.length)
    (hrows : ∀ (i : Nat) row, rows[i]? = some row → row.length = k ∧ ∀ (j : Nat) c, row[j]? = some c → ∃ u, cs[i * k + j]? = some u ∧ R c u)
    (hnews : ∀ (i : Nat) row, news[i]? = some row → ∀ (j : Nat) c, row[j]? = some c → ∃ u, nv[i * k + j]? = some u ∧ R' c u) (hk : ∀ r ∈ news, r.length = k)
    (h1 : ∀ q, q < n * k → cs'[q]? = cs[q]?) (h2 : ∀ (q : Nat) u, nv[q]? = some u → cs'[n * k + q]? = some u) :
    ∀ (i : Nat) row, (rows.take n ++ news)[i]? = some row → row.length = k ∧ ∀ (j : Nat) c, row[j]? = some c → ∃ u, cs'[i * k + j]? = some u ∧ ((row ∈ rows ∧ R c u) ∨ R' c u) := by
  intro i row hi
  have hl : (rows.take n).length = n := by rw [List.length_take]; omega
  by_cases hin : i < n
  · rw [List.getElem?_append_left (by omega), List.getElem?_take_of_lt hin] at hi
    obtain ⟨h3, h4⟩ := hrows i row hi
    refine ⟨h3, fun j c hc => ?_⟩
    obtain ⟨u, hu, hr⟩ := h4 j c hc
    have hjk : j < k := by rw [← h3]; exact (List.getElem?_eq_some_iff.1 hc).1
    have : (i + 1) * k ≤ n * k := Nat.mul_le_mul_right k hin
    rw [Nat.succ_mul] at this
    exact ⟨u, (h1 _ (by omega)).trans hu, .inl ⟨List.mem_of_getElem? hi, hr⟩⟩
  · rw [List.getElem?_append_right (by omega), hl] at hi
    refine ⟨hk row (List.mem_of_getElem? hi), fun j c hc => ?_⟩
    obtain ⟨u, hu, hr⟩ := hnews (i - n) row hi j c hc
    refine ⟨u, ?_, .inr hr⟩
    have := h2 _ u hu
    rwa [show n * k + ((i - n) * k + j) = i * k + j by rw [← Nat.add_assoc, ← Nat.add_mul]; congr 2; omega] at this
section ops
variable {P : Program} {s : St} {dst : Option Tmp} {rt : TypeId} {pos : String} {after : Array Edge} {guard : Option (Nat × Bool)}
theorem lbz {P : Program} {o : Oper} {x y : Operand} {t : TypeId} {ev : Operand → Value} {w w' : World} {v : Value} (ho : o.op = .call ⟨.builtin .append, #[x, y], #[t, t]⟩) (h : (Builtin.append_ #[t, t] o.type #[ev x, ev y]).run P w = .ok v w') :
    (execOp ev o).run P w = .ok (.value v) w' := by
  unfold execOp
  simp only [ho, resolve, invoke, builtin, Sem.run_bind, Sem.run_pure, Result.andThen_ok, List.map_toArray, List.map_cons, List.map_nil, h]
theorem lcN {olds news : List Value} {z : Array Value} {k n m cap : Nat} (ho : olds.length = n * k) (hn : news.length = m * k) (hz : z.size = k) (hc : n + m ≤ cap) :
    ((olds ++ news).toArray ++ Builtin.zeroCells z (cap - (n + m))).size = cap * k ∧ (∀ q, q < n * k → ((olds ++ news).toArray ++ Builtin.zeroCells z (cap - (n + m)))[q]? = olds[q]?) ∧
      ∀ (q : Nat) u, news[q]? = some u → ((olds ++ news).toArray ++ Builtin.zeroCells z (cap - (n + m)))[n * k + q]? = some u := by
  refine ⟨?_, fun q hq => ?_, fun q u hu => ?_⟩
  · rw [Array.size_append, size_zeroCells, hz, List.size_toArray, List.length_append, ho, hn, ← Nat.add_mul, ← Nat.add_mul]
    congr 1
    omega
  · rw [Array.getElem?_append_left (by simp [ho, hn]; omega), List.getElem?_toArray, List.getElem?_append_left (by omega)]
  · have hql := (List.getElem?_eq_some_iff.1 hu).1
    rw [Array.getElem?_append_left (by simp [ho]; omega), List.getElem?_toArray, List.getElem?_append_right (by omega), ho, Nat.add_sub_cancel_left]
    exact hu
theorem lcO {t e : TypeId} {k bytes b v n : Nat} {x y : Operand} {rows rows0 news : List (List C)} {c : C} [T : TElem P t e k bytes] (hx' : opU s.t x = .one (.own b v n)) (hy' : opU s.t y = .one c) (hb : s.h b = some (.row e k v rows)) (hsrc : SrcC k news c)
    (hn : n ≤ rows.length) (hr0 : rows.take n = rows0) (hk : ∀ r ∈ news, r.length = k) (hmax : n + news.length ≤ maxLen) (hbytes : (n + news.length) * bytes ≤ 140737488355328) :
    LocOp P ⟨dst, .call ⟨.builtin .append, #[x, y], #[t, t]⟩, rt, pos, after, guard⟩ s [] [(b, some (.row e k (v + 1) (rows0 ++ news)))] (.one (.own b (v + 1) (n + news.length))) := by
  subst hr0
  intro F ρ h w a Q H hR hx
  have hb : h b = some (.row e k v rows) := (hR b (.inr (by simp [namesP]))).trans hb
  have hx := lby H hx
  have h1 := hx x (by simp [Op.operands, Call.operands])
  have h2 := (hx y (by simp [Op.operands, Call.operands])).1
  rw [hx'] at h1
  rw [hy'] at h2
  obtain ⟨i, z, t1, t2, t3, t4, t5, t6, t7⟩ := T.spec
  obtain ⟨nv, hsrc', hnl, ⟨ay, capy, hvy, _⟩, hfy, hnv⟩ := lfP (P := P) T hsrc hk h2
  have hver : (ρ b).v = v := H.ver hb
  obtain ⟨_, _, hB⟩ := H.blk b _ hb
  have hbne : h b ≠ none := by rw [hb]; simp
  -- how it ends: the value, the world, where the row lies then
  have finish : ∀ (lc : Lc) (u : Value) (w' : World), lc.v = v + 1 → (∀ g, lc.g = some g → (ρ b).g = some g ∨ w.heap.size ≤ g) → (∀ k', k' < w.heap.size → (ρ b).g ≠ some k' → w'.heap[k']? = w.heap[k']?) → w'.os = w.os → w'.tape = w.tape → w'.output = w.output → w.heap.size ≤ w'.heap.size →
      ((lc.g = none ∧ rows.take n ++ news = [] ∧ u = .slice none 0 0) ∨ ∃ (g : Nat) (cs cs' : Array Value), lc.g = some g ∧ u = .slice (some ⟨g, 0, none⟩) (n + news.length) lc.cap ∧ w'.heap[g]? = some (.cells cs' e (0, 0)) ∧ cs'.size = lc.cap * k ∧ n + news.length ≤ lc.cap ∧ lc.cap ≤ maxLen ∧
        (∀ (i : Nat) row, rows[i]? = some row → row.length = k ∧ ∀ (j : Nat) c, row[j]? = some c → ∃ u, cs[i * k + j]? = some u ∧ relC F ρ w c u) ∧ (∀ q, q < n * k → cs'[q]? = cs[q]?) ∧ ∀ (q : Nat) u, nv[q]? = some u → cs'[n * k + q]? = some u) →
      (execOp a.eval (⟨dst, .call ⟨.builtin .append, #[x, y], #[t, t]⟩, rt, pos, after, guard⟩ : Oper)).run P w = .ok (.value u) w' →
      (⟨dst, .call ⟨.builtin .append, #[x, y], #[t, t]⟩, rt, pos, after, guard⟩ : Oper).wp P a w (fun a' w' => ∃ u F' ρ', a' = a.put dst u ∧ Moves s.d F ρ h w F' ρ' (applyP [(b, some (.row e k (v + 1) (rows.take n ++ news)))] h) w' ∧ relU F' ρ' w' (.one (.own b (v + 1) (n + news.length))) u ∧ okU (applyP [(b, some (.row e k (v + 1) (rows.take n ++ news)))] h) (.one (.own b (v + 1) (n + news.length)))) Q := by
    intro lc u w' hlv hlg hkeep hos htape hout hsize hend hexec
    unfold Oper.wp
    rw [hexec]
    have hl : (rows.take n ++ news).length = n + news.length := by rw [List.length_append, List.length_take]; omega
    have hrho : upd ρ b lc b = lc := la3 ..
    refine ⟨u, F, upd ρ b lc, rfl, lbU H b _ (fun c hc => lbl _ _ hc) (.inr ⟨_, hb, Nat.le_succ _, .inr (by rw [hrho, hlv, hver]; exact Nat.lt_succ_self _)⟩) (fun _ h => h) (fun _ h => .inl h) (fun k' hk' => Nat.lt_of_lt_of_le (H.lt k' hk') hsize) (fun k' hk' hno => hkeep k' hk' (hno.resolve_left hbne)) hos htape hout hsize (fun hrel => ?_) (fun g hg => ?_) (fun g hg hf => ?_) (fun hokm => ?_), ⟨?_, fun _ => ?_⟩, ?_⟩
    · refine ⟨by rw [hrho, hlv], t5, ?_⟩
      rw [hrho]
      rcases hend with ⟨h3, h4, _⟩ | ⟨g, cs, cs', h3, _, h5, h6, h7, h8, h9, h10, h11⟩
      · exact .inl ⟨h3, h4⟩
      · refine .inr ⟨g, cs', h3, h5, h6, by rw [hl]; exact h7, h8, fun i row hi => ?_⟩
        obtain ⟨q1, q2⟩ := lfQ (R' := fun c u => relK F w c u) hn h9 hnv hk h10 h11 i row hi
        refine ⟨q1, fun j c hc => ?_⟩
        obtain ⟨u, hu, hr⟩ := q2 j c hc
        refine ⟨u, hu, ?_⟩
        rcases hr with ⟨hm, hr⟩ | hr
        · exact hrel c u (H.ok b _ hb row hm c (List.mem_of_getElem? hc)) hr
        · exact hrel c u (lca h hr) (lcC hr)
    · rw [hrho] at hg
      exact (hlg g hg).imp (fun h => ⟨hbne, h⟩) id
    · rw [hrho] at hg
      rcases hlg g hg with h' | h'
      · exact H.notF b g hbne h' hf
      · have := H.lt g hf; omega
    · intro row hrow c hc
      rcases List.mem_append.1 hrow with hm | hm
      · exact hokm c (H.ok b _ hb row (List.mem_of_mem_take hm) c hc)
      · obtain ⟨i, hil, hie⟩ := List.getElem_of_mem hm
        obtain ⟨j, hjl, hje⟩ := List.getElem_of_mem hc
        obtain ⟨u, _, hr⟩ := hnv i row (by rw [List.getElem?_eq_getElem hil, hie]) j c (by rw [List.getElem?_eq_getElem hjl, hje])
        exact hokm c (lca h hr)
    · rcases hend with ⟨_, _, rfl⟩ | ⟨_, _, _, _, rfl, _⟩ <;> rfl
    · rw [hrho]
      rcases hend with ⟨h3, h4, h5⟩ | ⟨g, cs, cs', h3, h4, _⟩
      · exact .inl ⟨h3, by rw [← hl, h4]; rfl, h5⟩
      · exact .inr ⟨g, h3, h4⟩
    · exact ⟨e, k, v + 1, _, la3 .., Nat.le_refl _⟩
  -- what the row is like before
  have hbase : ((ρ b).g = none ∧ rows = [] ∧ n = 0 ∧ a.eval x = .slice none 0 0) ∨ ∃ (g : Nat) (cs : Array Value), (ρ b).g = some g ∧ a.eval x = .slice (some ⟨g, 0, none⟩) n (ρ b).cap ∧ w.heap[g]? = some (.cells cs e (0, 0)) ∧ cs.size = (ρ b).cap * k ∧ rows.length ≤ (ρ b).cap ∧ (ρ b).cap ≤ maxLen ∧
      (∀ (i : Nat) row, rows[i]? = some row → row.length = k ∧ ∀ (j : Nat) c, row[j]? = some c → ∃ u, cs[i * k + j]? = some u ∧ relC F ρ w c u) := by
    rcases h1.1.2 hver with ⟨h3, h4, h5⟩ | ⟨g, h3, h4⟩
    · rcases hB with ⟨_, h6⟩ | ⟨g, cs, h6, _⟩
      · exact .inl ⟨h3, h6, h4, h5⟩
      · rw [h3] at h6; cases h6
    · rcases hB with ⟨h6, _⟩ | ⟨g', cs, h6, h7, h8, h9, h10, h11⟩
      · rw [h3] at h6; cases h6
      · rw [h3] at h6; cases h6
        exact .inr ⟨g, cs, h3, h4, h7, h8, h9, h10, h11⟩
  by_cases hm0 : news.length = 0
  · -- nothing is appended
    have hne : news = [] := List.eq_nil_of_length_eq_zero hm0
    subst hne
    have hnv0 : nv = [] := List.eq_nil_of_length_eq_zero (by rw [hnl]; simp)
    subst hnv0
    have hsrc0 : Src P i.size t (a.eval y) 0 [] w := by rw [t3]; exact hsrc'
    rcases hbase with ⟨h3, h4, h5, h6⟩ | ⟨g, cs, h3, h4, h5, h6, h7, h8, h9⟩
    · subst h4
      subst h5
      refine finish ⟨none, 0, v + 1⟩ (.slice none 0 0) w rfl (fun g hg => by cases hg) (fun _ _ _ => rfl) rfl rfl rfl (Nat.le_refl _) (.inl ⟨rfl, rfl, rfl⟩) (lbz rfl ?_)
      rw [h6]
      exact run_append_nothing w t t rt e i t1 t2 none 0 0 (Nat.le_refl _) _ hsrc0
    · refine finish ⟨some g, (ρ b).cap, v + 1⟩ (.slice (some ⟨g, 0, none⟩) n (ρ b).cap) w rfl (fun g' hg => by cases hg; exact .inl h3) (fun _ _ _ => rfl) rfl rfl rfl (Nat.le_refl _) (.inr ⟨g, cs, cs, rfl, rfl, h5, h6, Nat.le_trans hn h7, h8, h9, fun _ _ => rfl, fun q u h => by simp at h⟩) (lbz rfl ?_)
      rw [h4]
      exact run_append_nothing w t t rt e i t1 t2 (some ⟨g, 0, none⟩) n (ρ b).cap (Nat.le_trans hn h7) _ hsrc0
  · have hfit : ∀ cap, cap < n + news.length → Builtin.nextslicecap (n + news.length) cap * i.bytes ≤ 281474976710656 := fun cap hlt => by rw [t4]; exact growslice_fits hlt hbytes
    have h63 : ((n + news.length : Nat) : Int) ≤ 9223372036854775807 := by unfold maxLen at hmax; omega
    have hsrc1 : Src P i.size t (a.eval y) news.length nv w := by rw [t3]; exact hsrc'
    rcases hbase with ⟨h3, h4, h5, h6⟩ | ⟨g, cs, h3, h4, h5, h6, h7, h8, h9⟩
    · subst h4
      subst h5
      have hg := run_append_grow_src (P := P) w t t rt e i z t1 t2 t6 none 0 0 [] (run_firstCells_none w.drew i.size 0 0 0) (a.eval y) news.length nv hsrc1 (by omega) (by simpa using h63) (hfit 0 (by omega))
      have hge := grownCap_ge w (0 + news.length) 0 e
      obtain ⟨c1, c2, c3⟩ := lcN (olds := []) (news := nv) (z := z.cells) (k := k) (n := 0) (m := news.length) (cap := grownCap w (0 + news.length) 0 e) (by simp) hnl t7 hge
      refine finish ⟨some w.heap.size, grownCap w (0 + news.length) 0 e, v + 1⟩ _ _ rfl (fun g hg => by cases hg; exact .inr (Nat.le_refl _)) (fun k' hk' _ => Below.heap_alloc w.drew _ k' hk') rfl rfl rfl (by simp) (.inr ⟨w.heap.size, #[], _, rfl, rfl, heap_alloc_new w.drew _, c1, hge, grownCap_le_maxLen w _ _ e hmax, fun i row h => by simp at h, fun q hq => by rw [Nat.zero_mul] at hq; omega, c3⟩) (lbz rfl (by rw [h6]; exact hg))
    · by_cases hroom : n + news.length ≤ (ρ b).cap
      · have hin : ∀ j, j < nv.length → n * i.size + j < cs.size := fun j hj => by
          rw [t3, h6]
          rw [hnl] at hj
          have : (n + news.length) * k ≤ (ρ b).cap * k := Nat.mul_le_mul_right k hroom
          rw [Nat.add_mul] at this
          omega
        have hr := run_append_room_src (P := P) w t t rt e i t1 t2 g 0 n (ρ b).cap (a.eval y) news.length nv hsrc1 hroom (fun j hj => by have := hin j hj; simp [World.cell?, h5, this]) (fun j hj => by simp [World.frozen?, h5])
        rw [Nat.zero_add, t3] at hr
        obtain ⟨cs', c1, c2, c3⟩ := lce g e nv (n * k) w cs h5
        obtain ⟨s1, s2, s3, s4⟩ := lcf g nv (n * k) w
        refine finish ⟨some g, (ρ b).cap, v + 1⟩ _ _ rfl (fun g' hg => by cases hg; exact .inl h3) (fun k' hk' hno => lbT g nv _ w k' (fun e => hno (by rw [h3, e]))) s1 s2 s3 (Nat.le_of_eq s4.symm) (.inr ⟨g, cs, cs', rfl, rfl, c1, c2.trans h6, hroom, h8, h9, fun q hq => ?_, fun q u hu => ?_⟩) (lbz rfl (by rw [h4]; exact hr))
        · rw [c3 q, if_neg (by omega)]
        · have hql := (List.getElem?_eq_some_iff.1 hu).1
          have := hin q hql
          rw [t3] at this
          rw [c3, if_pos ⟨by omega, by omega, this⟩, Nat.add_sub_cancel_left]
          exact hu
      · have hlen : (cs.toList.take (n * k)).length = n * i.size := by
          rw [List.length_take, Array.length_toList, h6, t3]
          have : n * k ≤ (ρ b).cap * k := Nat.mul_le_mul_right k (Nat.le_trans hn h7)
          omega
        have hold := run_firstCells_some (P := P) w.drew i.size n ⟨g, 0, none⟩ n (ρ b).cap (cs.toList.take (n * k)) hlen (fun j u hu => by
          have hjl := (List.getElem?_eq_some_iff.1 hu).1
          rw [List.getElem?_take_of_lt (by rw [hlen, t3] at hjl; exact hjl), Array.getElem?_toList] at hu
          rw [Addr.add_mid, Nat.zero_add]
          show w.cell? _ = _
          simp [World.cell?, h5, hu])
        have hg := run_append_grow_src (P := P) w t t rt e i z t1 t2 t6 (some ⟨g, 0, none⟩) n (ρ b).cap (cs.toList.take (n * k)) hold (a.eval y) news.length nv hsrc1 (by omega) h63 (hfit _ (by omega))
        have hge := grownCap_ge w (n + news.length) (ρ b).cap e
        obtain ⟨c1, c2, c3⟩ := lcN (olds := cs.toList.take (n * k)) (news := nv) (z := z.cells) (k := k) (n := n) (m := news.length) (cap := grownCap w (n + news.length) (ρ b).cap e) (by rw [hlen, t3]) hnl t7 hge
        refine finish ⟨some w.heap.size, grownCap w (n + news.length) (ρ b).cap e, v + 1⟩ _ _ rfl (fun g hg => by cases hg; exact .inr (Nat.le_refl _)) (fun k' hk' _ => Below.heap_alloc w.drew _ k' hk') rfl rfl rfl (by simp) (.inr ⟨w.heap.size, cs, _, rfl, rfl, heap_alloc_new w.drew _, c1, hge, grownCap_le_maxLen w _ _ e hmax, h9, fun q hq => ?_, c3⟩) (lbz rfl (by rw [h4]; exact hg))
        rw [c2 q hq, List.getElem?_take_of_lt hq, Array.getElem?_toList]
theorem loc_appendNew {t e : TypeId} {k bytes : Nat} {x y : Operand} {rows news : List (List C)} {c c0 : C} (nm : Nat) [T : TElem P t e k bytes] (hx' : opU s.t x = .one c0) (hy' : opU s.t y = .one c) (hc0 : c0 = slFOf k rows ∨ (rows = [] ∧ c0 = .nilsl)) (hsrc : SrcC k news c)
    (hne : news ≠ []) (hk : ∀ r ∈ news, r.length = k) (hk0 : ∀ r ∈ rows, r.length = k) (hn : s.h nm = none) (hd : (s.d.contains nm) = false) (hmax : rows.length + news.length ≤ maxLen) (hbytes : (rows.length + news.length) * bytes ≤ 140737488355328) :
    LocOp P ⟨dst, .call ⟨.builtin .append, #[x, y], #[t, t]⟩, rt, pos, after, guard⟩ s [] [(nm, some (.row e k 0 (rows ++ news)))] (.one (.own nm 0 (rows.length + news.length))) := by
  intro F ρ h w a Q H hR hx
  have hn : h nm = none := (hR nm (.inr (by simp [namesP]))).trans hn
  have hx := lby H hx
  have h1 := (hx x (by simp [Op.operands, Call.operands])).1
  have h2 := (hx y (by simp [Op.operands, Call.operands])).1
  rw [hx'] at h1
  rw [hy'] at h2
  obtain ⟨i, z, t1, t2, t3, t4, t5, t6, t7⟩ := T.spec
  obtain ⟨nv, hsrc', hnl, ⟨ay, capy, hvy, _⟩, hfy, hnv⟩ := lfP (P := P) T hsrc hk h2
  have hs0 : SrcC k rows c0 := hc0.imp id .inr
  obtain ⟨ov, hsrc0, hol, ⟨ax, capx, hvx, _⟩, hfx, hov⟩ := lfP (P := P) T hs0 hk0 h1
  have hcap : capx = rows.length := by
    rcases hc0 with rfl | ⟨rfl, rfl⟩
    · obtain ⟨a', hv', _⟩ := h1
      rw [hvx] at hv'
      injection hv'
    · have hv' : a.eval x = .slice none 0 0 := h1
      rw [hvx] at hv'
      injection hv'
  subst hcap
  have hm : 0 < news.length := List.length_pos_iff.2 hne
  have hg := run_append_grow_src (P := P) w t t rt e i z t1 t2 t6 ax rows.length rows.length ov (by rw [t3, ← hvx]; exact hfx) (a.eval y) news.length nv (by rw [t3]; exact hsrc') (by omega) (by unfold maxLen at hmax; omega) (by rw [t4]; exact growslice_fits (by omega) hbytes)
  have hge := grownCap_ge w (rows.length + news.length) rows.length e
  obtain ⟨c1, c2, c3⟩ := lcN (olds := ov) (news := nv) (z := z.cells) (k := k) (n := rows.length) (m := news.length) (cap := grownCap w (rows.length + news.length) rows.length e) hol hnl t7 hge
  unfold Oper.wp
  rw [lbz rfl (by rw [hvx]; exact hg)]
  have hd' : nm ∉ s.d := by simpa using hd
  refine ⟨_, F, upd ρ nm ⟨some w.heap.size, grownCap w (rows.length + news.length) rows.length e, 0⟩, rfl, lbU H nm _ (fun c hc => lbl _ _ hc) (.inl ⟨hn, hd'⟩) (fun _ h => h) (fun _ h => .inl h) (fun k hk => Nat.lt_of_lt_of_le (H.lt k hk) (by simp)) (fun k hk _ => Below.heap_alloc w.drew _ k hk) rfl rfl rfl (by simp) (fun hrel => ?_) (fun g hg => ?_) (fun g hg hf => ?_) (fun hokm => fun row hrow c hc => ?_), ?_, ?_⟩
  · refine ⟨by rw [la3], t5, .inr ⟨w.heap.size, _, by rw [la3], heap_alloc_new w.drew _, by rw [la3]; exact c1, by rw [la3, List.length_append]; exact hge, by rw [la3]; exact grownCap_le_maxLen w _ _ e hmax, fun i row hi => ?_⟩⟩
    have q := lfQ (R := fun c u => relK F w c u) (R' := fun c u => relK F w c u) (cs := ov.toArray) (cs' := _) (n := rows.length) (Nat.le_refl _) (fun i row hi => ⟨hk0 row (List.mem_of_getElem? hi), fun j c hc => by simpa using hov i row hi j c hc⟩) hnv hk (fun q hq => by rw [c2 q hq]; simp) c3 i row (by rw [List.take_length]; exact hi)
    refine ⟨q.1, fun j c hc => ?_⟩
    obtain ⟨u, hu, hr⟩ := q.2 j c hc
    have hr : relK F w c u := by rcases hr with ⟨_, hr⟩ | hr <;> exact hr
    exact ⟨u, hu, hrel c u (lca h hr) (lcC hr)⟩
  · rw [la3] at hg; cases hg; exact .inr (Nat.le_refl _)
  · rw [la3] at hg; cases hg; exact absurd (H.lt _ hf) (Nat.lt_irrefl _)
  · obtain ⟨j, hjl, hje⟩ := List.getElem_of_mem hc
    rcases List.mem_append.1 hrow with hm | hm
    · obtain ⟨i, hil, hie⟩ := List.getElem_of_mem hm
      obtain ⟨u, _, hr⟩ := hov i row (by rw [List.getElem?_eq_getElem hil, hie]) j c (by rw [List.getElem?_eq_getElem hjl, hje])
      exact hokm c (lca h hr)
    · obtain ⟨i, hil, hie⟩ := List.getElem_of_mem hm
      obtain ⟨u, _, hr⟩ := hnv i row (by rw [List.getElem?_eq_getElem hil, hie]) j c (by rw [List.getElem?_eq_getElem hjl, hje])
      exact hokm c (lca h hr)
  · exact ⟨rfl, fun _ => .inr ⟨w.heap.size, by rw [la3], by rw [la3]⟩⟩
  · exact ⟨e, k, 0, _, la3 .., Nat.le_refl _⟩
end ops
def ofL : List (Nat × Blk) → Nat → Option Blk
  | [] => fun _ => none
  | (b, x) :: l => upd (ofL l) b (some x)
def namesL (O : List (Nat × Blk)) : List Nat := O.map (·.1)
def patchL (O : List (Nat × Blk)) : List (Nat × Option Blk) := O.map fun p => (p.1, some p.2)
theorem lbm : ∀ {O : List (Nat × Blk)} {b : Nat}, b ∈ namesL O ↔ ofL O b ≠ none
  | [], b => by simp [namesL, ofL]
  | (c, x) :: O, b => by
    by_cases h : b = c
    · subst h; simp [namesL, ofL, la3]
    · simp only [ofL, lbl _ _ h, namesL, List.map_cons, List.mem_cons, h, false_or]
      exact lbm
def canCall (P : Program) (f : FuncId) : Bool :=
  match P.funcs[f]? with
  | some fn => !(fn.name == "runtime.NumGoroutine") && fn.body.isSome
  | none => false
def ACalls (P : Program) (f : FuncId) (args : List U) (O : List (Nat × Blk)) (r : U) (O' : List (Nat × Blk)) : Prop :=
  canCall P f = true ∧ ∀ (F : Nat → Prop) (ρ : Nat → Lc) (w : World) (vals : List Value), HRel F ρ (ofL O) w → All2 (fun u v => relU F ρ w u v ∧ okU (ofL O) u) args vals →
    Calls P f vals.toArray w fun e w' => ∃ v F' ρ', e = .returned v ∧ Moves (namesL O) F ρ (ofL O) w F' ρ' (ofL O') w' ∧ relU F' ρ' w' r v ∧ okU (ofL O') r
def LeC (c c' : C) : Prop := c = c' ∨ ((∀ (F : Nat → Prop) (w : World) (v : Value), relK F w c v → relK F w c' v) ∧ closedC c = true ∧ closedC c' = true)
theorem LeC.refl (c : C) : LeC c c := .inl rfl
theorem LeC.rel {F : Nat → Prop} {ρ : Nat → Lc} {w : World} {c c' : C} {v : Value} (h : LeC c c') (hr : relC F ρ w c v) : relC F ρ w c' v := by
  rcases h with rfl | ⟨h, h1, h2⟩
  · exact hr
  · exact lcC (h F w v (lb5 h1 hr))
theorem LeC.relK' {F : Nat → Prop} {w : World} {c c' : C} {v : Value} (h : LeC c c') (hr : relK F w c v) : relK F w c' v := by
  rcases h with rfl | ⟨h, h1, h2⟩
  · exact hr
  · exact h F w v hr
theorem LeC.ok {h : Nat → Option Blk} {c c' : C} (hl : LeC c c') (ho : okC h c) : okC h c' := by
  rcases hl with rfl | ⟨_, _, h2⟩
  · exact ho
  · cases c' <;> first | trivial | cases h2
theorem la5 {h : Nat → Option Blk} {c : C} (hc : closedC c = true) : okC h c := by cases c <;> first | trivial | cases hc
theorem LeC.trans {a b c : C} (h : LeC a b) (k : LeC b c) : LeC a c := by
  rcases h with rfl | ⟨h, h1, h2⟩
  · exact k
  · rcases k with rfl | ⟨k, k1, k2⟩
    · exact .inr ⟨h, h1, h2⟩
    · exact .inr ⟨fun F w v hr => k F w v (h F w v hr), h1, k2⟩
theorem LeC.nil (k : Nat) : LeC .nilsl (slOf k []) := .inr ⟨fun F w v hr => ⟨none, 0, hr, Nat.zero_le _, Nat.zero_le _, fun i hi => absurd hi (Nat.not_lt_zero _)⟩, rfl, rfl⟩
theorem LeC.any {c : C} (h : closedC c = true) : LeC c .any := .inr ⟨fun F w v hr => relK_one hr, h, rfl⟩
def LeRows (rows rows' : List (List C)) : Prop := All2 (All2 LeC) rows rows'
theorem leRow_at {l l' : List C} (h : All2 LeC l l') {F : Nat → Prop} {w : World} {u : Value} (j : Nat) (hu : relK F w (rowF l j) u) : relK F w (rowF l' j) u := by
  cases hj : l[j]? with
  | some c =>
    obtain ⟨c', h1, h2⟩ := h.get j c hj
    have e1 : rowF l j = c := by simp [rowF, hj]
    have e2 : rowF l' j = c' := by simp [rowF, h1]
    rw [e1] at hu
    rw [e2]
    exact h2.relK' hu
  | none =>
    have h1 : l'[j]? = none := by
      rw [List.getElem?_eq_none_iff] at hj ⊢
      rw [← h.length]; exact hj
    have e1 : rowF l j = .any := by simp [rowF, hj]
    have e2 : rowF l' j = .any := by simp [rowF, h1]
    rw [e2]; rw [e1] at hu; exact hu
theorem leRows_at {rows rows' : List (List C)} (h : LeRows rows rows') {F : Nat → Prop} {w : World} {u : Value} (i j : Nat) (hu : relK F w (rowF (rows.getD i []) j) u) : relK F w (rowF (rows'.getD i []) j) u := by
  rw [List.getD_eq_getElem?_getD] at hu ⊢
  cases hi : rows[i]? with
  | some row =>
    obtain ⟨row', h1, h2⟩ := All2.get h i row hi
    rw [hi] at hu
    rw [h1]
    exact leRow_at h2 j hu
  | none =>
    have h1 : rows'[i]? = none := by
      rw [List.getElem?_eq_none_iff] at hi ⊢
      rw [← All2.length h]; exact hi
    rw [hi] at hu
    rw [h1]
    exact hu
theorem LeC.sl {k : Nat} {rows rows' : List (List C)} (h : LeRows rows rows') : LeC (slOf k rows) (slOf k rows') :=
  .inr ⟨fun F w v ⟨a, cap, h1, h2, h3, h4⟩ => ⟨a, cap, by rw [← All2.length h]; exact h1, by rw [← All2.length h]; exact h2, by rw [← All2.length h]; exact h3, fun i hi => by
    obtain ⟨g, o, ha, hF, hj⟩ := h4 i (by rw [All2.length h]; exact hi)
    refine ⟨g, o, ha, hF, fun j hjk => ?_⟩
    obtain ⟨u, hu, hr⟩ := hj j hjk
    exact ⟨u, hu, leRows_at h i j hr⟩⟩, rfl, rfl⟩
theorem LeC.slF {k : Nat} {rows rows' : List (List C)} (h : LeRows rows rows') : LeC (slFOf k rows) (slOf k rows') :=
  .inr ⟨fun F w v ⟨a, h1, h3, h4⟩ => ⟨a, rows.length, by rw [← All2.length h]; exact h1, by rw [← All2.length h]; exact Nat.le_refl _, by rw [← All2.length h]; exact h3, fun i hi => by
    obtain ⟨g, o, ha, hF, hj⟩ := h4 i (by rw [All2.length h]; exact hi)
    refine ⟨g, o, ha, hF, fun j hjk => ?_⟩
    obtain ⟨u, hu, hr⟩ := hj j hjk
    exact ⟨u, hu, leRows_at h i j hr⟩⟩, rfl, rfl⟩
theorem LeC.fp {cells cells' : List C} (h : All2 LeC cells cells') : LeC (fpo cells 0) (fpo cells' 0) :=
  .inr ⟨fun F w v ⟨g, o, h1, h2, h4⟩ => ⟨g, o, h1, h2, fun j hj => by
    obtain ⟨u, hu, hr⟩ := h4 j (by rw [h.length]; exact hj)
    exact ⟨u, hu, leRow_at h (0 + j) hr⟩⟩, rfl, rfl⟩
theorem la0 : ∀ l : List C, All2 LeC l l
  | [] => trivial
  | c :: l => ⟨.refl c, la0 l⟩
theorem LeRows.refl : ∀ rows : List (List C), LeRows rows rows
  | [] => trivial
  | r :: rows => ⟨la0 r, LeRows.refl rows⟩
def LeU1 : U → U → Prop
  | .one c, .one c' => LeC c c'
  | .agg l, .agg l' => All2 LeC l l'
  | _, .any => True
  | _, _ => False
def LeU : U → U → Prop
  | .tup l, .tup l' => All2 LeU1 l l'
  | .tup _, .any => True
  | u, u' => LeU1 u u'
theorem LeU1.rel {F : Nat → Prop} {ρ : Nat → Lc} {w : World} {u u' : U} {v : Value} (h : LeU1 u u') (hr : relU1 F ρ w u v) : relU1 F ρ w u' v := by
  cases u <;> cases u' <;> simp only [LeU1] at h <;> first | trivial | exact h.elim | skip
  · exact h.rel hr
  · obtain ⟨vs, hv, ha⟩ := hr
    refine ⟨vs, hv, All2.of (h.length.symm.trans ha.length) fun i c' v hc hv => ?_⟩
    obtain ⟨c, h1, h2⟩ := h.get' i c' hc
    obtain ⟨v', h3, h4⟩ := ha.get i c h1
    rw [hv] at h3; cases h3
    exact h2.rel h4
theorem LeU1.ok {h : Nat → Option Blk} {u u' : U} (hl : LeU1 u u') (ho : okU1 h u) : okU1 h u' := by
  cases u <;> cases u' <;> simp only [LeU1] at hl <;> first | trivial | exact hl.elim | skip
  · exact hl.ok ho
  · intro c' hc
    obtain ⟨j, hj, hje⟩ := List.getElem_of_mem hc
    obtain ⟨c, h1, h2⟩ := hl.get' j c' (by rw [List.getElem?_eq_getElem hj, hje])
    exact h2.ok (ho c (List.mem_of_getElem? h1))
theorem LeU.rel {F : Nat → Prop} {ρ : Nat → Lc} {w : World} {u u' : U} {v : Value} (h : LeU u u') (hr : relU F ρ w u v) : relU F ρ w u' v := by
  cases u <;> cases u' <;> simp only [LeU, LeU1] at h <;> first | trivial | exact h.elim | skip
  · exact h.rel hr
  · exact LeU1.rel (u := .agg _) (u' := .agg _) h hr
  · obtain ⟨vs, hv, ha⟩ := hr
    refine ⟨vs, hv, All2.of (h.length.symm.trans ha.length) fun i c' v hc hv => ?_⟩
    obtain ⟨c, h1, h2⟩ := h.get' i c' hc
    obtain ⟨v', h3, h4⟩ := ha.get i c h1
    rw [hv] at h3; cases h3
    exact h2.rel h4
theorem LeU.ok {h : Nat → Option Blk} {u u' : U} (hl : LeU u u') (ho : okU h u) : okU h u' := by
  cases u <;> cases u' <;> simp only [LeU, LeU1] at hl <;> first | trivial | exact hl.elim | skip
  · exact hl.ok ho
  · exact LeU1.ok (u := .agg _) (u' := .agg _) hl ho
  · intro c' hc
    obtain ⟨j, hj, hje⟩ := List.getElem_of_mem hc
    obtain ⟨c, h1, h2⟩ := hl.get' j c' (by rw [List.getElem?_eq_getElem hj, hje])
    exact h2.ok (ho c (List.mem_of_getElem? h1))
theorem LeU1.refl (u : U) (h : ∀ l, u ≠ .tup l) : LeU1 u u := by
  cases u <;> simp only [LeU1]
  · exact .refl _
  · exact la0 _
  · exact absurd rfl (h _)
theorem LeU.one {c c' : C} (h : LeC c c') : LeU (.one c) (.one c') := h
theorem LeU.agg {l l' : List C} (h : All2 LeC l l') : LeU (.agg l) (.agg l') := h
theorem ld4 {F : Nat → Prop} {ρ ρ' : Nat → Lc} {h : Nat → Option Blk} {w : World} {c : C} {v : Value} (hr : relC F ρ w c v) (ho : okC h c) (he : ∀ c, h c ≠ none → ρ' c = ρ c) : relC F ρ' w c v := by
  cases c with
  | ptr b o =>
    obtain ⟨cells, hb⟩ := ho
    have e := he b (by rw [hb]; simp)
    exact ⟨hr.1, by rw [e]; exact hr.2⟩
  | loc b g =>
    obtain ⟨cells, hb⟩ := ho
    have e := he b (by rw [hb]; simp)
    exact ⟨hr.1, by rw [e]; exact hr.2⟩
  | eptr b ver k i o =>
    obtain ⟨_, _, _, _, hb, _⟩ := ho
    have e := he b (by rw [hb]; simp)
    exact ⟨hr.1, by rw [e]; exact hr.2⟩
  | own b ver n =>
    obtain ⟨_, _, _, _, hb, _⟩ := ho
    have e := he b (by rw [hb]; simp)
    exact ⟨hr.1, by rw [e]; exact hr.2⟩
  | _ => exact hr
theorem blkRel_congr {F : Nat → Prop} {ρ ρ' : Nat → Lc} {h : Nat → Option Blk} {w : World} {b : Nat} {x : Blk} (hB : blkRel F ρ w b x) (hO : okBlk h x) (hb : ρ' b = ρ b) (he : ∀ c, h c ≠ none → ρ' c = ρ c) : blkRel F ρ' w b x := by
  have hc : ∀ {c : C} {v : Value}, okC h c → relC F ρ w c v → relC F ρ' w c v := fun ho hr => ld4 hr ho he
  cases x with
  | obj cells =>
    obtain ⟨hv, g, e, cs, h1, h2, hj⟩ := hB
    refine ⟨by rw [hb]; exact hv, g, e, cs, by rw [hb]; exact h1, h2, fun j c hcj => ?_⟩
    obtain ⟨u, hu, hr⟩ := hj j c hcj
    exact ⟨u, hu, hc (hO c (List.mem_of_getElem? hcj)) hr⟩
  | row e k v rows =>
    obtain ⟨hv, hk, hr⟩ := hB
    refine ⟨by rw [hb]; exact hv, hk, ?_⟩
    rw [hb]
    refine hr.imp id ?_
    rintro ⟨g, cs, h1, h2, h3, h4, h5, hj⟩
    refine ⟨g, cs, h1, h2, h3, h4, h5, fun i row hi => ⟨(hj i row hi).1, fun j c hcj => ?_⟩⟩
    obtain ⟨u, hu, hr⟩ := (hj i row hi).2 j c hcj
    exact ⟨u, hu, hc (hO row (List.mem_of_getElem? hi) c (List.mem_of_getElem? hcj)) hr⟩
theorem relU_congr {F : Nat → Prop} {ρ ρ' : Nat → Lc} {h : Nat → Option Blk} {w : World} {u : U} {v : Value} (hr : relU F ρ w u v) (ho : okU h u) (he : ∀ c, h c ≠ none → ρ' c = ρ c) : relU F ρ' w u v := by
  have hc : ∀ {c : C} {v : Value}, okC h c → relC F ρ w c v → relC F ρ' w c v := fun ho hr => ld4 hr ho he
  have h1 : ∀ {u : U} {v : Value}, okU1 h u → relU1 F ρ w u v → relU1 F ρ' w u v := fun {u v} ho hr => by
    cases u with
    | any => trivial
    | one c => exact hc ho hr
    | agg l => obtain ⟨vs, hv, ha⟩ := hr; exact ⟨vs, hv, ha.mono fun c hcm v => hc (ho c hcm)⟩
    | tup l => exact hr.elim
  cases u with
  | tup l => obtain ⟨vs, hv, ha⟩ := hr; exact ⟨vs, hv, ha.mono fun u hu v => h1 (ho u hu)⟩
  | any => trivial
  | one c => exact hc ho hr
  | agg l => exact h1 (u := .agg l) ho hr
theorem lcg : ∀ (O : List (Nat × Blk)) (h : Nat → Option Blk) (b : Nat), (namesL O).Nodup → applyP (patchL O) h b = (if b ∈ namesL O then ofL O b else h b)
  | [], h, b, _ => by simp [patchL, applyP, namesL]
  | (c, x) :: O, h, b, hnd => by
    have hnd' : c ∉ namesL O ∧ (namesL O).Nodup := by simpa [namesL] using hnd
    show applyP (patchL O) (upd h c (some x)) b = _
    rw [lcg O _ b hnd'.2]
    by_cases hbc : b = c
    · subst hbc
      rw [if_neg hnd'.1, la3, if_pos (by simp [namesL])]
      simp [ofL, la3]
    · rw [lbl _ _ hbc]
      by_cases hb : b ∈ namesL O
      · rw [if_pos hb, if_pos (by simp only [namesL, List.map_cons, List.mem_cons]; exact .inr hb)]
        simp [ofL, lbl _ _ hbc]
      · rw [if_neg hb, if_neg (by simp only [namesL, List.map_cons, List.mem_cons, not_or]; exact ⟨hbc, hb⟩)]
theorem lfR {d : List Nat} {F F' : Nat → Prop} {ρ ρ' : Nat → Lc} {h : Nat → Option Blk} {w w' : World} {O O' : List (Nat × Blk)} (H : HRel F ρ h w) (hO : ∀ b ∈ namesL O, h b = ofL O b) (hn : namesL O' = namesL O) (hnd : (namesL O).Nodup)
    (M : Moves (namesL O) F ρ (ofL O) w F' ρ' (ofL O') w') : ∃ ρ'', Moves d F ρ h w F' ρ'' (applyP (patchL O') h) w' ∧ (∀ b, ofL O' b ≠ none → ρ'' b = ρ' b) := by
  let ρ'' : Nat → Lc := fun b => if b ∈ namesL O then ρ' b else ρ b
  have hr1 : ∀ b, b ∈ namesL O → ρ'' b = ρ' b := fun b hb => if_pos hb
  have hr2 : ∀ b, b ∉ namesL O → ρ'' b = ρ b := fun b hb => if_neg hb
  have hh : ∀ b, applyP (patchL O') h b = if b ∈ namesL O then ofL O' b else h b := fun b => by rw [lcg O' h b (by rw [hn]; exact hnd), hn]
  have hO'n : ∀ b, ofL O' b ≠ none → b ∈ namesL O := fun b hb => by rw [← hn]; exact lbm.2 hb
  have hs : ∀ b, ρ'' b = ρ b ∨ (ρ b).v < (ρ'' b).v := fun b => by
    by_cases hb : b ∈ namesL O
    · rw [hr1 b hb]; exact M.stbd b hb
    · rw [hr2 b hb]; exact .inl rfl
  have same := M.same
  have hne : ∀ b, b ∈ namesL O → h b ≠ none := fun b hb => by rw [hO b hb]; exact lbm.1 hb
  have le : ∀ b x, h b = some x → ∃ x', applyP (patchL O') h b = some x' ∧ leB x x' := fun b x hx => by
    by_cases hb : b ∈ namesL O
    · rw [hO b hb] at hx
      obtain ⟨x', h1, h2⟩ := M.le b x hx
      exact ⟨x', by rw [hh, if_pos hb]; exact h1, h2⟩
    · exact ⟨x, by rw [hh, if_neg hb]; exact hx, lb7 x⟩
  have okO' : ∀ c, okC (ofL O') c → okC (applyP (patchL O') h) c := fun c hc => by
    have key : ∀ b x, ofL O' b = some x → applyP (patchL O') h b = some x := fun b x hx => by rw [hh, if_pos (hO'n b (by rw [hx]; simp))]; exact hx
    cases c with
    | ptr b o => obtain ⟨cells, hb⟩ := hc; exact ⟨cells, key b _ hb⟩
    | loc b g => obtain ⟨cells, hb⟩ := hc; exact ⟨cells, key b _ hb⟩
    | eptr b v k i o => obtain ⟨e, k, v', rows, hb, hle⟩ := hc; exact ⟨e, k, v', rows, key b _ hb, hle⟩
    | own b v n => obtain ⟨e, k, v', rows, hb, hle⟩ := hc; exact ⟨e, k, v', rows, key b _ hb, hle⟩
    | _ => trivial
  refine ⟨ρ'', ⟨M.sub, same, fun b _ => hs b, fun b _ => hs b, ⟨fun b x hx => ?_, fun b b' g hb hb' hg hg' => ?_, fun b g hb hg => ?_, M.heap.lt, fun b x hx => ?_, M.heap.gl, M.heap.gx⟩, le, fun b g hb hg => ?_, fun k hk => (M.Fnew k hk).imp id (.imp id fun ⟨b, hb, hg⟩ => ⟨b, hne b (lbm.2 hb), hg⟩), M.os, M.tape, M.output, M.size, fun k hk hno => M.kept k hk fun b hb => ?_⟩, fun b hb => hr1 b (hO'n b hb)⟩
  · rw [hh] at hx
    by_cases hb : b ∈ namesL O
    · rw [if_pos hb] at hx
      exact blkRel_congr (M.heap.blk b x hx) (M.heap.ok b x hx) (hr1 b hb) fun c hc => hr1 c (hO'n c hc)
    · rw [if_neg hb] at hx
      refine ldF H M.sub same (fun c _ => hs c) hx (hr2 b hb) fun g hg => M.kept g (H.glt (by rw [hx]; simp) hg) fun c hc hgc => ?_
      have hcn : c ∈ namesL O := lbm.2 hc
      have := H.inj b c g (by rw [hx]; simp) (hne c hcn) hg hgc
      subst this
      exact hb hcn
  · rw [hh] at hb hb'
    have key : ∀ b b', b ∈ namesL O → b' ∉ namesL O → ofL O' b ≠ none → h b' ≠ none → (ρ' b).g = some g → (ρ b').g = some g → False := fun b b' hbn hbn' h1 h2 h3 h4 => by
      rcases M.own b g h1 h3 with ⟨b0, h5, h6⟩ | h5
      · have hb0 : b0 ∈ namesL O := lbm.2 h5
        have := H.inj b0 b' g (hne b0 hb0) h2 h6 h4
        subst this
        exact hbn' hb0
      · have := H.glt h2 h4
        omega
    by_cases h1 : b ∈ namesL O <;> by_cases h2 : b' ∈ namesL O
    · rw [if_pos h1] at hb; rw [if_pos h2] at hb'; rw [hr1 b h1] at hg; rw [hr1 b' h2] at hg'
      exact M.heap.inj b b' g hb hb' hg hg'
    · rw [if_pos h1] at hb; rw [if_neg h2] at hb'; rw [hr1 b h1] at hg; rw [hr2 b' h2] at hg'
      exact (key b b' h1 h2 hb hb' hg hg').elim
    · rw [if_neg h1] at hb; rw [if_pos h2] at hb'; rw [hr2 b h1] at hg; rw [hr1 b' h2] at hg'
      exact (key b' b h2 h1 hb' hb hg' hg).elim
    · rw [if_neg h1] at hb; rw [if_neg h2] at hb'; rw [hr2 b h1] at hg; rw [hr2 b' h2] at hg'
      exact H.inj b b' g hb hb' hg hg'
  · rw [hh] at hb
    by_cases h1 : b ∈ namesL O
    · rw [if_pos h1] at hb; rw [hr1 b h1] at hg
      exact M.heap.notF b g hb hg
    · rw [if_neg h1] at hb; rw [hr2 b h1] at hg
      intro hf
      rcases M.Fnew g hf with h2 | h2 | ⟨b0, h2, h3⟩
      · exact H.notF b g hb hg h2
      · have := H.glt hb hg; omega
      · have hb0 : b0 ∈ namesL O := lbm.2 h2
        have := H.inj b b0 g hb (hne b0 hb0) hg h3
        subst this
        exact h1 hb0
  · rw [hh] at hx
    by_cases hb : b ∈ namesL O
    · rw [if_pos hb] at hx
      have := M.heap.ok b x hx
      cases x with
      | obj cells => exact fun c hc => okO' c (this c hc)
      | row e k v rows => exact fun r hr c hc => okO' c (this r hr c hc)
    · rw [if_neg hb] at hx
      exact lcE le (H.ok b x hx)
  · rw [hh] at hb
    by_cases h1 : b ∈ namesL O
    · rw [if_pos h1] at hb; rw [hr1 b h1] at hg
      rcases M.own b g hb hg with ⟨b0, h5, h6⟩ | h5
      · exact .inl ⟨b0, hne b0 (lbm.2 h5), h6⟩
      · exact .inr h5
    · rw [if_neg h1] at hb; rw [hr2 b h1] at hg
      exact .inl ⟨b, hb, hg⟩
  · exact hno b (by have := lbm.2 hb; exact hne b this)
def OkL (O : List (Nat × Blk)) : Prop := ∀ b x, ofL O b = some x → okBlk (ofL O) x
theorem hrel_part {F : Nat → Prop} {ρ : Nat → Lc} {h : Nat → Option Blk} {w : World} {O : List (Nat × Blk)} (H : HRel F ρ h w) (hO : ∀ b ∈ namesL O, h b = ofL O b) (hok : OkL O) : HRel F ρ (ofL O) w :=
  have key : ∀ b, ofL O b ≠ none → h b = ofL O b := fun b hb => hO b (lbm.2 hb)
  ⟨fun b x hx => H.blk b x (by rw [key b (by rw [hx]; simp)]; exact hx), fun b b' g hb hb' => H.inj b b' g (by rw [key b hb]; exact hb) (by rw [key b' hb']; exact hb'), fun b g hb => H.notF b g (by rw [key b hb]; exact hb), H.lt, hok, H.gl, H.gx⟩
section
variable {P : Program} {s : St} {dst : Option Tmp} {rt : TypeId} {pos : String} {after : Array Edge} {guard : Option (Nat × Bool)}
theorem loc_call {f : FuncId} {fo : Operand} {args : Array Operand} {ats : Array TypeId} {us us' : List U} {O O' : List (Nat × Blk)} {r : U} (hf : opU s.t fo = .one (.fn f)) (hus : args.toList.map (opU s.t) = us) (hle : All2 LeU us us') (hc : ACalls P f us' O r O')
    (hO : ∀ b ∈ namesL O, s.h b = ofL O b) (hn : namesL O' = namesL O) (hnd : (namesL O).Nodup) (hok : OkL O) (hua : ∀ u ∈ us', okU (ofL O) u) :
    LocOp P ⟨dst, .call ⟨.value fo, args, ats⟩, rt, pos, after, guard⟩ s [] (patchL O') r := by
  intro F ρ h w a Q H hR hx
  have hnp : namesP (patchL O') = namesL O' := by simp [namesP, patchL, namesL]
  have hO : ∀ b ∈ namesL O, h b = ofL O b := fun b hb => (hR b (.inr (by rw [hnp, hn]; exact hb))).trans (hO b hb)
  have hx := lby H hx
  have hfo := (hx fo (by simp [Op.operands, Call.operands])).1
  rw [hf] at hfo
  have hfo : a.eval fo = .func (.func f) #[] #[] := hfo
  obtain ⟨hcan, hc⟩ := hc
  have hex : (execOp a.eval (⟨dst, .call ⟨.value fo, args, ats⟩, rt, pos, after, guard⟩ : Oper)).run P w = .ok (.enter f (args.map a.eval)) w := by
    unfold canCall at hcan
    split at hcan
    · rename_i fn hfn
      simp only [Bool.and_eq_true, Bool.not_eq_true', beq_eq_false_iff_ne] at hcan
      have hb' : ¬ fn.body = none := fun h => by simp [h] at hcan
      generalize a.eval = ev at *
      simp [execOp, resolve, Deferred.ofValue, invoke, callFunc, hfo, hfn, hcan.1, hb']
    · cases hcan
  unfold Oper.wp
  rw [hex]
  simp only [Oper.upon]
  have hargs : All2 (fun u v => relU F ρ w u v ∧ okU (ofL O) u) us' (args.toList.map a.eval) := by
    have h1 : ∀ (xs : List Operand), (∀ x ∈ xs, relU F ρ w (opU s.t x) (a.eval x)) → ∀ us', All2 LeU (xs.map (opU s.t)) us' → (∀ u ∈ us', okU (ofL O) u) → All2 (fun u v => relU F ρ w u v ∧ okU (ofL O) u) us' (xs.map a.eval) := by
      intro xs
      induction xs with
      | nil => intro _ us' h1 h2; cases us' with | nil => trivial | cons => exact h1.elim
      | cons x xs ih =>
        intro hx us' h1 h2
        cases us' with
        | nil => exact h1.elim
        | cons u us' => exact ⟨⟨h1.1.rel (hx x (List.mem_cons_self ..)), h2 u (List.mem_cons_self ..)⟩, ih (fun y hy => hx y (List.mem_cons_of_mem _ hy)) us' h1.2 fun v hv => h2 v (List.mem_cons_of_mem _ hv)⟩
    exact h1 _ (fun x hxm => (hx x (by simp [Op.operands, Call.operands]; exact .inr (by simpa using hxm))).1) _ (by rw [hus]; exact hle) hua
  have hcalls := hc F ρ w (args.toList.map a.eval) (hrel_part H hO hok) hargs
  rw [show (args.toList.map a.eval).toArray = args.map a.eval by apply Array.ext'; simp] at hcalls
  refine hcalls.mono ?_
  rintro e w' ⟨v, F', ρ', rfl, M, hr, hro⟩
  obtain ⟨ρ'', M', he⟩ := lfR (d := s.d) H hO hn hnd M
  refine ⟨v, F', ρ'', rfl, M', relU_congr hr hro he, ?_⟩
  have hh : ∀ b x, ofL O' b = some x → ∃ x', applyP (patchL O') h b = some x' ∧ leB x x' := fun b x hx => ⟨x, by
    rw [lcg O' h b (by rw [hn]; exact hnd), if_pos (lbm.2 (by rw [hx]; simp))]; exact hx, lb7 x⟩
  exact ldk hh hro
theorem loc_callQ {f : FuncId} {fo : Operand} {args : Array Operand} {ats : Array TypeId} {us us' : List U} {r : U} (hf : opU s.t fo = .one (.fn f)) (hus : args.toList.map (opU s.t) = us) (hle : All2 LeU us us') (hc : ACalls P f us' [] r []) (hua : ∀ u ∈ us', okU (ofL []) u) :
    LocOp P ⟨dst, .call ⟨.value fo, args, ats⟩, rt, pos, after, guard⟩ s [] [] r :=
  loc_call hf hus hle hc (fun b hb => by simp [namesL] at hb) rfl (by simp [namesL]) (fun b x hx => by simp [ofL] at hx) hua
end
def AllP {α : Type} (p : α → Prop) : List α → Prop
  | [] => True
  | a :: l => p a ∧ AllP p l
theorem lbh {α : Type} {p : α → Prop} : ∀ {l : List α}, AllP p l ↔ ∀ a ∈ l, p a := by
  intro l
  induction l with
  | nil => exact ⟨fun _ a h => (by cases h), fun _ => trivial⟩
  | cons a l ih =>
    constructor
    · rintro ⟨h, k⟩ b hb
      rcases List.mem_cons.1 hb with rfl | hb
      · exact h
      · exact ih.1 k b hb
    · exact fun h => ⟨h a (List.mem_cons_self ..), ih.2 fun b hb => h b (List.mem_cons_of_mem _ hb)⟩
def RunL (P : Program) (ops : Array Oper) (d : List Nat) (dr : Bool) (K : (Nat → U) → (Nat → Option Blk) → Prop) : List Oper → List (List Nat × List Nat) → (Nat → U) → (Nat → Option Blk) → Prop
  | [], acc, t, h => (dr = true → okSwap ops acc.reverse = true) ∧ K t h
  | o :: l, acc, t, h => ∃ R W,
      ((GuardU ops o t true ∧ ∃ p v, LocOp P o ⟨t, h, d⟩ R p v ∧ namesP p = W ∧ RunL P ops d dr K l ((R, W) :: acc) (updD t o.dst v) (applyP p h)) ∨ (GuardU ops o t false ∧ RunL P ops d dr K l ((R, W) :: acc) (updD t o.dst (.tup [])) h))
section
variable {P : Program} {ops : Array Oper} {d : List Nat} {dr : Bool} {K : (Nat → U) → (Nat → Option Blk) → Prop} {l : List Oper} {acc : List (List Nat × List Nat)} {t : Nat → U} {h : Nat → Option Blk}
  {op : Op} {rt : TypeId} {pos : String} {after : Array Edge} {guard : Option (Nat × Bool)} {x : Nat} {R : List Nat} {v : U} {b : Nat} {blk : Blk}
theorem RunL.nil (k : K t h) : RunL P ops d false K [] acc t h := ⟨fun h => (by cases h), k⟩
theorem RunL.nilD (hs : okSwap ops acc.reverse = true) (k : K t h) : RunL P ops d true K [] acc t h := ⟨fun _ => hs, k⟩
theorem RunL.val (hg : GuardU ops ⟨some x, op, rt, pos, after, guard⟩ t true) (hl : LocOp P ⟨some x, op, rt, pos, after, guard⟩ ⟨t, h, d⟩ R [] v) (k : RunL P ops d dr K l ((R, []) :: acc) (upd t x v) h) : RunL P ops d dr K (⟨some x, op, rt, pos, after, guard⟩ :: l) acc t h :=
  ⟨R, [], .inl ⟨hg, [], v, hl, rfl, k⟩⟩
theorem RunL.mem (hg : GuardU ops ⟨some x, op, rt, pos, after, guard⟩ t true) (hl : LocOp P ⟨some x, op, rt, pos, after, guard⟩ ⟨t, h, d⟩ R [(b, some blk)] v) (k : RunL P ops d dr K l ((R, [b]) :: acc) (upd t x v) (upd h b (some blk))) : RunL P ops d dr K (⟨some x, op, rt, pos, after, guard⟩ :: l) acc t h :=
  ⟨R, [b], .inl ⟨hg, [(b, some blk)], v, hl, rfl, k⟩⟩
theorem RunL.eff (hg : GuardU ops ⟨none, op, rt, pos, after, guard⟩ t true) (hl : LocOp P ⟨none, op, rt, pos, after, guard⟩ ⟨t, h, d⟩ R [(b, some blk)] .any) (k : RunL P ops d dr K l ((R, [b]) :: acc) t (upd h b (some blk))) : RunL P ops d dr K (⟨none, op, rt, pos, after, guard⟩ :: l) acc t h :=
  ⟨R, [b], .inl ⟨hg, [(b, some blk)], .any, hl, rfl, k⟩⟩
theorem RunL.many {O' : List (Nat × Blk)} (hg : GuardU ops ⟨some x, op, rt, pos, after, guard⟩ t true) (hl : LocOp P ⟨some x, op, rt, pos, after, guard⟩ ⟨t, h, d⟩ R (patchL O') v) (k : RunL P ops d dr K l ((R, namesL O') :: acc) (upd t x v) (applyP (patchL O') h)) : RunL P ops d dr K (⟨some x, op, rt, pos, after, guard⟩ :: l) acc t h :=
  ⟨R, _, .inl ⟨hg, _, v, hl, by simp [namesP, patchL, namesL], k⟩⟩
theorem RunL.skip (hg : GuardU ops ⟨some x, op, rt, pos, after, guard⟩ t false) (k : RunL P ops d dr K l (([], []) :: acc) (upd t x (.tup [])) h) : RunL P ops d dr K (⟨some x, op, rt, pos, after, guard⟩ :: l) acc t h :=
  ⟨[], [], .inr ⟨hg, k⟩⟩
end
theorem ldl {P : Program} {ops : Array Oper} {d : List Nat} {dr : Bool} {K : (Nat → U) → (Nat → Option Blk) → Prop} : ∀ (l : List Oper) (acc : List (List Nat × List Nat)) (m : Nat) (t : Nat → U) (h : Nat → Option Blk), ops.toList.drop m = l → acc.length = m →
    RunL P ops d dr K l acc t h → ∃ foot t' h', (∃ more, foot = acc.reverse ++ more) ∧ (dr = true → okSwap ops foot = true) ∧ Chain (StepAt P ops foot) (List.range' m l.length) ⟨t, h, d⟩ ⟨t', h', d⟩ ∧ K t' h'
  | [], acc, m, t, h, _, _, ⟨hs, k⟩ => ⟨acc.reverse, t, h, ⟨[], by simp⟩, hs, rfl, k⟩
  | o :: l, acc, m, t, h, ho, hf, ⟨R, W, hr⟩ => by
    have hoi : ops[m]? = some o := by
      have : (ops.toList.drop m)[0]? = some o := by rw [ho]; rfl
      rw [List.getElem?_drop, Nat.add_zero, Array.getElem?_toList] at this
      exact this
    have hl : ops.toList.drop (m + 1) = l := by rw [← List.drop_drop, ho]; rfl
    have hfm : ∀ foot more, foot = ((R, W) :: acc).reverse ++ more → foot.getD m ([], []) = (R, W) := fun foot more hfo => by
      rw [hfo, List.getD_eq_getElem?_getD, List.reverse_cons, List.append_assoc, List.getElem?_append_right (by simp [hf]), List.length_reverse, hf, Nat.sub_self]
      rfl
    have hfm' : ∀ foot more, foot = ((R, W) :: acc).reverse ++ more → ∃ more', foot = acc.reverse ++ more' := fun foot more hfo => ⟨(R, W) :: more, by rw [hfo, List.reverse_cons, List.append_assoc]; rfl⟩
    rw [List.length_cons, List.range'_succ]
    rcases hr with ⟨hg, p, v, hl1, hn, k⟩ | ⟨hg, k⟩
    · obtain ⟨foot, t', h', ⟨more, hmo⟩, hs, hc, hk⟩ := ldl l ((R, W) :: acc) (m + 1) _ _ hl (by simp [hf]) k
      have hR := hfm foot more hmo
      exact ⟨foot, t', h', hfm' foot more hmo, hs, ⟨_, ⟨o, hoi, .inl ⟨hg, p, v, by rw [hR]; exact hl1, by rw [hR]; exact hn, rfl⟩⟩, hc⟩, hk⟩
    · obtain ⟨foot, t', h', ⟨more, hmo⟩, hs, hc, hk⟩ := ldl l ((R, W) :: acc) (m + 1) _ _ hl (by simp [hf]) k
      exact ⟨foot, t', h', hfm' foot more hmo, hs, ⟨_, ⟨o, hoi, .inr ⟨hg, rfl⟩⟩, hc⟩, hk⟩
def AW (P : Program) (n : Nat) (c : Code) (t : Nat → U) (h : Nat → Option Blk) (d : List Nat) (Q : Exit → (Nat → U) → (Nat → Option Blk) → Prop) : Prop :=
  ∀ (E : Env) (a : Act) (w : World), E.n = n → Sim E ⟨t, h, d⟩ a w → c.wp P (fun e a' w' => ∃ t' h', Sim E ⟨t', h', d⟩ a' w' ∧ Q e t' h') a w
def ThenQ (next : (Nat → U) → (Nat → Option Blk) → Prop) (Q : Exit → (Nat → U) → (Nat → Option Blk) → Prop) : Exit → (Nat → U) → (Nat → Option Blk) → Prop
  | .normal, t, h => next t h
  | e, t, h => Q e t h
def InBlockQ (id : Nat) (Q : Exit → (Nat → U) → (Nat → Option Blk) → Prop) : Exit → (Nat → U) → (Nat → Option Blk) → Prop
  | .exit id', t, h => if id' = id then Q .normal t h else Q (.exit id') t h
  | e, t, h => Q e t h
section
variable {P : Program} {n : Nat} {t : Nat → U} {h : Nat → Option Blk} {d : List Nat} {Q : Exit → (Nat → U) → (Nat → Option Blk) → Prop}
theorem AW.mono {c : Code} {Q' : Exit → (Nat → U) → (Nat → Option Blk) → Prop} (hw : AW P n c t h d Q) (hq : ∀ e t h, Q e t h → Q' e t h) : AW P n c t h d Q' := fun E a w hn S => wp_mono (hw E a w hn S) fun e a' w' ⟨t', h', S', q⟩ => ⟨t', h', S', hq _ _ _ q⟩
theorem AW.skip (q : Q .normal t h) : AW P n .skip t h d Q := fun E a w hn S => wp_skip ⟨t, h, S, q⟩
theorem AW.exit {id : Nat} (q : Q (.exit id) t h) : AW P n (.exit id) t h d Q := fun E a w hn S => wp_exit ⟨t, h, S, q⟩
theorem AW.ret (q : Q .ret t h) : AW P n .ret t h d Q := fun E a w hn S => wp_ret ⟨t, h, S, q⟩
theorem AW.seq {x y : Code} (hw : AW P n x t h d (ThenQ (fun t h => AW P n y t h d Q) Q)) : AW P n (.seq x y) t h d Q := fun E a w hn S =>
  wp_seq (wp_mono (hw E a w hn S) fun e a' w' ⟨t', h', S', q⟩ => by
    cases e <;> first | exact q E a' w' hn S' | exact ⟨t', h', S', q⟩)
theorem AW.condT {c : Operand} {x y : Code} (hc : opU t c = .one (.bool true)) (hw : AW P n x t h d Q) : AW P n (.cond c x y) t h d Q := fun E a w hn S => wp_cond_true (by
    obtain ⟨F, ρ, S⟩ := S
    cases c with
    | tmp c => have this : relU F ρ w (t c) (a.tmps.getD c undef) := S.rel c; rw [show t c = _ from hc] at this; exact this
    | const c => have := (lcD F ρ w h c).1; rw [show constU c = _ from hc] at this; exact this
    | global g => have := (lby (t := t) (a := a) (o := ⟨none, .move (.global g), 0, "", #[], none⟩) S.heap (fun x hx => by simp [Oper.reads, Op.operands] at hx) (.global g) (by simp [Op.operands])).1; rw [hc] at this; exact this
    | func f => cases hc) (hw E a w hn S)
theorem AW.condF {c : Operand} {x y : Code} (hc : opU t c = .one (.bool false)) (hw : AW P n y t h d Q) : AW P n (.cond c x y) t h d Q := fun E a w hn S => wp_cond_false (by
    obtain ⟨F, ρ, S⟩ := S
    cases c with
    | tmp c => have this : relU F ρ w (t c) (a.tmps.getD c undef) := S.rel c; rw [show t c = _ from hc] at this; exact this
    | const c => have := (lcD F ρ w h c).1; rw [show constU c = _ from hc] at this; exact this
    | global g => have := (lby (t := t) (a := a) (o := ⟨none, .move (.global g), 0, "", #[], none⟩) S.heap (fun x hx => by simp [Oper.reads, Op.operands] at hx) (.global g) (by simp [Op.operands])).1; rw [hc] at this; exact this
    | func f => cases hc) (hw E a w hn S)
theorem AW.cond {c : Operand} {x y : Code} {b : Bool} (hc : opU t c = .one (.bool b)) (hT : b = true → AW P n x t h d Q) (hF : b = false → AW P n y t h d Q) : AW P n (.cond c x y) t h d Q := by
  cases b with
  | true => exact AW.condT hc (hT rfl)
  | false => exact AW.condF hc (hF rfl)
theorem AW.block {id : Nat} {c : Code} (hw : AW P n c t h d (InBlockQ id Q)) : AW P n (.block id c) t h d Q := fun E a w hn S =>
  wp_block (wp_mono (hw E a w hn S) fun e a' w' ⟨t', h', S', q⟩ => by
    cases e with
    | exit id' =>
      show Exit.inBlock id _ (.exit id') a' w'
      simp only [Exit.inBlock]
      simp only [InBlockQ] at q
      split
      · rename_i hid; rw [if_pos hid] at q; exact ⟨t', h', S', q⟩
      · rename_i hid; rw [if_neg hid] at q; exact ⟨t', h', S', q⟩
    | _ => exact ⟨t', h', S', q⟩)
theorem AW.region {id : Nat} {ops : Array Oper} (hd : dstOk ops n = true) (hw : RunL P ops d false (fun t h => Q .normal t h) ops.toList [] t h) : AW P n (.region id ops false) t h d Q := fun E a w hn S => by
  obtain ⟨foot, t', h', _, _, hc, k⟩ := ldl ops.toList [] 0 t h rfl rfl hw
  rw [show ops.toList.length = ops.size by simp, ← List.range_eq_range'] at hc
  exact region_text foot (by rw [hn]; exact hd) S hc fun a w S => ⟨t', h', S, k⟩
theorem AW.regionD {id : Nat} {ops : Array Oper} (hm : P.follows .mixedOrders = true) (hdn : edgesDown ops = true) (hd : dstOk ops n = true) (hw : RunL P ops d true (fun t h => Q .normal t h) ops.toList [] t h) : AW P n (.region id ops true) t h d Q := fun E a w hn S => by
  obtain ⟨foot, t', h', _, hs, hc, k⟩ := ldl ops.toList [] 0 t h rfl rfl hw
  rw [show ops.toList.length = ops.size by simp, ← List.range_eq_range'] at hc
  exact region_draw foot hm hdn (by rw [hn]; exact hd) (hs rfl) S hc fun a w S => ⟨t', h', S, k⟩
def Gh (d : List Nat) (t : Nat → U) (h : Nat → Option Blk) (t' : Nat → U) (h' : Nat → Option Blk) : Prop := ∀ E a w, Sim E ⟨t, h, d⟩ a w → Sim E ⟨t', h', d⟩ a w
theorem Gh.refl (d : List Nat) (t : Nat → U) (h : Nat → Option Blk) : Gh d t h t h := fun _ _ _ S => S
theorem AW.gh {c : Code} {t' : Nat → U} {h' : Nat → Option Blk} (g : Gh d t h t' h') (hw : AW P n c t' h' d Q) : AW P n c t h d Q := fun E a w hn S => hw E a w hn (g E a w S)
theorem AW.loop {c : Code} (I : Nat → (Nat → U) → (Nat → Option Blk) → Prop) (m0 : Nat) (h0 : I m0 t h)
    (hr : ∀ m t h, I m t h → AW P n c t h d (ThenQ (fun t h => ∃ m' t' h', m' < m ∧ Gh d t h t' h' ∧ I m' t' h') Q)) : AW P n (.loop c) t h d Q := by
  intro E a w hn S
  have key : ∀ m t h a w, I m t h → Sim E ⟨t, h, d⟩ a w → ∃ k, Code.rounds P c (fun e a' w' => ∃ t' h', Sim E ⟨t', h', d⟩ a' w' ∧ Q e t' h') k a w := by
    intro m
    induction m using Nat.strongRecOn with
    | ind m ih =>
      intro t h a w hi S
      -- the rounds' number is not known before the round: a bound that serves each end
      have hb := hr m t h hi E a w hn S
      exact ⟨m + 1, by
        have hall : ∀ m' t h a w, m' ≤ m → I m' t h → Sim E ⟨t, h, d⟩ a w → Code.rounds P c (fun e a' w' => ∃ t' h', Sim E ⟨t', h', d⟩ a' w' ∧ Q e t' h') (m' + 1) a w := by
          intro m'
          induction m' using Nat.strongRecOn with
          | ind m' ih' =>
            intro t h a w hle hi S
            rw [rounds_succ]
            refine wp_mono (hr m' t h hi E a w hn S) fun e a' w' ⟨t', h', S', q⟩ => ?_
            cases e with
            | normal =>
              obtain ⟨m2, t2, h2, hlt, hg, hi2⟩ := q
              have h3 := ih' m2 hlt t2 h2 a' w' (by omega) hi2 (hg E a' w' S')
              have hmono : ∀ k j a w, k ≤ j → Code.rounds P c (fun e a' w' => ∃ t' h', Sim E ⟨t', h', d⟩ a' w' ∧ Q e t' h') k a w → Code.rounds P c (fun e a' w' => ∃ t' h', Sim E ⟨t', h', d⟩ a' w' ∧ Q e t' h') j a w := by
                intro k
                induction k with
                | zero => intro j a w _ h; exact h.elim
                | succ k ihk =>
                  intro j a w hkj h
                  cases j with
                  | zero => omega
                  | succ j =>
                    rw [rounds_succ] at h ⊢
                    refine wp_mono h fun e a w q => ?_
                    cases e with
                    | normal => exact ihk j a w (by omega) q
                    | _ => exact q
              exact hmono (m2 + 1) m' a' w' (by omega) h3
            | _ => exact ⟨t', h', S', q⟩
        exact hall m t h a w (Nat.le_refl _) hi S⟩
  obtain ⟨k, hk⟩ := key m0 t h a w h0 S
  exact wp_loop_rounds k hk
end
def tOfL : List (Nat × U) → Nat → U
  | [] => fun _ => .any
  | (x, u) :: l => upd (tOfL l) x u
theorem ld5 : ∀ (l : List (Nat × U)) (x : Nat), tOfL l x = .any ∨ (x, tOfL l x) ∈ l
  | [], x => .inl rfl
  | (y, u) :: l, x => by
    by_cases h : x = y
    · subst h; right; rw [tOfL, la3]; exact List.mem_cons_self ..
    · rw [tOfL, lbl _ _ h]
      exact (ld5 l x).imp id (List.mem_cons_of_mem _)
theorem ld6 : ∀ {l : List (Nat × Blk)} {b : Nat} {x : Blk}, ofL l b = some x → (b, x) ∈ l
  | [], b, x, h => by cases h
  | (c, y) :: l, b, x, h => by
    by_cases hb : b = c
    · subst hb
      rw [ofL, la3] at h; cases h
      exact List.mem_cons_self ..
    · rw [ofL, lbl _ _ hb] at h
      exact List.mem_cons_of_mem _ (ld6 h)
inductive WkC (h : Nat → Option Blk) (fz : List Nat) (ad : List Nat) : C → C → Prop
  | le {c c' : C} : LeC c c' → WkC h fz ad c c'
  | row {b v n k : Nat} {e : TypeId} {rows rows' : List (List C)} : b ∈ fz → h b = some (.row e k v rows) → rows.length = n → LeRows rows rows' → WkC h fz ad (.own b v n) (slOf k rows')
  | obj {b : Nat} {cells cells' : List C} : b ∈ fz → h b = some (.obj cells) → All2 LeC cells cells' → WkC h fz ad (.ptr b 0) (fpo cells' 0)
  | nil {b : Nat} : b ∈ ad → WkC h fz ad .nilsl (.own b 0 0)
def WkU1 (h : Nat → Option Blk) (fz : List Nat) (ad : List Nat) : U → U → Prop
  | .one c, .one c' => WkC h fz ad c c'
  | .agg l, .agg l' => All2 (WkC h fz ad) l l'
  | _, .any => True
  | _, _ => False
def WkU (h : Nat → Option Blk) (fz : List Nat) (ad : List Nat) : U → U → Prop
  | .tup l, .tup l' => All2 (WkU1 h fz ad) l l'
  | .tup _, .any => True
  | u, u' => WkU1 h fz ad u u'
theorem laX {h : Nat → Option Blk} {fz ad : List Nat} : ∀ l : List C, All2 (WkC h fz ad) l l
  | [] => trivial
  | c :: l => ⟨.le (.refl c), laX l⟩
theorem WkU1.refl {h : Nat → Option Blk} {fz ad : List Nat} {u : U} (hu : ∀ l, u ≠ .tup l) : WkU1 h fz ad u u := by
  cases u with
  | any => trivial
  | one c => exact WkC.le (.refl c)
  | agg l => exact laX l
  | tup l => exact absurd rfl (hu l)
theorem WkU.one {h : Nat → Option Blk} {fz ad : List Nat} {c : C} : WkU h fz ad (.one c) (.one c) := WkC.le (.refl c)
theorem WkU.agg {h : Nat → Option Blk} {fz ad : List Nat} {l : List C} : WkU h fz ad (.agg l) (.agg l) := laX l
def WkBlk (h : Nat → Option Blk) (fz : List Nat) (ad : List Nat) : Blk → Blk → Prop
  | .obj l, .obj l' => All2 (WkC h fz ad) l l'
  | .row e k v rows, .row e' k' v' rows' => e = e' ∧ k = k' ∧ v = v' ∧ All2 (All2 (WkC h fz ad)) rows rows'
  | _, _ => False
theorem lfS {h : Nat → Option Blk} {fz ad : List Nat} : ∀ l : List (List C), All2 (All2 (WkC h fz ad)) l l
  | [] => trivial
  | c :: l => ⟨laX c, lfS l⟩
theorem WkBlk.refl {h : Nat → Option Blk} {fz ad : List Nat} (x : Blk) : WkBlk h fz ad x x := by
  cases x with
  | obj l => exact laX l
  | row e k v rows => exact ⟨rfl, rfl, rfl, lfS rows⟩
def BlkNew (h : Nat → Option Blk) (d fz ad : List Nat) (b : Nat) (x : Blk) : Prop :=
  (∃ x0, h b = some x0 ∧ WkBlk h fz ad x0 x) ∨ (h b = none ∧ b ∈ ad ∧ ∃ e k, 0 < k ∧ x = .row e k 0 [])
def closedBlk : Blk → Bool
  | .obj l => closedRow l
  | .row _ _ _ rows => closedRows rows
def ClosedAt (h : Nat → Option Blk) (b : Nat) : Prop := ∃ x, h b = some x ∧ closedBlk x = true
def okU1' (h : Nat → Option Blk) : U → Prop
  | .one c => okC h c
  | .agg l => AllP (okC h) l
  | _ => True
def okU' (h : Nat → Option Blk) : U → Prop
  | .tup l => AllP (okU1' h) l
  | u => okU1' h u
def okBlk' (h : Nat → Option Blk) : Blk → Prop
  | .obj cells => AllP (okC h) cells
  | .row _ _ _ rows => ∀ row ∈ rows, ∀ c ∈ row, okC h c
theorem okU1_of {h : Nat → Option Blk} {u : U} (ho : okU1' h u) : okU1 h u := by
  cases u with
  | one c => exact ho
  | agg l => exact lbh.1 ho
  | _ => trivial
theorem okU_of {h : Nat → Option Blk} {u : U} (ho : okU' h u) : okU h u := by
  cases u with
  | one c => exact ho
  | agg l => exact lbh.1 ho
  | tup l => exact fun u hu => okU1_of (lbh.1 ho u hu)
  | any => trivial
theorem okBlk_of {h : Nat → Option Blk} {x : Blk} (ho : okBlk' h x) : okBlk h x := by
  cases x with
  | obj l => exact lbh.1 ho
  | row e k v rows => exact ho
theorem laY {h : Nat → Option Blk} {rows : List (List C)} (hc : closedRows rows = true) : ∀ row ∈ rows, ∀ c ∈ row, okC h c := fun row hr c hcm => la5 (lbR hc hr hcm)
section
variable {F F' : Nat → Prop} {ρ ρ' : Nat → Lc} {h : Nat → Option Blk} {w : World} {fz ad : List Nat}
theorem lfT (H : HRel F ρ h w) (hF : ∀ k, F k → F' k) (hfz : ∀ b ∈ fz, ClosedAt h b ∧ ∀ g, (ρ b).g = some g → F' g) (hρ : ∀ b, h b ≠ none → ρ' b = ρ b) (had : ∀ b ∈ ad, ρ' b = ⟨none, 0, 0⟩)
    {c c' : C} {v : Value} (hw : WkC h fz ad c c') (hok : okC h c) (hr : relC F ρ w c v) : relC F' ρ' w c' v := by
  have mono : ∀ {c : C} {v : Value}, relK F w c v → relK F' w c v := fun hr => lbC hF (fun _ _ => rfl) hr
  cases hw with
  | le hl =>
    refine hl.rel ?_
    have h1 := ld4 hr hok hρ
    cases c <;> first | exact h1 | exact mono h1
  | row hb hh hn hle =>
    rename_i b ver n k e rows rows'
    obtain ⟨⟨x, hx, hcl⟩, hg⟩ := hfz b hb
    rw [hh] at hx; cases hx
    have hver : (ρ b).v = ver := H.ver hh
    obtain ⟨_, hk, hB⟩ := H.blk b _ hh
    have hlen := All2.length hle
    rcases hr.2 hver with ⟨h1, h2, h3⟩ | ⟨g, h1, h3⟩
    · rcases hB with ⟨_, h4⟩ | ⟨g, _, h4, _⟩
      · subst h4
        have hnil : rows' = [] := List.eq_nil_of_length_eq_zero hlen.symm
        subst hnil
        exact (LeC.nil k).rel (c := .nilsl) h3
      · rw [h1] at h4; cases h4
    · rcases hB with ⟨h4, _⟩ | ⟨g', cs, h4, h5, h6, h7, h8, h9⟩
      · rw [h1] at h4; cases h4
      · rw [h1] at h4; cases h4
        have hs : relK F' w (slOf k rows) v := ⟨some ⟨g, 0, none⟩, (ρ b).cap, by rw [h3, hn], h7, Nat.le_trans h7 h8, fun i hi => ⟨g, 0, rfl, hg g h1, fun j hj => by
          obtain ⟨q1, q2⟩ := h9 i rows[i] (by simp [hi])
          have hj2 : j < rows[i].length := by rw [q1]; exact hj
          obtain ⟨u, hu, hru⟩ := q2 j rows[i][j] (by simp [hj2])
          refine ⟨u, by simp only [Nat.zero_add, World.cell?, h5]; simpa using hu, ?_⟩
          show relK F' w (rowF (rows.getD i []) j) u
          rw [List.getD_eq_getElem?_getD, List.getElem?_eq_getElem hi, Option.getD_some, show rowF rows[i] j = rows[i][j] by simp [rowF, hj2]]
          exact mono (lb5 (lbR hcl (List.getElem_mem hi) (List.getElem_mem hj2)) hru)⟩⟩
        exact (LeC.sl hle).relK' hs
  | obj hb hh hle =>
    rename_i b cells cells'
    obtain ⟨⟨x, hx, hcl⟩, hg⟩ := hfz b hb
    rw [hh] at hx; cases hx
    obtain ⟨hver, g, e, cs, h4, h5, h9⟩ := H.blk b _ hh
    obtain ⟨g', h1, h3⟩ := hr.2 hver
    rw [h1] at h4; cases h4
    have hs : relK F' w (fpo cells 0) v := ⟨g, 0, h3, hg g h1, fun j hj => by
      have hj2 : j < cells.length := by omega
      obtain ⟨u, hu, hru⟩ := h9 j cells[j] (by simp [hj2])
      refine ⟨u, by simp only [Nat.zero_add, World.cell?, h5]; simpa using hu, ?_⟩
      show relK F' w (rowF cells (0 + j)) u
      rw [Nat.zero_add, show rowF cells j = cells[j] by simp [rowF, hj2]]
      exact mono (lb5 (lbM hcl (List.getElem_mem hj2)) hru)⟩
    exact (LeC.fp hle).relK' hs
  | nil hb =>
    rename_i b
    have hv : v = .slice none 0 0 := hr
    subst hv
    exact ⟨rfl, fun _ => .inl ⟨by rw [had b hb], rfl, rfl⟩⟩
theorem wkU1_rel (H : HRel F ρ h w) (hF : ∀ k, F k → F' k) (hfz : ∀ b ∈ fz, ClosedAt h b ∧ ∀ g, (ρ b).g = some g → F' g) (hρ : ∀ b, h b ≠ none → ρ' b = ρ b) (had : ∀ b ∈ ad, ρ' b = ⟨none, 0, 0⟩)
    {u u' : U} {v : Value} (hw : WkU1 h fz ad u u') (hok : okU1 h u) (hr : relU1 F ρ w u v) : relU1 F' ρ' w u' v := by
  cases u <;> cases u' <;> simp only [WkU1] at hw <;> first | trivial | exact hw.elim | skip
  · exact lfT H hF hfz hρ had hw hok hr
  · obtain ⟨vs, hv, ha⟩ := hr
    refine ⟨vs, hv, All2.of (hw.length.symm.trans ha.length) fun i c' v hc hv => ?_⟩
    obtain ⟨c, h1, h2⟩ := hw.get' i c' hc
    obtain ⟨v', h3, h4⟩ := ha.get i c h1
    rw [hv] at h3; cases h3
    exact lfT H hF hfz hρ had h2 (hok c (List.mem_of_getElem? h1)) h4
theorem wkU_rel (H : HRel F ρ h w) (hF : ∀ k, F k → F' k) (hfz : ∀ b ∈ fz, ClosedAt h b ∧ ∀ g, (ρ b).g = some g → F' g) (hρ : ∀ b, h b ≠ none → ρ' b = ρ b) (had : ∀ b ∈ ad, ρ' b = ⟨none, 0, 0⟩)
    {u u' : U} {v : Value} (hw : WkU h fz ad u u') (hok : okU h u) (hr : relU F ρ w u v) : relU F' ρ' w u' v := by
  cases u with
  | tup l =>
    cases u' with
    | any => trivial
    | one c => exact hw.elim
    | agg l => exact hw.elim
    | tup l' =>
      obtain ⟨vs, hv, ha⟩ := hr
      have hw : All2 (WkU1 h fz ad) l l' := hw
      refine ⟨vs, hv, All2.of (hw.length.symm.trans ha.length) fun i c' v hc hv => ?_⟩
      obtain ⟨c, h1, h2⟩ := hw.get' i c' hc
      obtain ⟨v', h3, h4⟩ := ha.get i c h1
      rw [hv] at h3; cases h3
      exact wkU1_rel H hF hfz hρ had h2 (hok c (List.mem_of_getElem? h1)) h4
  | any =>
    cases u' <;> first | trivial | exact hw.elim
  | one c =>
    cases u' with
    | any => trivial
    | one c' => exact lfT H hF hfz hρ had hw hok hr
    | agg l => exact hw.elim
    | tup l => exact hw.elim
  | agg l =>
    cases u' with
    | any => trivial
    | one c' => exact hw.elim
    | agg l' => exact wkU1_rel (u := .agg l) (u' := .agg l') H hF hfz hρ had hw hok hr
    | tup l => exact hw.elim
end
theorem gh_core {d : List Nat} {t : Nat → U} {h : Nat → Option Blk} (tl : List (Nat × U)) (hl : List (Nat × Blk)) (fz ad : List Nat)
    (hT : AllP (fun p => WkU h fz ad (t p.1) p.2) tl) (hH : AllP (fun p => BlkNew h d fz ad p.1 p.2) hl) (hfz : AllP (ClosedAt h) fz) (had : AllP (fun b => h b = none) ad) (hadd : disj ad d = true) (hfl : disj fz (namesL hl) = true)
    (hok : AllP (fun p => okU' (ofL hl) p.2) tl) (hokh : AllP (fun p => okBlk' (ofL hl) p.2) hl) {E : Env} {a : Act} {w : World} {F : Nat → Prop} {ρ : Nat → Lc} (S : SimR E F ρ ⟨t, h, d⟩ a w) :
    ∃ F' ρ', SimR E F' ρ' ⟨tOfL tl, ofL hl, d⟩ a w ∧ ∀ u u' v, WkU h fz ad u u' → okU h u → relU F ρ w u v → relU F' ρ' w u' v := by
  have hT := lbh.1 hT
  have hH := lbh.1 hH
  have hfz := lbh.1 hfz
  have had := lbh.1 had
  have hadd := lcB hadd
  have hfl := lcB hfl
  have hok := lbh.1 hok
  have hokh := lbh.1 hokh
  let F' : Nat → Prop := fun k => F k ∨ ∃ b ∈ fz, (ρ b).g = some k
  let ρ' : Nat → Lc := fun b => if b ∈ ad then ⟨none, 0, 0⟩ else ρ b
  have hρ : ∀ b, h b ≠ none → ρ' b = ρ b := fun b hb => if_neg fun hm => hb (had b hm)
  have hρa : ∀ b ∈ ad, ρ' b = ⟨none, 0, 0⟩ := fun b hb => if_pos hb
  have hF : ∀ k, F k → F' k := fun k hk => .inl hk
  have hfz' : ∀ b ∈ fz, ClosedAt h b ∧ ∀ g, (ρ b).g = some g → F' g := fun b hb => ⟨hfz b hb, fun g hg => .inr ⟨b, hb, hg⟩⟩
  have hfzne : ∀ b ∈ fz, h b ≠ none := fun b hb => by obtain ⟨x, hx, _⟩ := hfz b hb; rw [hx]; simp
  have hlb : ∀ b, ofL hl b ≠ none → (∃ x x0, ofL hl b = some x ∧ h b = some x0 ∧ WkBlk h fz ad x0 x) ∨ (h b = none ∧ b ∈ ad ∧ ∃ e k, 0 < k ∧ ofL hl b = some (.row e k 0 [])) := fun b hb => by
    cases hx : ofL hl b with
    | none => exact absurd hx hb
    | some x =>
      rcases hH _ (ld6 hx) with ⟨x0, h1, h2⟩ | ⟨h1, h2, e, k, h3, h4⟩
      · exact .inl ⟨x, x0, rfl, h1, h2⟩
      · exact .inr ⟨h1, h2, e, k, h3, congrArg some h4⟩
  have hg : ∀ b g, ofL hl b ≠ none → (ρ' b).g = some g → h b ≠ none ∧ (ρ b).g = some g := fun b g hb hgb => by
    rcases hlb b hb with ⟨x, x0, _, h1, _⟩ | ⟨_, h2, _⟩
    · have hne : h b ≠ none := by rw [h1]; simp
      exact ⟨hne, by rw [← hρ b hne]; exact hgb⟩
    · rw [hρa b h2] at hgb; cases hgb
  refine ⟨F', ρ', ⟨fun x => ?_, ⟨fun b x hx => ?_, fun b b' g hb hb' hgb hgb' => ?_, fun b g hb hgb hf => ?_, fun k hk => ?_, fun b x hx => okBlk_of (hokh _ (ld6 hx)), fun g c hgl => lbC hF (fun _ _ => rfl) (S.heap.gl g c hgl), fun g p hx => ⟨hF g (S.heap.gx g p hx).1, (S.heap.gx g p hx).2⟩⟩, fun x => ?_, fun b g hb hgb => ?_, fun k hk => hF k (S.F0 k hk), fun k hk => ?_, S.os, S.tape, S.output, S.size, S.kept, fun b hb => ?_, S.d, S.tmps, S.defers⟩, fun u u' v hw ho hr => wkU_rel S.heap hF hfz' hρ hρa hw ho hr⟩
  · rcases ld5 tl x with h1 | h1
    · show relU F' ρ' w (tOfL tl x) _
      rw [h1]; trivial
    · exact wkU_rel S.heap hF hfz' hρ hρa (hT _ h1) (S.okt x) (S.rel x)
  · have hx : ofL hl b = some x := hx
    rcases hlb b (by rw [hx]; simp) with ⟨x', x0, h1, h2, h3⟩ | ⟨h1, h2, e, k, h3, h4⟩
    · rw [hx] at h1; cases h1
      have hB := S.heap.blk b x0 h2
      have hO := S.heap.ok b x0 h2
      have hb := hρ b (by rw [h2]; simp)
      cases x0 with
      | obj l =>
        cases x with
        | row => exact h3.elim
        | obj l' =>
          obtain ⟨hv, g, e, cs, q1, q2, q3⟩ := hB
          refine ⟨by rw [hb]; exact hv, g, e, cs, by rw [hb]; exact q1, q2, fun j c' hc' => ?_⟩
          obtain ⟨c, h5, h6⟩ := All2.get' h3 j c' hc'
          obtain ⟨u, hu, hr⟩ := q3 j c h5
          exact ⟨u, hu, lfT S.heap hF hfz' hρ hρa h6 (hO c (List.mem_of_getElem? h5)) hr⟩
      | row e k v rows =>
        cases x with
        | obj => exact h3.elim
        | row e' k' v' rows' =>
          obtain ⟨rfl, rfl, rfl, h3⟩ := h3
          obtain ⟨hv, hk, hr⟩ := hB
          refine ⟨by rw [hb]; exact hv, hk, ?_⟩
          rw [hb]
          rcases hr with ⟨q1, q2⟩ | ⟨g, cs, q1, q2, q3, q4, q5, q6⟩
          · subst q2
            exact .inl ⟨q1, List.eq_nil_of_length_eq_zero h3.length.symm⟩
          · refine .inr ⟨g, cs, q1, q2, q3, by rw [← h3.length]; exact q4, q5, fun i row' hi' => ?_⟩
            obtain ⟨row, h5, h6⟩ := h3.get' i row' hi'
            obtain ⟨q7, q8⟩ := q6 i row h5
            refine ⟨by rw [← h6.length]; exact q7, fun j c' hc' => ?_⟩
            obtain ⟨c, h7, h8⟩ := h6.get' j c' hc'
            obtain ⟨u, hu, hr⟩ := q8 j c h7
            exact ⟨u, hu, lfT S.heap hF hfz' hρ hρa h8 (hO row (List.mem_of_getElem? h5) c (List.mem_of_getElem? h7)) hr⟩
    · rw [hx] at h4; cases h4
      exact ⟨by rw [hρa b h2], h3, .inl ⟨by rw [hρa b h2], rfl⟩⟩
  · obtain ⟨h1, h2⟩ := hg b g hb hgb
    obtain ⟨h3, h4⟩ := hg b' g hb' hgb'
    exact S.heap.inj b b' g h1 h3 h2 h4
  · obtain ⟨h1, h2⟩ := hg b g hb hgb
    rcases hf with hf | ⟨b2, hb2, hg2⟩
    · exact S.heap.notF b g h1 h2 hf
    · have := S.heap.inj b b2 g h1 (hfzne b2 hb2) h2 hg2
      subst this
      exact hfl b hb2 (lbm.2 hb)
  · rcases hk with hk | ⟨b, hb, hgb⟩
    · exact S.heap.lt k hk
    · exact S.heap.glt (hfzne b hb) hgb
  · rcases ld5 tl x with h1 | h1
    · show okU _ (tOfL tl x)
      rw [h1]; trivial
    · exact okU_of (hok _ h1)
  · obtain ⟨h1, h2⟩ := hg b g hb hgb
    exact S.own b g h1 h2
  · rcases hk with hk | ⟨b, hb, hgb⟩
    · exact S.Fnew k hk
    · exact .inr (S.own b k (hfzne b hb) hgb)
  · have hne : b ∉ ad := fun hm => hadd b hm (by rw [show d = E.d from S.d]; exact hb)
    rw [show ρ' b = ρ b from if_neg hne]
    exact S.stab b hb
theorem laZ {d : List Nat} {t : Nat → U} {h : Nat → Option Blk} (tl : List (Nat × U)) (hl : List (Nat × Blk)) (fz ad : List Nat)
    (hT : AllP (fun p => WkU h fz ad (t p.1) p.2) tl) (hH : AllP (fun p => BlkNew h d fz ad p.1 p.2) hl) (hfz : AllP (ClosedAt h) fz) (had : AllP (fun b => h b = none) ad) (hadd : disj ad d = true) (hfl : disj fz (namesL hl) = true)
    (hok : AllP (fun p => okU' (ofL hl) p.2) tl) (hokh : AllP (fun p => okBlk' (ofL hl) p.2) hl) : Gh d t h (tOfL tl) (ofL hl) := by
  intro E a w ⟨F, ρ, S⟩
  obtain ⟨F', ρ', S', _⟩ := gh_core tl hl fz ad hT hH hfz had hadd hfl hok hokh S
  exact ⟨F', ρ', S'⟩
def ResU (P : Program) (t : Nat → U) (h : Nat → Option Blk) : ResultVar → U → Prop
  | .tmp x, u => t x = u
  | .cell a ty, u => ∃ b cells, t a = .one (.ptr b 0) ∧ h b = some (.obj cells) ∧ ((∃ n, TAgg P ty n ∧ cells.length = n ∧ u = .agg cells) ∨ (TOne P ty ∧ ∃ c, cells = [c] ∧ u = .one c))
def notTup : U → Prop
  | .tup _ => False
  | _ => True
theorem relU1_of {F : Nat → Prop} {ρ : Nat → Lc} {w : World} {u : U} {v : Value} (hn : notTup u) (hr : relU F ρ w u v) : relU1 F ρ w u v := by
  cases u <;> first | exact hr | exact hn.elim
theorem okU1_of' {h : Nat → Option Blk} {u : U} (hn : notTup u) (ho : okU h u) : okU1 h u := by
  cases u <;> first | exact ho | exact hn.elim
def RetQ (P : Program) (rs : Array ResultVar) (r : U) (O' : List (Nat × Blk)) : Exit → (Nat → U) → (Nat → Option Blk) → Prop := fun e t h =>
  (e = .normal ∨ e = .ret) ∧ ∃ us, All2 (ResU P t h) rs.toList us ∧ AllP notTup us ∧ ∃ u, (match us with | [u'] => u = u' | l => u = .tup l) ∧ ∃ fz, AllP (ClosedAt h) fz ∧ WkU h fz [] u r ∧ AllP (fun p => ∃ x0, h p.1 = some x0 ∧ WkBlk h fz [] x0 p.2) O' ∧ disj fz (namesL O') = true ∧ okU' (ofL O') r ∧ AllP (fun p => okBlk' (ofL O') p.2) O'
def resSem (tmps : Array Value) : ResultVar → Sem Value
  | .tmp t => pure (tmps.getD t undef)
  | .cell x ty => do loadVar ty (← asAddr (tmps.getD x undef))
theorem results_eq (fn : Func) (tmps : Array Value) : results fn tmps = (do let vs ← fn.results.mapM (resSem tmps); pure (if h : vs.size = 1 then vs[0] else .tuple vs)) := rfl
theorem res_rel {P : Program} {F : Nat → Prop} {ρ : Nat → Lc} {t : Nat → U} {h : Nat → Option Blk} {w : World} {a : Act} (H : HRel F ρ h w) (hx : ∀ x, relU F ρ w (t x) (a.tmps.getD x undef)) (hokx : ∀ x, okU h (t x)) {r : ResultVar} {u : U} (hr : ResU P t h r u) :
    ∃ v, (resSem a.tmps r).run P w = .ok v w ∧ relU F ρ w u v ∧ okU h u := by
  cases r with
  | tmp x =>
    have hr : t x = u := hr
    exact ⟨a.tmps.getD x undef, rfl, by rw [← hr]; exact hx x, by rw [← hr]; exact hokx x⟩
  | cell x ty =>
    obtain ⟨b, cells, h1, h2, h3⟩ := hr
    have hp := hx x
    rw [h1] at hp
    obtain ⟨g, hg, hv⟩ := hp.2 (H.ver h2)
    obtain ⟨g', hg', hj⟩ := blk_at (H.blk b _ h2)
    obtain rfl : g = g' := Option.some.inj (hg.symm.trans hg')
    have hO := H.ok b _ h2
    rcases h3 with ⟨n, T, hn, rfl⟩ | ⟨T, c, rfl, rfl⟩
    · obtain ⟨vs, hvs, hR⟩ := lb4 (R := fun j c u => w.cell? ⟨g, j, none⟩ = some u ∧ relC F ρ w c u) cells 0 (fun j c hjc => by
        obtain ⟨u, hu, _, hr⟩ := hj j c hjc
        rw [Nat.zero_add]
        exact ⟨u, hu, hr⟩)
      simp only [Nat.zero_add] at hR
      refine ⟨.agg vs.toArray, ?_, ⟨vs, rfl, All2.of hvs.symm fun i c u h1 h2 => (hR i c u h1 h2).2⟩, hO⟩
      have hl := lb8 T w g 0 vs (by rw [hvs, hn]) fun j v hjv => by
        have hlt : j < cells.length := by rw [← hvs]; exact (List.getElem?_eq_some_iff.1 hjv).1
        rw [Nat.zero_add]
        exact (hR j _ v (List.getElem?_eq_getElem hlt) hjv).1
      show (do loadVar ty (← asAddr (a.tmps.getD x undef)) : Sem Value).run P w = _
      rw [hv]
      simpa [Instr.loadAt, Instr.sureAddr, asAddr, go_sem] using hl
    · obtain ⟨u, hu, _, hr⟩ := hj 0 c rfl
      have hl := lbQ T w g 0 u hu
      refine ⟨u, ?_, hr, hO c (List.mem_singleton.2 rfl)⟩
      show (do loadVar ty (← asAddr (a.tmps.getD x undef)) : Sem Value).run P w = _
      rw [hv]
      simpa [Instr.loadAt, Instr.sureAddr, asAddr, go_sem] using hl
theorem lfU {P : Program} {F : Nat → Prop} {ρ : Nat → Lc} {t : Nat → U} {h : Nat → Option Blk} {w : World} {a : Act} (H : HRel F ρ h w) (hx : ∀ x, relU F ρ w (t x) (a.tmps.getD x undef)) (hokx : ∀ x, okU h (t x)) : ∀ (rs : List ResultVar) (us : List U), All2 (ResU P t h) rs us →
    ∃ vs : List Value, (rs.mapM (resSem a.tmps)).run P w = .ok vs w ∧ All2 (fun u v => relU F ρ w u v ∧ okU h u) us vs
  | [], [], _ => ⟨[], rfl, trivial⟩
  | r :: rs, u :: us, ⟨h1, h2⟩ => by
    obtain ⟨v, hv, hr⟩ := res_rel H hx hokx h1
    obtain ⟨vs, hvs, hrs⟩ := lfU H hx hokx rs us h2
    refine ⟨v :: vs, ?_, hr, hrs⟩
    rw [List.mapM_cons, Sem.run_bind, hv, Result.andThen_ok, Sem.run_bind, hvs]
    rfl
  | [], _ :: _, h => h.elim
  | _ :: _, [], h => h.elim
def argT (args : List U) : Nat → U := fun x => args.getD x .any
theorem lbe {P : Program} {f : FuncId} {fn : Func} {c : Code} {args : List U} {O O' : List (Nat × Blk)} {r : U} (hf : P.funcs[f]? = some fn) (hb : fn.body = some c) (hnn : (fn.name == "runtime.NumGoroutine") = false) (hn : args.length ≤ fn.ntmps)
    (hle : All2 (fun p q => p.1 = q.1 ∧ leB p.2 q.2) O O') (hnd : (namesL O).Nodup) (hw : AW P fn.ntmps c (argT args) (ofL O) (namesL O) (RetQ P fn.results r O')) : ACalls P f args O r O' := by
  refine ⟨by unfold canCall; rw [hf]; simp only [hnn, hb]; rfl, fun F ρ w vals H ha => calls_of_wp hf hb ?_⟩
  have hlen := ha.length
  have S : SimR ⟨w, F, ρ, namesL O, fn.ntmps⟩ F ρ ⟨argT args, ofL O, namesL O⟩ { tmps := vals.toArray ++ Array.replicate (fn.ntmps - vals.toArray.size) undef, defers := [] } w := by
    have hx : ∀ x, relU F ρ w (argT args x) ((vals.toArray ++ Array.replicate (fn.ntmps - vals.toArray.size) undef).getD x undef) ∧ okU (ofL O) (argT args x) := fun x => by
      cases hu : args[x]? with
      | none =>
        have : argT args x = .any := by unfold argT; rw [List.getD_eq_getElem?_getD, hu]; rfl
        rw [this]; exact ⟨trivial, trivial⟩
      | some u =>
        have h1 : argT args x = u := by unfold argT; rw [List.getD_eq_getElem?_getD, hu]; rfl
        obtain ⟨v, hv, hr⟩ := ha.get x u hu
        have hxl := (List.getElem?_eq_some_iff.1 hv).1
        rw [h1, Array.getD_eq_getD_getElem?, Array.getElem?_append_left (by simpa using hxl)]
        simp only [List.getElem?_toArray, hv, Option.getD_some]
        exact hr
    exact ⟨fun x => (hx x).1, H, fun x => (hx x).2, fun b g hb hg => .inr ⟨b, lbm.2 hb, hg⟩, fun _ h => h, fun _ h => .inl h, rfl, rfl, rfl, Nat.le_refl _, fun _ _ _ => rfl, fun _ _ => .inl rfl, rfl, by simp; omega, rfl⟩
  refine wp_mono (hw ⟨w, F, ρ, namesL O, fn.ntmps⟩ _ w rfl ⟨F, ρ, S⟩) fun e a' w' ⟨t', h', ⟨F1, ρ1, S1⟩, hq⟩ => ?_
  obtain ⟨he, us, hres, hnt, u, hu, fz, hfz, hwk, hO', hdf, hokr, hokO⟩ := hq
  have hnames : namesL O' = namesL O := by
    have key : ∀ {O O' : List (Nat × Blk)}, All2 (fun p q => p.1 = q.1 ∧ leB p.2 q.2) O O' → namesL O' = namesL O := by
      intro O
      induction O with
      | nil => intro O' h; cases O' with | nil => rfl | cons => exact h.elim
      | cons p O ih => intro O' h; cases O' with
        | nil => exact h.elim
        | cons q O' =>
          have := ih h.2
          unfold namesL at this ⊢
          rw [List.map_cons, List.map_cons, this, h.1.1]
    exact key hle
  obtain ⟨vs, hvs, hrs⟩ := lfU (P := P) S1.heap S1.rel S1.okt fn.results.toList us hres
  have hrun : ∃ v, (results fn a'.tmps).run P w' = .ok v w' ∧ relU F1 ρ1 w' u v ∧ okU h' u := by
    have hm : (fn.results.mapM (resSem a'.tmps)).run P w' = .ok vs.toArray w' := by
      rw [Array.mapM_eq_mapM_toList, Sem.run_map, hvs]
      rfl
    have hr0 : ∀ v, (if h : vs.toArray.size = 1 then vs.toArray[0] else Value.tuple vs.toArray) = v → (results fn a'.tmps).run P w' = .ok v w' := fun v hv => by
      rw [results_eq, Sem.run_bind, hm, Result.andThen_ok, ← hv]
      rfl
    cases us with
    | nil =>
      cases vs with
      | nil => exact ⟨_, hr0 _ rfl, by rw [show u = .tup [] from hu]; exact ⟨[], rfl, trivial⟩, by rw [show u = .tup [] from hu]; intro u hu; cases hu⟩
      | cons => exact hrs.elim
    | cons u1 us =>
      cases vs with
      | nil => exact hrs.elim
      | cons v1 vs =>
        cases us with
        | nil =>
          cases vs with
          | nil => exact ⟨v1, hr0 _ rfl, by rw [show u = u1 from hu]; exact hrs.1.1, by rw [show u = u1 from hu]; exact hrs.1.2⟩
          | cons => exact hrs.2.elim
        | cons u2 us =>
          cases vs with
          | nil => exact hrs.2.elim
          | cons v2 vs =>
            have hu : u = .tup (u1 :: u2 :: us) := hu
            have hnt := lbh.1 hnt
            refine ⟨_, hr0 _ (dif_neg (by simp)), ?_, ?_⟩
            · rw [hu]
              exact ⟨v1 :: v2 :: vs, rfl, hrs.mono fun u hum v h => relU1_of (hnt u hum) h.1⟩
            · rw [hu]
              intro u' hum
              obtain ⟨j, hj, hje⟩ := List.getElem_of_mem hum
              obtain ⟨v', _, hv'⟩ := hrs.get j u' (by rw [List.getElem?_eq_getElem hj, hje])
              exact okU1_of' (hnt u' hum) hv'.2
  obtain ⟨v, hv, hrv, hrok⟩ := hrun
  have hO'' := lbh.1 hO'
  obtain ⟨F2, ρ2, S2, hwk2⟩ := gh_core (tl := []) (hl := O') fz [] (trivial : AllP _ []) (lbh.2 fun p hp => .inl (hO'' p hp)) hfz (trivial : AllP _ []) rfl hdf (trivial : AllP _ []) hokO S1
  have hle' : ∀ b x, ofL O b = some x → ∃ x', ofL O' b = some x' ∧ leB x x' := by
    have key : ∀ {O O' : List (Nat × Blk)}, All2 (fun p q => p.1 = q.1 ∧ leB p.2 q.2) O O' → ∀ b x, ofL O b = some x → ∃ x', ofL O' b = some x' ∧ leB x x' := by
      intro O
      induction O with
      | nil => intro O' _ b x hx; cases hx
      | cons p O ih => intro O' h b x hx; cases O' with
        | nil => exact h.elim
        | cons q O' =>
          obtain ⟨c, y⟩ := p
          obtain ⟨c', y'⟩ := q
          obtain ⟨⟨h1, h2⟩, h3⟩ := h
          have h1 : c = c' := h1
          subst h1
          by_cases hb : b = c
          · subst hb
            rw [ofL, la3] at hx; cases hx
            exact ⟨y', by rw [ofL, la3], h2⟩
          · rw [ofL, lbl _ _ hb] at hx
            obtain ⟨x', h4, h5⟩ := ih h3 b x hx
            exact ⟨x', by rw [ofL, lbl _ _ hb]; exact h4, h5⟩
    exact key hle
  have hM : Moves (namesL O) F ρ (ofL O) w F2 ρ2 (ofL O') w' := by
    refine ⟨S2.F0, fun k hk => S2.kept k (H.lt k hk) ?_, fun b hb => S2.stab b (lbm.2 hb), fun b hb => S2.stab b hb, S2.heap, hle', fun b g hb hg => ?_, fun k hk => ?_, S2.os, S2.tape, S2.output, S2.size, fun k hk hno => S2.kept k hk ?_⟩
    · rintro ⟨b, hb, hg⟩
      exact H.notF b k (lbm.1 hb) hg hk
    · rcases S2.own b g hb hg with h1 | ⟨b0, h1, h2⟩
      · exact .inr h1
      · exact .inl ⟨b0, lbm.1 h1, h2⟩
    · rcases S2.Fnew k hk with h1 | h1 | ⟨b0, h1, h2⟩
      · exact .inl h1
      · exact .inr (.inl h1)
      · exact .inr (.inr ⟨b0, lbm.1 h1, h2⟩)
    · rintro ⟨b, hb, hg⟩
      exact hno b (lbm.1 hb) hg
  have hR : ∃ v' F' ρ', Ending.returned v = .returned v' ∧ Moves (namesL O) F ρ (ofL O) w F' ρ' (ofL O') w' ∧ relU F' ρ' w' r v' ∧ okU (ofL O') r := ⟨v, F2, ρ2, rfl, hM, hwk2 u r v hwk hrok hrv, okU_of hokr⟩
  rcases he with rfl | rfl
  · exact ⟨S1.defers, v, hv, hR⟩
  · exact ⟨S1.defers, v, hv, hR⟩
instance {P : Program} {t : TypeId} {n : Nat} [T : TAgg P t n] : TSize P t n := ⟨by simpa using T.spec.2⟩
instance {P : Program} {t : TypeId} [T : TOne P t] : TSize P t 1 := ⟨by simpa using T.spec.2⟩
section ops
variable {P : Program} {s : St} {dst : Option Tmp} {rt : TypeId} {pos : String} {after : Array Edge} {guard : Option (Nat × Bool)} {x0 : Nat}
theorem lah {e : TypeId} {l : List C} [T : TZero P e l] (hn : s.h x0 = none := by exact rfl) (hd : (s.d.contains x0) = false := by exact rfl) : LocOp P ⟨some x0, .alloc e, rt, pos, after, guard⟩ s [] [(x0, some (.obj l))] (.one (.ptr x0 0)) := loc_alloc x0 hn hd
theorem lan {e : TypeId} {x : Operand} {l : List C} (hx' : opU s.t x = .agg l := by exact rfl) (hn : s.h x0 = none := by exact rfl) (hd : (s.d.contains x0) = false := by exact rfl) : LocOp P ⟨some x0, .box e x, rt, pos, after, guard⟩ s [] [(x0, some (.obj l))] (.one (.ptr x0 0)) := laQ x0 hx' rfl hn hd
theorem laE {e : TypeId} {x : Operand} {c : C} (hx' : opU s.t x = .one c := by exact rfl) (hn : s.h x0 = none := by exact rfl) (hd : (s.d.contains x0) = false := by exact rfl) : LocOp P ⟨some x0, .box e x, rt, pos, after, guard⟩ s [] [(x0, some (.obj [c]))] (.one (.ptr x0 0)) := laQ x0 hx' rfl hn hd
theorem laa {x : Operand} {c : C} (hv : opU s.t x = .one c := by exact rfl) : LocOp P ⟨dst, .move x, rt, pos, after, guard⟩ s [] [] (.one c) := loc_move hv
theorem laB {x : Operand} {l : List U} (hv : opU s.t x = .tup l := by exact rfl) : LocOp P ⟨dst, .move x, rt, pos, after, guard⟩ s [] [] (.tup l) := loc_move hv
theorem lab {x : Operand} {c : C} (hv : opU s.t x = .one c := by exact rfl) : LocOp P ⟨dst, .assign x, rt, pos, after, guard⟩ s [] [] (.one c) := loc_assign hv
theorem laA {c x y : Operand} {v : C} (hc : opU s.t c = .one (.bool true) := by exact rfl) (hv : opU s.t x = .one v := by exact rfl) : LocOp P ⟨dst, .pick c x y, rt, pos, after, guard⟩ s [] [] (.one v) := loc_pick (b := true) hc hv
theorem law {c x y : Operand} {v : C} (hc : opU s.t c = .one (.bool false) := by exact rfl) (hv : opU s.t y = .one v := by exact rfl) : LocOp P ⟨dst, .pick c x y, rt, pos, after, guard⟩ s [] [] (.one v) := loc_pick (b := false) hc hv
theorem lam {c x y : Operand} {b : Bool} {v : C} (b' : Bool) (hc : opU s.t c = .one (.bool b) := by exact rfl) (hv : opU s.t (bif b' then x else y) = .one v := by exact rfl) (hb : b = b' := by assumption) : LocOp P ⟨dst, .pick c x y, rt, pos, after, guard⟩ s [] [] (.one v) := loc_pick (b := b') (by rw [← hb]; exact hc) hv
theorem lar {x : Operand} {i : Nat} {l : List U} {c : C} (hx' : opU s.t x = .tup l := by exact rfl) (hu : l[i]? = some (.one c) := by exact rfl) : LocOp P ⟨dst, .extract x i, rt, pos, after, guard⟩ s [] [] (.one c) := lfM hx' hu
theorem las {x : Operand} {i : Nat} {l : List U} {c : List C} (hx' : opU s.t x = .tup l := by exact rfl) (hu : l[i]? = some (.agg c) := by exact rfl) : LocOp P ⟨dst, .extract x i, rt, pos, after, guard⟩ s [] [] (.agg c) := lfM hx' hu
theorem wrap_in {n : Int} (h0 : -9223372036854775808 ≤ n) (h1 : n ≤ 9223372036854775807) : IntKind.i64.wrap n = n := IntWalk.i64_in n ⟨h0, h1⟩
theorem laI {t t' : TypeId} {x y : Operand} {a b : Int} (hx' : opU s.t x = .one (.int .i64 a) := by exact rfl) (hy' : opU s.t y = .one (.int .i64 b) := by exact rfl) (h : -9223372036854775808 ≤ a + b ∧ a + b ≤ 9223372036854775807 := by omega) : LocOp P ⟨dst, .binOp .add t x y t', rt, pos, after, guard⟩ s [] [] (.one (.int .i64 (a + b))) :=
  lac hx' hy' (by simp only [intOp]; rw [wrap_in h.1 h.2])
theorem laJ {t t' : TypeId} {x y : Operand} {a b : Int} (hx' : opU s.t x = .one (.int .i64 a) := by exact rfl) (hy' : opU s.t y = .one (.int .i64 b) := by exact rfl) (h : -9223372036854775808 ≤ a - b ∧ a - b ≤ 9223372036854775807 := by omega) : LocOp P ⟨dst, .binOp .sub t x y t', rt, pos, after, guard⟩ s [] [] (.one (.int .i64 (a - b))) :=
  lac hx' hy' (by simp only [intOp]; rw [wrap_in h.1 h.2])
theorem laD {t t' : TypeId} {x y : Operand} {i : Nat} (hx' : opU s.t x = .one (.int .i64 (i : Nat)) := by exact rfl) (hy' : opU s.t y = .one (.int .i64 1) := by exact rfl) (h : i < 9223372036854775807 := by omega) : LocOp P ⟨dst, .binOp .add t x y t', rt, pos, after, guard⟩ s [] [] (.one (.int .i64 ((i + 1 : Nat) : Int))) :=
  lac hx' hy' (by simp only [intOp]; rw [wrap_in (by omega) (by omega)]; rfl)
def RowsOf : List U → List (List C) → Prop
  | [], rows => rows = []
  | u :: us, rows => ∃ l rows', cellsU u = some l ∧ rows = l :: rows' ∧ RowsOf us rows'
theorem RowsOf.nil : RowsOf [] [] := rfl
theorem RowsOf.cons {u : U} {us : List U} {l : List C} {rows : List (List C)} (h : cellsU u = some l) (hr : RowsOf us rows) : RowsOf (u :: us) (l :: rows) := ⟨l, rows, h, rfl, hr⟩
theorem AllP.nil {α : Type} {p : α → Prop} : AllP p [] := trivial
theorem AllP.cons {α : Type} {p : α → Prop} {a : α} {l : List α} (h : p a) (hl : AllP p l) : AllP p (a :: l) := ⟨h, hl⟩
theorem Cut.cons {cs : List C} {o n : Nat} {c : C} {l : List C} (h : cs[o]? = some c) (hl : Cut cs (o + 1) n l) : Cut cs o (n + 1) (c :: l) := ⟨c, l, h, rfl, hl⟩
theorem Cut.nil {cs : List C} {o : Nat} : Cut cs o 0 [] := rfl
theorem RowsOf.rows : ∀ {us : List U} {rows : List (List C)}, RowsOf us rows → rowsU us = some rows
  | [], _, h => by cases h; rfl
  | u :: us, _, ⟨l, rows', h1, rfl, h2⟩ => by simp [rowsU, h1, h2.rows]
theorem laF {t e : TypeId} {len k bytes : Nat} {parts : Array (Nat × Operand)} {rows : List (List C)} [T : TElem P t e k bytes] (hparts : parts.toList = ((parts.toList.map (·.2)).zipIdx 0).map fun x => (x.2, x.1) := by exact rfl) (hlen : (parts.toList.map (·.2)).length = len := by exact rfl) (h0 : 0 < len := by decide) (hsmall : len * k ≤ 16777216 := by decide)
    (hrows : RowsOf ((parts.toList.map (·.2)).map (opU s.t)) rows := by exact RowsOf.cons (by exact rfl) RowsOf.nil) (hk : AllP (fun l => l.length = k) rows := by exact AllP.cons (by exact rfl) AllP.nil) (hcl : closedRows rows = true := by exact rfl) : LocOp P ⟨dst, .buildSlice t len parts, rt, pos, after, guard⟩ s [] [] (.one (slFOf k rows)) :=
  loc_buildSlice hparts hlen h0 hsmall rfl hrows.rows (lbh.1 hk) hcl
theorem laK {t e : TypeId} {k bytes b v n : Nat} {x y : Operand} {rows news : List (List C)} {c : C} [T : TElem P t e k bytes] (hx' : opU s.t x = .one (.own b v n)) (hy' : opU s.t y = .one c) (hb : s.h b = some (.row e k v rows)) (hsrc : SrcC k news c)
    (hn : rows.length = n) (hk : AllP (fun r => r.length = k) news) (hmax : (n + news.length) * bytes ≤ 140737488355328) (h0 : 0 < bytes := by decide) :
    LocOp P ⟨dst, .call ⟨.builtin .append, #[x, y], #[t, t]⟩, rt, pos, after, guard⟩ s [] [(b, some (.row e k (v + 1) (rows ++ news)))] (.one (.own b (v + 1) (n + news.length))) :=
  lcO hx' hy' hb hsrc (Nat.le_of_eq hn.symm) (by rw [← hn, List.take_length]) (lbh.1 hk) (by have : n + news.length ≤ (n + news.length) * bytes := Nat.le_mul_of_pos_right _ h0; unfold maxLen; omega) hmax
theorem ldI {t e : TypeId} {k bytes : Nat} {x y : Operand} {rows news : List (List C)} {c c0 : C} [T : TElem P t e k bytes] (hx' : opU s.t x = .one c0) (hy' : opU s.t y = .one c) (hc0 : c0 = slFOf k rows ∨ (rows = [] ∧ c0 = .nilsl)) (hsrc : SrcC k news c)
    (hne : news ≠ []) (hk : AllP (fun r => r.length = k) news) (hk0 : ∀ r ∈ rows, r.length = k) (hn : s.h x0 = none) (hd : (s.d.contains x0) = false) (hbytes : (rows.length + news.length) * bytes ≤ 140737488355328) (h0 : 0 < bytes) :
    LocOp P ⟨some x0, .call ⟨.builtin .append, #[x, y], #[t, t]⟩, rt, pos, after, guard⟩ s [] [(x0, some (.row e k 0 (rows ++ news)))] (.one (.own x0 0 (rows.length + news.length))) :=
  loc_appendNew x0 hx' hy' hc0 hsrc hne (lbh.1 hk) hk0 hn hd (by have : rows.length + news.length ≤ (rows.length + news.length) * bytes := Nat.le_mul_of_pos_right _ h0; unfold maxLen; omega) hbytes
theorem loc_makeD {t e : TypeId} {k bytes n : Nat} {x y : Operand} {ik jk : IntKind} {zero : List C} [T : TElem P t e k bytes] [Z : TZero P e zero] (hx' : opU s.t x = .one (.int ik (n : Nat))) (hy' : opU s.t y = .one (.int jk (n : Nat)))
    (hn : s.h x0 = none) (hd : (s.d.contains x0) = false) (hb : bytes * n ≤ 281474976710656) (hmax : n ≤ maxLen) :
    LocOp P ⟨some x0, .makeSlice t x y, rt, pos, after, guard⟩ s [] [(x0, some (.row e k 0 (List.replicate n zero)))] (.one (.own x0 0 n)) := loc_makeSlice x0 hx' hy' rfl rfl hn hd hb hmax
section
variable {P : Program} {ops : Array Oper} {d : List Nat} {dr : Bool} {K : (Nat → U) → (Nat → Option Blk) → Prop} {l : List Oper} {acc : List (List Nat × List Nat)} {t : Nat → U} {h : Nat → Option Blk} {dst : Option Tmp} {rt : TypeId} {pos : String} {after : Array Edge} {guard : Option (Nat × Bool)}
  {a b c : Nat} {x y z : Operand} {ox oy oz : Option Operand} {bo : BinOp} {uo : UnOp} {ps : Array (Nat × Operand)} {ar : Array Operand} {ts : Array TypeId}
end
theorem WkU.of_eq {h : Nat → Option Blk} {fz ad : List Nat} {u u' : U} (e : u = u') (hn : notTup u') : WkU h fz ad u u' := by
  subst e
  cases u with
  | any => trivial
  | one c => exact WkU.one
  | agg l => exact WkU.agg
  | tup l => exact hn.elim
theorem guard_eq {x want b : Bool} (c : Bool) (h : x = c) (hc : (c == want) = b) : (x == want) = b := by rw [h]; exact hc
theorem LeU.of_eq {u u' : U} (h : u = u') (hn : notTup u') : LeU u u' := by
  subst h
  cases u with
  | any => trivial
  | one c => exact LeC.refl c
  | agg l => exact la0 l
  | tup l => exact hn.elim
theorem LeU.agg' {u : U} {l l' : List C} (h : u = .agg l) (hl : All2 LeC l l') : LeU u (.agg l') := by subst h; exact hl
theorem LeU.one' {u : U} {c c' : C} (h : u = .one c) (hl : LeC c c') : LeU u (.one c') := by subst h; exact hl
def ArgsLe (t : Nat → U) (h : Nat → Option Blk) : List Operand → List U → Prop
  | [], us => us = []
  | x :: xs, us => ∃ u us', us = u :: us' ∧ LeU (opU t x) u ∧ okU' h u ∧ ArgsLe t h xs us'
theorem ArgsLe.le {t : Nat → U} {h : Nat → Option Blk} : ∀ {xs : List Operand} {us : List U}, ArgsLe t h xs us → All2 LeU (xs.map (opU t)) us ∧ ∀ u ∈ us, okU h u
  | [], _, he => by cases he; exact ⟨trivial, fun u hu => by cases hu⟩
  | x :: xs, _, ⟨u, us', rfl, h1, h2, h3⟩ => by
    obtain ⟨h4, h5⟩ := h3.le
    exact ⟨⟨h1, h4⟩, fun v hv => by
      rcases List.mem_cons.1 hv with rfl | hv
      · exact okU_of h2
      · exact h5 v hv⟩
theorem lal {f : FuncId} {fo : Operand} {args : Array Operand} {ats : Array TypeId} {us : List U} {r : U} (hc : ACalls P f us [] r []) (hf : opU s.t fo = .one (.fn f) := by exact rfl) (ha : ArgsLe s.t (ofL []) args.toList us := by exact rfl) :
    LocOp P ⟨dst, .call ⟨.value fo, args, ats⟩, rt, pos, after, guard⟩ s [] [] r :=
  loc_callQ hf rfl ha.le.1 hc ha.le.2
theorem lat {f : FuncId} {fo : Operand} {args : Array Operand} {ats : Array TypeId} {us : List U} {O O' : List (Nat × Blk)} {r : U} (hc : ACalls P f us O r O') (hf : opU s.t fo = .one (.fn f)) (ha : ArgsLe s.t (ofL O) args.toList us)
    (hO : AllP (fun p => s.h p.1 = some p.2) O := by exact ⟨rfl, trivial⟩) (hn : namesL O' = namesL O := by exact rfl) (hnd : (namesL O).Nodup := by simp [namesL]) (hok : AllP (fun p => okBlk' (ofL O) p.2) O := by exact ⟨⟨trivial, trivial, trivial, ⟨_, rfl⟩, trivial⟩, trivial⟩) :
    LocOp P ⟨dst, .call ⟨.value fo, args, ats⟩, rt, pos, after, guard⟩ s [] (patchL O') r := by
  have hOm := lbh.1 hO
  refine loc_call hf rfl ha.le.1 hc (fun b hb => ?_) hn hnd (fun b x hx => okBlk_of (lbh.1 hok _ (ld6 hx))) ha.le.2
  cases hx : ofL O b with
  | none => exact absurd hx (lbm.1 hb)
  | some x => exact hOm _ (ld6 hx)
end ops
theorem AW.id {P : Program} {n : Nat} {c : Code} {t : Nat → U} {h : Nat → Option Blk} {d : List Nat} {Q : Exit → (Nat → U) → (Nat → Option Blk) → Prop} (w : AW P n c t h d Q) : AW P n c t h d Q := w
theorem AW.lenSl {P : Program} {n : Nat} {c : Code} {t : Nat → U} {h : Nat → Option Blk} {d : List Nat} {Q : Exit → (Nat → U) → (Nat → Option Blk) → Prop} (x : Nat) {k : Nat} {rows : List (List C)} (hx : t x = .one (slOf k rows)) (hw : rows.length ≤ 9223372036854775807 → AW P n c t h d Q) : AW P n c t h d Q := fun E a w hn S => by
  obtain ⟨F, ρ, S'⟩ := S
  have hr := S'.rel x
  rw [show (⟨t, h, d⟩ : St).t x = .one (slOf k rows) from hx] at hr
  obtain ⟨_, _, _, _, hm, _⟩ := hr
  exact hw hm E a w hn ⟨F, ρ, S'⟩
theorem AW.condTa {P : Program} {n : Nat} {x y : Code} {c : Operand} {b : Bool} {t : Nat → U} {h : Nat → Option Blk} {d : List Nat} {Q : Exit → (Nat → U) → (Nat → Option Blk) → Prop} (hc : opU t c = .one (.bool b)) (hb : b = true) (hw : AW P n x t h d Q) : AW P n (.cond c x y) t h d Q := AW.condT (by rw [hc, hb]) hw
theorem AW.condFa {P : Program} {n : Nat} {x y : Code} {c : Operand} {b : Bool} {t : Nat → U} {h : Nat → Option Blk} {d : List Nat} {Q : Exit → (Nat → U) → (Nat → Option Blk) → Prop} (hc : opU t c = .one (.bool b)) (hb : b = false) (hw : AW P n y t h d Q) : AW P n (.cond c x y) t h d Q := AW.condF (by rw [hc, hb]) hw
section
variable {P : Program} {ops : Array Oper} {d : List Nat} {dr : Bool} {K : (Nat → U) → (Nat → Option Blk) → Prop} {l : List Oper} {acc : List (List Nat × List Nat)} {t : Nat → U} {h : Nat → Option Blk}
  {op : Op} {rt : TypeId} {pos : String} {after : Array Edge} {guard : Option (Nat × Bool)} {x : Nat} {R : List Nat} {v : U} {b : Nat} {blk : Blk}
theorem zV (hl : LocOp P ⟨some x, op, rt, pos, after, guard⟩ ⟨t, h, d⟩ R [] v) (k : RunL P ops d dr K l ((R, []) :: acc) (upd t x v) h) (hg : GuardU ops ⟨some x, op, rt, pos, after, guard⟩ t true := by exact rfl) : RunL P ops d dr K (⟨some x, op, rt, pos, after, guard⟩ :: l) acc t h := RunL.val hg hl k
theorem zI (hl : LocOp P ⟨some x, op, rt, pos, after, guard⟩ ⟨t, h, d⟩ R [] v) (k : RunL P ops d dr K l ((R, []) :: acc) (upd t x v) h) (hg : GuardU ops ⟨some x, op, rt, pos, after, guard⟩ t true := by exact .inl ⟨_, _, rfl, rfl, rfl⟩) : RunL P ops d dr K (⟨some x, op, rt, pos, after, guard⟩ :: l) acc t h := RunL.val hg hl k
theorem zT (hl : LocOp P ⟨some x, op, rt, pos, after, guard⟩ ⟨t, h, d⟩ R [] v) (k : RunL P ops d dr K l ((R, []) :: acc) (upd t x v) h) (hg : GuardU ops ⟨some x, op, rt, pos, after, guard⟩ t true := by exact .inl ⟨_, _, rfl, rfl, guard_eq true (by assumption) rfl⟩) : RunL P ops d dr K (⟨some x, op, rt, pos, after, guard⟩ :: l) acc t h := RunL.val hg hl k
theorem zF (hl : LocOp P ⟨some x, op, rt, pos, after, guard⟩ ⟨t, h, d⟩ R [] v) (k : RunL P ops d dr K l ((R, []) :: acc) (upd t x v) h) (hg : GuardU ops ⟨some x, op, rt, pos, after, guard⟩ t true := by exact .inl ⟨_, _, rfl, rfl, guard_eq false (by assumption) rfl⟩) : RunL P ops d dr K (⟨some x, op, rt, pos, after, guard⟩ :: l) acc t h := RunL.val hg hl k
theorem zs (k : RunL P ops d dr K l (([], []) :: acc) (upd t x (.tup [])) h) (hg : GuardU ops ⟨some x, op, rt, pos, after, guard⟩ t false := by exact .inl ⟨_, _, rfl, rfl, rfl⟩) : RunL P ops d dr K (⟨some x, op, rt, pos, after, guard⟩ :: l) acc t h := RunL.skip hg k
theorem zt (k : RunL P ops d dr K l (([], []) :: acc) (upd t x (.tup [])) h) (hg : GuardU ops ⟨some x, op, rt, pos, after, guard⟩ t false := by exact .inl ⟨_, _, rfl, rfl, guard_eq true (by assumption) rfl⟩) : RunL P ops d dr K (⟨some x, op, rt, pos, after, guard⟩ :: l) acc t h := RunL.skip hg k
theorem zf (k : RunL P ops d dr K l (([], []) :: acc) (upd t x (.tup [])) h) (hg : GuardU ops ⟨some x, op, rt, pos, after, guard⟩ t false := by exact .inl ⟨_, _, rfl, rfl, guard_eq false (by assumption) rfl⟩) : RunL P ops d dr K (⟨some x, op, rt, pos, after, guard⟩ :: l) acc t h := RunL.skip hg k
theorem zM (hl : LocOp P ⟨some x, op, rt, pos, after, guard⟩ ⟨t, h, d⟩ R [(b, some blk)] v) (k : RunL P ops d dr K l ((R, [b]) :: acc) (upd t x v) (upd h b (some blk))) (hg : GuardU ops ⟨some x, op, rt, pos, after, guard⟩ t true := by exact rfl) : RunL P ops d dr K (⟨some x, op, rt, pos, after, guard⟩ :: l) acc t h := RunL.mem hg hl k
theorem zE (hl : LocOp P ⟨none, op, rt, pos, after, guard⟩ ⟨t, h, d⟩ R [(b, some blk)] .any) (k : RunL P ops d dr K l ((R, [b]) :: acc) t (upd h b (some blk))) (hg : GuardU ops ⟨none, op, rt, pos, after, guard⟩ t true := by exact rfl) : RunL P ops d dr K (⟨none, op, rt, pos, after, guard⟩ :: l) acc t h := RunL.eff hg hl k
theorem zY {O' : List (Nat × Blk)} (hl : LocOp P ⟨some x, op, rt, pos, after, guard⟩ ⟨t, h, d⟩ R (patchL O') v) (k : RunL P ops d dr K l ((R, namesL O') :: acc) (upd t x v) (applyP (patchL O') h)) (hg : GuardU ops ⟨some x, op, rt, pos, after, guard⟩ t true := by exact rfl) : RunL P ops d dr K (⟨some x, op, rt, pos, after, guard⟩ :: l) acc t h := RunL.many hg hl k
theorem znD {K : (Nat → U) → (Nat → Option Blk) → Prop} (k : K t h) (hs : okSwap ops acc.reverse = true := by kernel_rfl) : RunL P ops d true K [] acc t h := RunL.nilD hs k
theorem zn (k : K t h) : RunL P ops d false K [] acc t h := RunL.nil k
variable {n id : Nat} {c : Operand} {y z : Code} {Q : Exit → (Nat → U) → (Nat → Option Blk) → Prop}
theorem zq (hw : AW P n y t h d (ThenQ (fun t h => AW P n z t h d Q) Q)) : AW P n (.seq y z) t h d Q := AW.seq hw
theorem zR (hw : RunL P ops d false (fun t h => Q .normal t h) ops.toList [] t h) (hd : dstOk ops n = true := by kernel_rfl) : AW P n (.region id ops false) t h d Q := AW.region hd hw
theorem zQ (hw : RunL P ops d false (fun t h => ThenQ (fun t h => AW P n z t h d Q) Q .normal t h) ops.toList [] t h) (hd : dstOk ops n = true := by kernel_rfl) : AW P n (.seq (.region id ops false) z) t h d Q := AW.seq (AW.region hd hw)
theorem zRD (hw : RunL P ops d true (fun t h => Q .normal t h) ops.toList [] t h) (hm : P.follows .mixedOrders = true := by kernel_rfl) (hdn : edgesDown ops = true := by kernel_rfl) (hd : dstOk ops n = true := by kernel_rfl) : AW P n (.region id ops true) t h d Q := AW.regionD hm hdn hd hw
theorem zcT (hw : AW P n y t h d Q) (hc : opU t c = .one (.bool true) := by exact rfl) : AW P n (.cond c y z) t h d Q := AW.condT hc hw
theorem zcF (hw : AW P n z t h d Q) (hc : opU t c = .one (.bool false) := by exact rfl) : AW P n (.cond c y z) t h d Q := AW.condF hc hw
theorem zaT {b : Bool} (hw : AW P n y t h d Q) (hc : opU t c = .one (.bool b) := by exact rfl) (hb : b = true := by assumption) : AW P n (.cond c y z) t h d Q := AW.condTa hc hb hw
theorem zaF {b : Bool} (hw : AW P n z t h d Q) (hc : opU t c = .one (.bool b) := by exact rfl) (hb : b = false := by assumption) : AW P n (.cond c y z) t h d Q := AW.condFa hc hb hw
theorem zsk (q : Q .normal t h) : AW P n .skip t h d Q := AW.skip q
theorem zex (q : Q (.exit id) t h) : AW P n (.exit id) t h d Q := AW.exit q
theorem zre (q : Q .ret t h) : AW P n .ret t h d Q := AW.ret q
theorem zbl (hw : AW P n y t h d (InBlockQ id Q)) : AW P n (.block id y) t h d Q := AW.block hw
variable {xs : List Operand} {u u' : U} {us : List U} {fz ad : List Nat}
theorem zC (h3 : ArgsLe t h xs us) (h1 : LeU (opU t c) u := by exact LeU.of_eq rfl trivial) (h2 : okU' h u := by exact trivial) : ArgsLe t h (c :: xs) (u :: us) := ⟨_, _, rfl, h1, h2, h3⟩
theorem zC2 (h3 : ArgsLe t h xs us) (h1 : LeU (opU t c) u := by exact LeU.of_eq rfl trivial) (h2 : okU' h u := by exact ⟨trivial, trivial, trivial⟩) : ArgsLe t h (c :: xs) (u :: us) := ⟨_, _, rfl, h1, h2, h3⟩
theorem zC7 (h3 : ArgsLe t h xs us) (h1 : LeU (opU t c) u := by exact LeU.of_eq rfl trivial) (h2 : okU' h u := by exact ⟨trivial, trivial, trivial, trivial, trivial, trivial, trivial, trivial⟩) : ArgsLe t h (c :: xs) (u :: us) := ⟨_, _, rfl, h1, h2, h3⟩
theorem zB {f : FuncId} {fn : Func} {args : List U} {O O' : List (Nat × Blk)} {r : U} (hf : P.funcs[f]? = some fn) (hw : AW P fn.ntmps y (argT args) (ofL O) (namesL O) (RetQ P fn.results r O')) (hb : fn.body = some y := by exact rfl) (hnn : (fn.name == "runtime.NumGoroutine") = false := by kernel_rfl) (hn : args.length ≤ fn.ntmps := by exact Nat.le_of_ble_eq_true rfl) (hle : All2 (fun p q => p.1 = q.1 ∧ leB p.2 q.2) O O' := by exact trivial) (hnd : (namesL O).Nodup := by simp [namesL]) : ACalls P f args O r O' := lbe hf hb hnn hn hle hnd hw
theorem zB1 {f : FuncId} {fn : Func} {args : List U} {O O' : List (Nat × Blk)} {r : U} (hf : P.funcs[f]? = some fn) (hw : AW P fn.ntmps y (argT args) (ofL O) (namesL O) (RetQ P fn.results r O')) (hb : fn.body = some y := by exact rfl) (hnn : (fn.name == "runtime.NumGoroutine") = false := by kernel_rfl) (hn : args.length ≤ fn.ntmps := by exact Nat.le_of_ble_eq_true rfl) (hle : All2 (fun p q => p.1 = q.1 ∧ leB p.2 q.2) O O' := by exact ⟨⟨rfl, trivial⟩, trivial⟩) (hnd : (namesL O).Nodup := by simp [namesL]) : ACalls P f args O r O' := lbe hf hb hnn hn hle hnd hw
theorem zB2 {f : FuncId} {fn : Func} {args : List U} {O O' : List (Nat × Blk)} {r : U} (hf : P.funcs[f]? = some fn) (hw : AW P fn.ntmps y (argT args) (ofL O) (namesL O) (RetQ P fn.results r O')) (hb : fn.body = some y := by exact rfl) (hnn : (fn.name == "runtime.NumGoroutine") = false := by kernel_rfl) (hn : args.length ≤ fn.ntmps := by exact Nat.le_of_ble_eq_true rfl) (hle : All2 (fun p q => p.1 = q.1 ∧ leB p.2 q.2) O O' := by exact ⟨⟨rfl, trivial⟩, ⟨rfl, Nat.le_refl _⟩, trivial⟩) (hnd : (namesL O).Nodup := by simp [namesL]) : ACalls P f args O r O' := lbe hf hb hnn hn hle hnd hw
theorem zw (e : u = u') (hn : notTup u') : WkU h fz ad u u' := WkU.of_eq e hn
theorem zb (e : h b = some blk) : BlkNew h d fz ad b blk := Or.inl ⟨_, e, WkBlk.refl _⟩
theorem zo : True := trivial
end
theorem ret_one {P : Program} {x : Tmp} {r u : U} {e : Exit} {t : Nat → U} {h : Nat → Option Blk} (he : e = .normal ∨ e = .ret) (hx : t x = u) (hnt : notTup u) (fz : List Nat) (hfz : AllP (ClosedAt h) fz) (hw : WkU h fz [] u r) (hok : okU' (ofL []) r) : RetQ P #[.tmp x] r [] e t h :=
  ⟨he, [u], ⟨hx, trivial⟩, ⟨hnt, trivial⟩, u, rfl, fz, hfz, hw, trivial, by
    induction fz with
    | nil => rfl
    | cons b l ih => simp [disj, namesL], hok, trivial⟩
theorem la1 {P : Program} {x : Tmp} {c : C} {e : Exit} {t : Nat → U} {h : Nat → Option Blk} (he : e = .normal ∨ e = .ret) (hx : t x = .one c) (hok : okC (ofL []) c) : RetQ P #[.tmp x] (.one c) [] e t h :=
  ret_one he hx trivial [] trivial WkU.one hok
def capKd : U → Nat
  | .agg l => l.length + 1
  | _ => 0
def capC : U → Nat → C
  | .one c, _ => c
  | .agg l, j => rowF l j
  | _, _ => .any
def cloOf (f : FuncId) (us : List U) : C := .clo f us.length (fun i => capKd (us.getD i .any)) (fun i j => capC (us.getD i .any) j)
def capOk : U → Bool
  | .one c => closedC c
  | .agg l => closedRow l
  | _ => false
def capsOk : List U → Bool
  | [] => true
  | u :: l => capOk u && capsOk l
theorem ldm : ∀ {l : List U} {i : Nat} {u : U}, capsOk l = true → l[i]? = some u → capOk u = true
  | [], _, _, _, h => by simp at h
  | v :: l, 0, u, h, hu => by
    simp only [capsOk, Bool.and_eq_true] at h
    simp at hu; subst hu; exact h.1
  | v :: l, i + 1, u, h, hu => by
    simp only [capsOk, Bool.and_eq_true] at h
    exact ldm h.2 (by simpa using hu)
theorem lfV {F : Nat → Prop} {ρ : Nat → Lc} {w : World} {c : C} {v : Value} (hc : closedC c = true) (hr : relK F w c v) : relC F ρ w c v := by
  cases c <;> first | exact hr | cases hc
theorem clo_rel {F : Nat → Prop} {ρ : Nat → Lc} {w : World} {f : FuncId} {us : List U} {xs : List Value} (ha : All2 (relU F ρ w) us xs) (hc : capsOk us = true) : relK F w (cloOf f us) (.func (.func f) #[] xs.toArray) := by
  refine ⟨xs, rfl, ha.length.symm, fun i hi => ?_⟩
  have hu : us[i]? = some us[i] := List.getElem?_eq_getElem hi
  obtain ⟨x, hx, hr⟩ := ha.get i _ hu
  have hk := ldm hc hu
  refine ⟨x, hx, ?_⟩
  have e : us.getD i .any = us[i] := by rw [List.getD_eq_getElem?_getD, hu]; rfl
  simp only [e]
  generalize us[i] = u at *
  cases u with
  | one c => exact .inl ⟨rfl, lb5 hk hr⟩
  | agg l =>
    obtain ⟨vs, hv, hl⟩ := hr
    refine .inr ⟨l.length, vs, rfl, hv, hl.length.symm, fun j hj => ?_⟩
    obtain ⟨u, h1, h2⟩ := hl.get j l[j] (List.getElem?_eq_getElem hj)
    refine ⟨u, h1, ?_⟩
    show relK F w (rowF l j) u
    rw [show rowF l j = l[j] by simp [rowF, hj]]
    exact lb5 (lbM hk (List.getElem_mem hj)) h2
  | _ => cases hk
theorem clo_inv {F : Nat → Prop} {ρ : Nat → Lc} {w : World} {f : FuncId} {us : List U} {v : Value} (h : relK F w (cloOf f us) v) (hc : capsOk us = true) : ∃ xs : List Value, v = .func (.func f) #[] xs.toArray ∧ All2 (relU F ρ w) us xs := by
  obtain ⟨xs, hv, hn, h⟩ := h
  refine ⟨xs, hv, All2.of hn.symm fun i u x hu hx => ?_⟩
  have hi : i < us.length := (List.getElem?_eq_some_iff.1 hu).1
  obtain ⟨x', hx', h⟩ := h i hi
  rw [hx] at hx'; cases hx'
  have hk := ldm hc hu
  have e : us.getD i .any = u := by rw [List.getD_eq_getElem?_getD, hu]; rfl
  simp only [e] at h
  cases u with
  | one c =>
    rcases h with ⟨_, hr⟩ | ⟨k, _, hk', _⟩
    · exact lfV hk hr
    · cases hk'
  | agg l =>
    rcases h with ⟨h, _⟩ | ⟨k, vs, hk', hx, hl, hj⟩
    · cases h
    · have hk' : l.length = k := by simpa [capKd] using hk'
      subst hk'
      refine ⟨vs, hx, All2.of hl.symm fun j c v hc' hv => ?_⟩
      have hjl : j < l.length := (List.getElem?_eq_some_iff.1 hc').1
      obtain ⟨u, h1, h2⟩ := hj j hjl
      rw [hv] at h1; cases h1
      have hcc : l[j] = c := by rw [List.getElem?_eq_getElem hjl] at hc'; exact Option.some.inj hc'
      rw [show capC (.agg l) j = c by simp [capC, rowF, hc']] at h2
      exact lfV (lbM hk (hcc ▸ List.getElem_mem hjl)) h2
  | _ => cases hk
inductive CapLe (h : Nat → Option Blk) (R : List Nat) : U → U → Prop
  | le {u u' : U} : LeU u u' → CapLe h R u u'
  | raw {b o g : Nat} {cells : List C} : b ∈ R → h b = some (.obj cells) → C.loc b g ∈ cells → CapLe h R (.one (.ptr b o)) (.one (.raw g o))
theorem laU {F : Nat → Prop} {ρ : Nat → Lc} {h : Nat → Option Blk} {w : World} (H : HRel F ρ h w) {b g : Nat} {cells : List C} (hb : h b = some (.obj cells)) (hl : C.loc b g ∈ cells) : (ρ b).v = 0 ∧ (ρ b).g = some g := by
  obtain ⟨hv, g', e, cs, h1, h2, h3⟩ := H.blk b _ hb
  obtain ⟨j, hj, hje⟩ := List.getElem_of_mem hl
  obtain ⟨u, _, hr⟩ := h3 j (.loc b g) (by rw [List.getElem?_eq_getElem hj, hje])
  exact ⟨hv, hr.2 hv⟩
theorem CapLe.rel {F : Nat → Prop} {ρ : Nat → Lc} {h : Nat → Option Blk} {w : World} (H : HRel F ρ h w) {R : List Nat} {u u' : U} {v : Value} (hl : CapLe h R u u') (hr : relU F ρ w u v) : relU F ρ w u' v := by
  cases hl with
  | le hl => exact hl.rel hr
  | raw _ hb hm =>
    obtain ⟨h1, h2⟩ := laU H hb hm
    have hr : relC F ρ w (.ptr _ _) v := hr
    obtain ⟨g', h3, h4⟩ := hr.2 h1
    rw [h2] at h3; cases h3
    exact h4
theorem CapLe.congr {h h' : Nat → Option Blk} {R : List Nat} {u u' : U} (hl : CapLe h R u u') (he : ∀ b ∈ R, h' b = h b) : CapLe h' R u u' := by
  cases hl with
  | le hl => exact .le hl
  | raw hb hh hm => exact .raw hb (by rw [he _ hb]; exact hh) hm
section
variable {P : Program} {s : St} {dst : Option Tmp} {rt : TypeId} {pos : String} {after : Array Edge} {guard : Option (Nat × Bool)}
theorem lfj {f : FuncId} {caps : Array Operand} {us us' : List U} (R : List Nat) (hus : caps.toList.map (opU s.t) = us) (hle : All2 (CapLe s.h R) us us') (hok : capsOk us' = true) :
    LocOp P ⟨dst, .makeFunc (.func f) #[] caps, rt, pos, after, guard⟩ s R [] (.one (cloOf f us')) := by
  intro F ρ h w a Q H hR hx
  have hx := lby H hx
  have hall : ∀ (xs : List Operand), (∀ x ∈ xs, relU F ρ w (opU s.t x) (a.eval x)) → ∀ us', All2 (CapLe s.h R) (xs.map (opU s.t)) us' → All2 (relU F ρ w) us' (xs.map a.eval) := by
    intro xs
    induction xs with
    | nil => intro _ us' h1; cases us' with | nil => trivial | cons => exact h1.elim
    | cons x xs ih =>
      intro hx us' h1
      cases us' with
      | nil => exact h1.elim
      | cons u us' => exact ⟨(h1.1.congr fun b hb => hR b (.inl hb)).rel H (hx x (List.mem_cons_self ..)), ih (fun y hy => hx y (List.mem_cons_of_mem _ hy)) us' h1.2⟩
  have hargs := hall caps.toList (fun x hxm => (hx x (by simp [Op.operands]; simpa using hxm)).1) us' (by rw [hus]; exact hle)
  have hr := clo_rel (f := f) hargs hok
  rw [show (caps.toList.map a.eval).toArray = caps.map a.eval by apply Array.ext'; simp] at hr
  have hex : (execOp a.eval (⟨dst, .makeFunc (.func f) #[] caps, rt, pos, after, guard⟩ : Oper)).run P w = .ok (.value (.func (.func f) #[] (caps.map a.eval))) w := by
    simp [execOp, Instr.makeFunc]
  unfold Oper.wp
  rw [hex]
  simp only [Oper.upon]
  refine ⟨_, F, ρ, rfl, H.refl_moves, ?_, ?_⟩
  · exact lfV (ρ := ρ) (c := cloOf f us') rfl hr
  · exact (trivial : okC h (cloOf f us'))
theorem lfW {f : FuncId} {fo : Operand} {args : Array Operand} {ats : Array TypeId} {us us' caps : List U} {O O' : List (Nat × Blk)} {r : U} (hf : opU s.t fo = .one (cloOf f caps)) (hcaps : capsOk caps = true) (hus : args.toList.map (opU s.t) = us) (hle : All2 LeU us us') (hc : ACalls P f (us' ++ caps) O r O')
    (hO : ∀ b ∈ namesL O, s.h b = ofL O b) (hn : namesL O' = namesL O) (hnd : (namesL O).Nodup) (hok : OkL O) (hua : ∀ u ∈ us', okU (ofL O) u) :
    LocOp P ⟨dst, .call ⟨.value fo, args, ats⟩, rt, pos, after, guard⟩ s [] (patchL O') r := by
  intro F ρ h w a Q H hR hx
  have hnp : namesP (patchL O') = namesL O' := by simp [namesP, patchL, namesL]
  have hO : ∀ b ∈ namesL O, h b = ofL O b := fun b hb => (hR b (.inr (by rw [hnp, hn]; exact hb))).trans (hO b hb)
  have hx := lby H hx
  have hfo := (hx fo (by simp [Op.operands, Call.operands])).1
  rw [hf] at hfo
  have hfo : relC F ρ w (cloOf f caps) (a.eval fo) := hfo
  obtain ⟨xs, hfo, hxs⟩ := clo_inv (ρ := ρ) (show relK F w (cloOf f caps) (a.eval fo) from hfo) hcaps
  obtain ⟨hcan, hc⟩ := hc
  have hex : (execOp a.eval (⟨dst, .call ⟨.value fo, args, ats⟩, rt, pos, after, guard⟩ : Oper)).run P w = .ok (.enter f (args.map a.eval ++ xs.toArray)) w := by
    unfold canCall at hcan
    split at hcan
    · rename_i fn hfn
      simp only [Bool.and_eq_true, Bool.not_eq_true', beq_eq_false_iff_ne] at hcan
      have hb' : ¬ fn.body = none := fun h => by simp [h] at hcan
      generalize a.eval = ev at *
      simp [execOp, resolve, Deferred.ofValue, invoke, callFunc, hfo, hfn, hcan.1, hb']
    · cases hcan
  unfold Oper.wp
  rw [hex]
  simp only [Oper.upon]
  have hargs : All2 (fun u v => relU F ρ w u v ∧ okU (ofL O) u) (us' ++ caps) (args.toList.map a.eval ++ xs) := by
    have h0 : ∀ (us : List U) (xs : List Value), capsOk us = true → All2 (relU F ρ w) us xs → All2 (fun u v => relU F ρ w u v ∧ okU (ofL O) u) us xs := by
      intro us xs hc ha
      refine All2.of ha.length fun i u x hu hx => ?_
      obtain ⟨x', h1, h2⟩ := ha.get i u hu
      rw [hx] at h1; cases h1
      refine ⟨h2, ?_⟩
      have hk := ldm hc hu
      cases u with
      | one c => exact la5 hk
      | agg l => exact fun c hc => la5 (lbM hk hc)
      | _ => cases hk
    have h1 : ∀ (ys : List Operand), (∀ x ∈ ys, relU F ρ w (opU s.t x) (a.eval x)) → ∀ us', All2 LeU (ys.map (opU s.t)) us' → (∀ u ∈ us', okU (ofL O) u) → All2 (fun u v => relU F ρ w u v ∧ okU (ofL O) u) (us' ++ caps) (ys.map a.eval ++ xs) := by
      intro ys
      induction ys with
      | nil => intro _ us' h1 h2; cases us' with | nil => exact h0 _ _ hcaps hxs | cons => exact h1.elim
      | cons x ys ih =>
        intro hx us' h1 h2
        cases us' with
        | nil => exact h1.elim
        | cons u us' => exact ⟨⟨h1.1.rel (hx x (List.mem_cons_self ..)), h2 u (List.mem_cons_self ..)⟩, ih (fun y hy => hx y (List.mem_cons_of_mem _ hy)) us' h1.2 fun v hv => h2 v (List.mem_cons_of_mem _ hv)⟩
    exact h1 _ (fun x hxm => (hx x (by simp [Op.operands, Call.operands]; exact .inr (by simpa using hxm))).1) _ (by rw [hus]; exact hle) hua
  have hcalls := hc F ρ w (args.toList.map a.eval ++ xs) (hrel_part H hO hok) hargs
  rw [show (args.toList.map a.eval ++ xs).toArray = args.map a.eval ++ xs.toArray by apply Array.ext'; simp] at hcalls
  refine hcalls.mono ?_
  rintro e w' ⟨v, F', ρ', rfl, M, hr, hro⟩
  obtain ⟨ρ'', M', he⟩ := lfR (d := s.d) H hO hn hnd M
  refine ⟨v, F', ρ'', rfl, M', relU_congr hr hro he, ?_⟩
  have hh : ∀ b x, ofL O' b = some x → ∃ x', applyP (patchL O') h b = some x' ∧ leB x x' := fun b x hx => ⟨x, by
    rw [lcg O' h b (by rw [hn]; exact hnd), if_pos (lbm.2 (by rw [hx]; simp))]; exact hx, lb7 x⟩
  exact ldk hh hro
end
theorem AW.pin {P : Program} {n : Nat} {c : Code} {t : Nat → U} {h : Nat → Option Blk} {d : List Nat} {Q : Exit → (Nat → U) → (Nat → Option Blk) → Prop} {b j : Nat} {cells : List C} (hb : h b = some (.obj cells)) (hj : j < cells.length)
    (hw : ∀ g, AW P n c t (upd h b (some (.obj (cells.set j (.loc b g))))) d Q) : AW P n c t h d Q := by
  rintro E a w hn ⟨F, ρ, S⟩
  obtain ⟨hv, g, e, cs, h1, h2, h3⟩ := S.heap.blk b _ hb
  refine hw g E a w hn ⟨F, ρ, ?_⟩
  have hle : ∀ b' x, h b' = some x → ∃ x', upd h b (some (.obj (cells.set j (.loc b g)))) b' = some x' ∧ leB x x' := fun b' x hx => by
    by_cases hbb : b' = b
    · subst hbb
      rw [hb] at hx; cases hx
      exact ⟨_, la3 _ _ _, zo⟩
    · exact ⟨x, by rw [lbl _ _ hbb]; exact hx, lb7 x⟩
  have hne : ∀ b', upd h b (some (.obj (cells.set j (.loc b g)))) b' ≠ none → h b' ≠ none := fun b' hb' => by
    by_cases hbb : b' = b
    · subst hbb; rw [hb]; simp
    · rwa [lbl _ _ hbb] at hb'
  refine ⟨S.rel, ⟨fun b' x hx => ?_, fun b1 b2 g' k1 k2 => S.heap.inj b1 b2 g' (hne _ k1) (hne _ k2), fun b1 g' k1 => S.heap.notF b1 g' (hne _ k1), S.heap.lt, fun b' x hx => ?_, S.heap.gl, S.heap.gx⟩, fun x => ldk hle (S.okt x), fun b1 g' k1 => S.own b1 g' (hne _ k1), S.F0, S.Fnew, S.os, S.tape, S.output, S.size, S.kept, S.stab, S.d, S.tmps, S.defers⟩
  · have hx : upd h b (some (.obj (cells.set j (.loc b g)))) b' = some x := hx
    by_cases hbb : b' = b
    · subst hbb
      rw [la3] at hx; cases hx
      refine ⟨hv, g, e, cs, h1, h2, fun i c hc => ?_⟩
      rw [List.getElem?_set] at hc
      split at hc
      · rename_i hij
        subst hij
        cases hc
        obtain ⟨u, hu, hr⟩ := h3 j cells[j] (List.getElem?_eq_getElem hj)
        exact ⟨u, hu, lfx hr, fun _ => h1⟩
      · exact h3 i c hc
    · rw [lbl _ _ hbb] at hx
      exact S.heap.blk b' x hx
  · have hx : upd h b (some (.obj (cells.set j (.loc b g)))) b' = some x := hx
    show okBlk (upd h b (some (.obj (cells.set j (.loc b g))))) x
    by_cases hbb : b' = b
    · subst hbb
      rw [la3] at hx; cases hx
      intro c hc
      have hc := List.mem_or_eq_of_mem_set hc
      rcases hc with hc | rfl
      · exact lcd hle (S.heap.ok b' _ hb c hc)
      · exact ⟨_, la3 _ _ _⟩
    · rw [lbl _ _ hbb] at hx
      exact lcE hle (S.heap.ok b' x hx)
section ops
variable {P : Program} {s : St} {dst : Option Tmp} {rt : TypeId} {pos : String} {after : Array Edge} {guard : Option (Nat × Bool)}
theorem loc_appendF {t e : TypeId} {k bytes : Nat} {x y : Operand} {rows news : List (List C)} {c c0 : C} [T : TElem P t e k bytes] (hx' : opU s.t x = .one c0) (hy' : opU s.t y = .one c) (hc0 : c0 = slFOf k rows ∨ (rows = [] ∧ c0 = .nilsl)) (hsrc : SrcC k news c)
    (hk : ∀ r ∈ news, r.length = k) (hk0 : ∀ r ∈ rows, r.length = k) (hmax : rows.length + news.length ≤ maxLen) (hbytes : (rows.length + news.length) * bytes ≤ 140737488355328) :
    LocOp P ⟨dst, .call ⟨.builtin .append, #[x, y], #[t, t]⟩, rt, pos, after, guard⟩ s [] [] (.one (slOf k (rows ++ news))) := by
  intro F ρ h w a Q H hR hx
  have hx := lby H hx
  have h1 := (hx x (by simp [Op.operands, Call.operands])).1
  have h2 := (hx y (by simp [Op.operands, Call.operands])).1
  rw [hx'] at h1
  rw [hy'] at h2
  obtain ⟨i, z, t1, t2, t3, t4, t5, t6, t7⟩ := T.spec
  obtain ⟨nv, hsrc', hnl, ⟨ay, capy, hvy, _⟩, hfy, hnv⟩ := lfP (P := P) T hsrc hk h2
  have hs0 : SrcC k rows c0 := hc0.imp id .inr
  obtain ⟨ov, hsrc0, hol, ⟨ax, capx, hvx, hlex⟩, hfx, hov⟩ := lfP (P := P) T hs0 hk0 h1
  by_cases hne : news = []
  · subst hne
    have hnv : nv = [] := List.eq_nil_of_length_eq_zero (by rw [hnl]; simp)
    subst hnv
    unfold Oper.wp
    rw [lbz rfl (by rw [hvx]; exact run_append_nothing w t t rt e i t1 t2 ax rows.length capx hlex _ (by rw [t3]; exact hsrc'))]
    refine ⟨_, F, ρ, rfl, H.refl_moves, ?_, zo⟩
    rw [List.append_nil, ← hvx]
    rcases hc0 with rfl | ⟨rfl, rfl⟩
    · exact (LeC.slF (LeRows.refl _)).rel (ρ := ρ) (c := slFOf k rows) h1
    · exact (LeC.nil k).rel (ρ := ρ) (c := .nilsl) h1
  have hcap : capx = rows.length := by
    rcases hc0 with rfl | ⟨rfl, rfl⟩
    · obtain ⟨a', hv', _⟩ := h1
      rw [hvx] at hv'
      injection hv'
    · have hv' : a.eval x = .slice none 0 0 := h1
      rw [hvx] at hv'
      injection hv'
  subst hcap
  have hm : 0 < news.length := List.length_pos_iff.2 hne
  have hg := run_append_grow_src (P := P) w t t rt e i z t1 t2 t6 ax rows.length rows.length ov (by rw [t3, ← hvx]; exact hfx) (a.eval y) news.length nv (by rw [t3]; exact hsrc') (by omega) (by unfold maxLen at hmax; omega) (by rw [t4]; exact growslice_fits (by omega) hbytes)
  have hge := grownCap_ge w (rows.length + news.length) rows.length e
  obtain ⟨c1, c2, c3⟩ := lcN (olds := ov) (news := nv) (z := z.cells) (k := k) (n := rows.length) (m := news.length) (cap := grownCap w (rows.length + news.length) rows.length e) hol hnl t7 hge
  unfold Oper.wp
  rw [lbz rfl (by rw [hvx]; exact hg)]
  have hM := fun (cs : Array Value) => ldG (d := s.d) (F' := fun b => F b ∨ b = w.heap.size) H (((Below.refl w.heap.size w).drew).alloc (Nat.le_refl _) (.cells cs e)) (fun _ h => .inl h) (fun b hb => hb.imp id fun e => Nat.le_of_eq e.symm) (fun b hb => by
    have hsz : (w.drew.alloc (.cells cs e)).heap.size = w.heap.size + 1 := by simp
    rw [hsz]
    rcases hb with h1 | h1
    · exact Nat.lt_succ_of_lt (H.lt b h1)
    · rw [h1]; exact Nat.lt_succ_self _)
  refine ⟨_, (fun b => F b ∨ b = w.heap.size), ρ, rfl, hM _, ?_, zo⟩
  refine ⟨some ⟨w.heap.size, 0, none⟩, grownCap w (rows.length + news.length) rows.length e, by rw [List.length_append], by rw [List.length_append];exact hge, by rw [List.length_append];exact hmax, fun i hi => ⟨w.heap.size, 0, rfl, .inr rfl, fun j hj => ?_⟩⟩
  have hrow : (rows ++ news)[i]? = some (rows ++ news)[i] := List.getElem?_eq_getElem hi
  have q := lfQ (R := fun c u => relK F w c u) (R' := fun c u => relK F w c u) (cs := ov.toArray) (cs' := (ov ++ nv).toArray ++ Builtin.zeroCells z.cells (grownCap w (rows.length + news.length) rows.length e - (rows.length + news.length))) (n := rows.length) (Nat.le_refl _) (fun i row hi => ⟨hk0 row (List.mem_of_getElem? hi), fun j c hc => by simpa using hov i row hi j c hc⟩) hnv hk (fun q hq => by rw [c2 q hq]; simp) c3 i _ (by rw [List.take_length]; exact hrow)
  have hj2 : j < ((rows ++ news)[i]).length := by rw [q.1]; exact hj
  obtain ⟨u, hu, hr⟩ := q.2 j _ (List.getElem?_eq_getElem hj2)
  have hr : relK F w (rows ++ news)[i][j] u := by rcases hr with ⟨_, hr⟩ | hr <;> exact hr
  refine ⟨u, ?_, ?_⟩
  · rw [Nat.zero_add]
    simp only [World.cell?, show ∀ cs : Array Value, (w.drew.alloc (Obj.cells cs e)).heap[w.heap.size]? = some (.cells cs e) from fun cs => heap_alloc_new w.drew _]
    exact hu
  · show relK _ _ (rowF ((rows ++ news).getD i []) j) u
    rw [List.getD_eq_getElem?_getD, hrow, Option.getD_some, show rowF (rows ++ news)[i] j = (rows ++ news)[i][j] by simp [rowF, hj2]]
    exact lbC (w := w) (fun _ h => .inl h) (fun b hb => (hM _).same b hb) hr
theorem lav {t : TypeId} {x : Operand} {b o g : Nat} {row cells : List C} [T : TOne P t] (hv : opU s.t x = .one (fpo row o)) (hc : row[o]? = some (.raw g 0)) (hb : s.h b = some (.obj cells)) (hl : C.loc b g ∈ cells) :
    LocOp P ⟨dst, .load t x, rt, pos, after, guard⟩ s [b] [] (.one (.ptr b 0)) :=
  laP b _ hb fun F ρ h w ev H hbh hx => by
    have h1 := (hx x (by simp [Op.operands])).1
    rw [hv] at h1
    obtain ⟨g', q, hp, hF, hj⟩ := h1
    have hlt := (List.getElem?_eq_some_iff.1 hc).1
    obtain ⟨u, hu, hr⟩ := hj 0 (by omega)
    have hcc : rowF row (o + 0) = .raw g 0 := by simp [rowF, hc]
    have hr : relK F w (rowF row (o + 0)) u := hr
    rw [hcc] at hr
    have hr : u = .pointer (some ⟨g, 0, none⟩) := hr
    subst hr
    rw [Nat.add_zero] at hu
    obtain ⟨_, h3⟩ := laU H hbh hl
    refine ⟨_, ?_, ⟨rfl, fun _ => ⟨g, h3, rfl⟩⟩, ⟨cells, hbh⟩⟩
    simp [execOp, hp, lbQ T w g' _ _ hu]
end ops
theorem lbV {d : List Nat} {t : Nat → U} {h : Nat → Option Blk} {bw b g : Nat} {cells : List C} (hw : h bw = some (.obj [.ptr b 0])) (hb : h b = some (.obj cells)) (hl : C.loc b g ∈ cells) : Gh d t h t (upd h bw (some (.obj [.raw g 0]))) := by
  rintro E a w ⟨F, ρ, S⟩
  obtain ⟨h1, h2⟩ := laU S.heap hb hl
  have hle : ∀ b' x, h b' = some x → ∃ x', upd h bw (some (.obj [.raw g 0])) b' = some x' ∧ leB x x' := fun b' x hx => by
    by_cases hbb : b' = bw
    · subst hbb
      rw [hw] at hx; cases hx
      exact ⟨_, la3 _ _ _, zo⟩
    · exact ⟨x, by rw [lbl _ _ hbb]; exact hx, lb7 x⟩
  have hne : ∀ b', upd h bw (some (.obj [.raw g 0])) b' ≠ none → h b' ≠ none := fun b' hb' => by
    by_cases hbb : b' = bw
    · subst hbb; rw [hw]; simp
    · rwa [lbl _ _ hbb] at hb'
  refine ⟨F, ρ, S.rel, ⟨fun b' x hx => ?_, fun b1 b2 g' k1 k2 => S.heap.inj b1 b2 g' (hne _ k1) (hne _ k2), fun b1 g' k1 => S.heap.notF b1 g' (hne _ k1), S.heap.lt, fun b' x hx => ?_, S.heap.gl, S.heap.gx⟩, fun x => ldk hle (S.okt x), fun b1 g' k1 => S.own b1 g' (hne _ k1), S.F0, S.Fnew, S.os, S.tape, S.output, S.size, S.kept, S.stab, S.d, S.tmps, S.defers⟩
  · have hx : upd h bw (some (.obj [.raw g 0])) b' = some x := hx
    by_cases hbb : b' = bw
    · subst hbb
      rw [la3] at hx; cases hx
      obtain ⟨hv, g', e, cs, k1, k2, k3⟩ := S.heap.blk b' _ hw
      refine ⟨hv, g', e, cs, k1, k2, fun i c hc => ?_⟩
      match i, hc with
      | 0, hc =>
        cases hc
        obtain ⟨u, hu, hr⟩ := k3 0 (.ptr b 0) rfl
        obtain ⟨g2, h3, h4⟩ := hr.2 h1
        rw [h2] at h3; cases h3
        exact ⟨u, hu, h4⟩
    · rw [lbl _ _ hbb] at hx
      exact S.heap.blk b' x hx
  · have hx : upd h bw (some (.obj [.raw g 0])) b' = some x := hx
    show okBlk (upd h bw (some (.obj [.raw g 0]))) x
    by_cases hbb : b' = bw
    · subst hbb
      rw [la3] at hx; cases hx
      intro c hc
      rw [List.mem_singleton.1 hc]
      trivial
    · rw [lbl _ _ hbb] at hx
      exact lcE hle (S.heap.ok b' x hx)
end Go.Proofs.YtnflnbdlgdjfmabGreatDoor
namespace Go.Proofs.YtnflnbdlgdjfmabGreatDoor
def tagC (l : List C) (k : Int) : List C := l.take 3 ++ [.int .i64 k]
def bodyC (b : Tm) : List C := [.any, .any, .any, .any, .any, .any, slOf 7 (tmRows [b])]
def wHeld (g : Nat) : U := .one (fpo [.raw g 0] 0)
mutual
def V.th (g : Nat) : V → List C
  | .num n => [.int .i64 1, .int .i64 n, .nilf, .int .i64 0]
  | .tru n => [.int .i64 2, .int .i64 n, .nilf, .int .i64 0]
  | .clo b env => [.int .i64 3, .int .i64 0, cloOf 71 [wHeld g, .one (fpo (bodyC b) 0), .one (fpo [slOf 4 (thRows g env)] 0)], .int .i64 0]
  | .wrap v f t at' back => [.int .i64 3, .int .i64 0, cloOf 106 [wHeld g, .one (fpo t.c 0), .one (fpo f.c 0), .one (fpo [.int .i64 at'] 0), .one (fpo [.bool back] 0), .one (fpo (V.th g v) 0)], .int .i64 0]
  | .tag v gr => tagC (V.th g v) gr.k
def thRows (g : Nat) : List V → List (List C)
  | [] => []
  | v :: l => V.th g v :: thRows g l
end
theorem ldn (g : Nat) : ∀ l : List V, thRows g l = l.map (V.th g)
  | [] => rfl
  | a :: l => by simp only [thRows, List.map_cons, ldn g l]
theorem lcP (g : Nat) (l : List V) : (thRows g l).length = l.length := by rw [ldn, List.length_map]
theorem lbk (g : Nat) : ∀ v : V, ∃ c, closedC c = true ∧ ∃ tg, V.th g v = [.int .i64 v.seen.kind, .int .i64 v.seen.n, c, .int .i64 tg]
  | .num n => ⟨_, rfl, _, rfl⟩
  | .tru n => ⟨_, rfl, _, rfl⟩
  | .clo b env => ⟨_, rfl, _, rfl⟩
  | .wrap v f t at' back => ⟨_, rfl, _, rfl⟩
  | .tag v gr => by
    obtain ⟨c, hc, tg, h⟩ := lbk g v
    exact ⟨c, hc, gr.k, by simp only [V.th, tagC, h, V.seen]; rfl⟩
theorem th_closed (g : Nat) (v : V) : closedRow (V.th g v) = true := by
  obtain ⟨c, hc, tg, h⟩ := lbk g v
  rw [h]
  show (true && (true && (closedC c && (true && true)))) = true
  rw [hc]; rfl
theorem th_len (g : Nat) (v : V) : (V.th g v).length = 4 := by obtain ⟨c, _, tg, h⟩ := lbk g v; rw [h]; rfl
theorem thRows_get {g : Nat} {l : List V} {i : Nat} {v : V} (h : l[i]? = some v) : (thRows g l)[i]? = some (V.th g v) := by rw [ldn, List.getElem?_map, h]; rfl
def wOk (g F : Nat) : List C := [.int .i64 (F : Nat), .int .i64 0, .int .i64 0, .loc 1000 g]
def wEnd (g : Nat) (o : Out) : List C := [.loc 1000 g, .int .i64 o.kind, .int .i64 o.n, .bool o.back]
def th0 : List C := [.int .i64 0, .int .i64 0, .nilf, .int .i64 0]
def resC (g : Nat) : Res → List C
  | .ok v _ => V.th g v
  | .out _ => th0
def wAft (g : Nat) (r : Res) : List C :=
  match r with
  | .ok _ F' => wOk g F'
  | .out o => wEnd g o
inductive GV : V → Prop
  | num {n : Int} (h : inB n = true) : GV (.num n)
  | tru {n : Int} (h : n = 0 ∨ n = 1) : GV (.tru n)
  | clo {b : Tm} {env : List V} (hb : WfT b) (he : ∀ v ∈ env, GV v) (hl : env.length + 1 + b.nodes ≤ 1000000) : GV (.clo b env)
  | wrap {v : V} {f0 f1 t0 t1 : Ty} {at' : Int} {back : Bool} (h0 : Right f0) (h1 : Right f1) (h2 : Right t0) (h3 : Right t1) (hv : GV v) : GV (.wrap v (.mk 3 [f0, f1]) (.mk 3 [t0, t1]) at' back)
  | tag {v : V} {g : Ty} (hg : Right g) (hv : GV v) : GV (.tag v g)
def GC : Cmd → Prop
  | .tm t env => WfT t ∧ (∀ v ∈ env, GV v) ∧ env.length + t.nodes ≤ 1000000
  | .ap f x => GV f ∧ GV x
def GR (F : Nat) : Res → Prop
  | .ok v F' => GV v ∧ F' ≤ F
  | .out _ => True
theorem GR.le {F F' : Nat} {r : Res} (h : GR F r) (hF : F ≤ F') : GR F' r := by
  cases r with
  | ok v G => exact ⟨h.1, Nat.le_trans h.2 hF⟩
  | out o => trivial
theorem gv_wrap {v : V} {f t : Ty} {at' : Int} {back : Bool} (hv : GV v) (hf : Right f) (ht : Right t) (h1 : f.k = 3) (h2 : t.k = 3) : GV (.wrap v f t at' back) := by
  cases hf with
  | base h => simp at h1; omega
  | fn a b =>
    cases ht with
    | base h => simp at h2; omega
    | fn c d => exact .wrap a b c d hv
theorem castV_g {v u : V} {f t : Ty} {at' : Int} {back : Bool} (hv : GV v) (hf : Right f) (ht : Right t) (h : castV v f t at' back = .inl u) : GV u := by
  unfold castV at h
  split at h
  · cases h; exact hv
  split at h
  · rename_i hk
    cases h
    simp only [Bool.and_eq_true, beq_iff_eq] at hk
    exact gv_wrap hv hf ht hk.1 hk.2
  split at h
  · cases h
    refine .tag hf.ground ?_
    split
    · exact hv
    · rename_i hs
      have h3 : f.k = 3 := Decidable.byContradiction fun h3 => hs (by rw [lbY hf h3]; exact lbP f)
      exact gv_wrap hv hf hf.ground h3 (by unfold Ty.ground; rw [if_pos (by simpa using h3)]; rfl)
  split at h
  · split at h
    · cases hv with
      | tag hg hv =>
      split at h
      · split at h
        · cases h; exact hv
        · split at h
          · rename_i h3
            cases h
            have h3 : t.k = 3 := by simpa using h3
            exact gv_wrap hv ht.ground ht (by unfold Ty.ground; rw [if_pos (by simpa using h3)]; rfl) h3
          · cases h
      · cases h
    · cases h
  · cases h
theorem castR_g {v : V} {f t : Ty} {at' : Int} {back : Bool} {F F' : Nat} (hv : GV v) (hf : Right f) (ht : Right t) (hF : F' ≤ F) : GR F (castR v f t at' back F') := by
  unfold castR
  cases h : castV v f t at' back with
  | inl u => exact ⟨castV_g hv hf ht h, hF⟩
  | inr o => trivial
theorem wf_head {k n : Int} {t f : Ty} {b : Tm} {l : List Tm} (h : WfT (.mk k n t f (b :: l))) : WfT b := by
  cases h <;> assumption
theorem wf_two {k n : Int} {t f : Ty} {a b : Tm} (h : WfT (.mk k n t f [a, b])) : WfT a ∧ WfT b := by
  cases h with
  | bin _ ha hb => exact ⟨ha, hb⟩
theorem wf_three {k n : Int} {t f : Ty} {a b c : Tm} (h : WfT (.mk k n t f [a, b, c])) : WfT a ∧ WfT b ∧ WfT c := by
  cases h with
  | ife ha hb hc => exact ⟨ha, hb, hc⟩
theorem GC.head {k n : Int} {t f : Ty} {b : Tm} {l : List Tm} {env : List V} (h : GC (.tm (.mk k n t f (b :: l)) env)) : GC (.tm b env) := by
  have := nd_head (k := k) (n := n) (t := t) (f := f) (b := b) (l := l)
  exact ⟨wf_head h.1, h.2.1, by have := h.2.2; omega⟩
theorem GC.two {k n : Int} {t f : Ty} {a b : Tm} {env : List V} (h : GC (.tm (.mk k n t f [a, b]) env)) : GC (.tm a env) ∧ GC (.tm b env) := by
  have hn := nd2 (k := k) (n := n) (t := t) (f := f) (a := a) (b := b)
  have := h.2.2
  exact ⟨⟨(wf_two h.1).1, h.2.1, by omega⟩, ⟨(wf_two h.1).2, h.2.1, by omega⟩⟩
theorem GC.three {k n : Int} {t f : Ty} {a b c : Tm} {env : List V} (h : GC (.tm (.mk k n t f [a, b, c]) env)) : GC (.tm a env) ∧ GC (.tm b env) ∧ GC (.tm c env) := by
  have hn := nd3 (k := k) (n := n) (t := t) (f := f) (a := a) (b := b) (c := c)
  have := h.2.2
  exact ⟨⟨(wf_three h.1).1, h.2.1, by omega⟩, ⟨(wf_three h.1).2.1, h.2.1, by omega⟩, ⟨(wf_three h.1).2.2, h.2.1, by omega⟩⟩
theorem ev_g {c : Cmd} {F : Nat} {r : Res} (h : Ev c F r) : GC c → GR F r := by
  induction h with
  | ref hv => rintro ⟨_, he, _⟩; exact ⟨he _ (List.mem_of_getElem? hv), Nat.le_refl _⟩
  | refS hv => intro _; trivial
  | lit => rintro ⟨hw, _, _⟩; cases hw with
    | lit h => exact ⟨.num h, Nat.le_refl _⟩
    | bin hk _ _ => omega
  | says => rintro ⟨hw, _, _⟩; cases hw with
    | says h => exact ⟨.tru h, Nat.le_refl _⟩
    | bin hk _ _ => omega
  | fn =>
    rename_i n t f b l env F
    intro hc
    have := nd_head (k := 7) (n := n) (t := t) (f := f) (b := b) (l := l)
    exact ⟨.clo (wf_head hc.1) hc.2.1 (by have := hc.2.2; omega), Nat.le_refl _⟩
  | asc _ ih => intro hc; exact ih hc.head
  | castO _ ih => intro _; trivial
  | cast _ ih =>
    intro hc
    obtain ⟨h1, h2⟩ := ih hc.head
    cases hc.1 with
    | cast ht hf _ => exact castR_g h1 hf ht h2
    | bin hk _ _ => omega
  | ifO _ ih => intro _; trivial
  | ifS _ hv ih => intro _; trivial
  | ifT _ _ ih1 ih2 => intro hc; obtain ⟨h1, h2, h3⟩ := hc.three; exact (ih2 h2).le (ih1 h1).2
  | ifF _ _ ih1 ih2 => intro hc; obtain ⟨h1, h2, h3⟩ := hc.three; exact (ih2 h3).le (ih1 h1).2
  | binO _ _ ih => intro _; trivial
  | binP _ _ _ _ _ => intro _; trivial
  | twoV hk _ _ h2 ih1 ih2 =>
    intro hc
    obtain ⟨g1, g2⟩ := hc.two
    have a1 := ih1 g1
    have a2 := ih2 g2
    refine ⟨?_, Nat.le_trans a2.2 a1.2⟩
    rename_i k n t f a b env F F' F'' v w u _ _
    cases a1.1 with
    | num h =>
      cases a2.1 with
      | num h' =>
        simp only [twoV, h, h'] at h2
        cases h2
        split
        · split
          · exact .tru (.inr rfl)
          · exact .tru (.inl rfl)
        · exact .num (clamp_in _)
      | _ => cases h2
    | _ => cases h2
  | twoO _ _ _ _ _ _ => intro _; trivial
  | call _ _ _ ih1 ih2 ih3 =>
    intro hc
    obtain ⟨g1, g2⟩ := hc.two
    have a1 := ih1 g1
    have a2 := ih2 g2
    exact (ih3 ⟨a1.1, a2.1⟩).le (Nat.le_trans a2.2 a1.2)
  | clo0 => intro _; trivial
  | clo _ ih =>
    rintro ⟨hf, hx⟩
    cases hf with
    | clo hb he hl =>
      refine (ih ⟨hb, fun v hv => ?_, by simp only [List.length_cons]; omega⟩).le (Nat.le_succ _)
      rcases List.mem_cons.1 hv with rfl | hv
      · exact hx
      · exact he v hv
  | wrapO _ => intro _; trivial
  | wrapP _ _ _ => intro _; trivial
  | wrap hc _ ih =>
    rintro ⟨hf, hx⟩
    cases hf with
    | wrap h0 h1 h2 h3 hv =>
      obtain ⟨a1, a2⟩ := ih ⟨hv, castV_g hx h2 h0 hc⟩
      exact castR_g a1 h1 h3 a2
  | apN => intro _; trivial
  | apT => intro _; trivial
  | apG => intro _; trivial
def NC' : Cmd → Prop
  | .tm t env => cc t = 0 ∧ (∀ v ∈ env, VN v) ∧ t.nodes ≤ 80
  | .ap f x => VN f ∧ VN x
def NR : Res → Prop
  | .ok v _ => VN v
  | .out _ => True
def IC (c : Cmd) : Prop := (∃ τ, CT c τ) ∨ NC' c
theorem ev_nr {c : Cmd} {F : Nat} {r : Res} (h : Ev c F r) : NC' c → NR r := by
  induction h with
  | ref hv => rintro ⟨_, he, _⟩; exact he _ (List.mem_of_getElem? hv)
  | refS hv => intro _; trivial
  | lit => intro _; exact .num
  | says => intro _; exact .tru
  | fn =>
    rename_i n t f b l env F
    rintro ⟨hc, he, hn⟩
    have := nd_head (k := 7) (n := n) (t := t) (f := f) (b := b) (l := l)
    exact .clo he (cc_head (by decide) hc) (by omega)
  | asc _ ih =>
    rename_i n t f b l env F r _
    rintro ⟨hc, he, hn⟩
    have := nd_head (k := 9) (n := n) (t := t) (f := f) (b := b) (l := l)
    exact ih ⟨cc_head (by decide) hc, he, by omega⟩
  | castO _ _ => rintro ⟨hc, _, _⟩; exact (cc_ten hc).elim
  | cast _ _ => rintro ⟨hc, _, _⟩; exact (cc_ten hc).elim
  | ifO _ _ => intro _; trivial
  | ifS _ _ _ => intro _; trivial
  | ifT _ _ ih1 ih2 => rintro ⟨hc, he, hn⟩; rw [cc3 (by decide)] at hc; rw [nd3] at hn; exact ih2 ⟨by omega, he, by omega⟩
  | ifF _ _ ih1 ih2 => rintro ⟨hc, he, hn⟩; rw [cc3 (by decide)] at hc; rw [nd3] at hn; exact ih2 ⟨by omega, he, by omega⟩
  | binO _ _ _ => intro _; trivial
  | binP _ _ _ _ _ => intro _; trivial
  | twoV hk _ _ h2 ih1 ih2 =>
    intro hNC
    rename_i k n t f a b env F F' F'' v w u _ _
    cases v <;> cases w <;> simp only [twoV] at h2
    all_goals first | (split at h2 <;> cases h2) | cases h2
    split
    · exact .tru
    · exact .num
  | twoO _ _ _ _ _ _ => intro _; trivial
  | call _ _ _ ih1 ih2 ih3 => rintro ⟨hc, he, hn⟩; rw [cc2 (by decide)] at hc; rw [nd2] at hn; exact ih3 ⟨ih1 ⟨by omega, he, by omega⟩, ih2 ⟨by omega, he, by omega⟩⟩
  | clo0 => intro _; trivial
  | clo _ ih =>
    rintro ⟨hf, hx⟩
    cases hf with
    | clo he hc hn =>
      refine ih ⟨hc, fun v hv => ?_, hn⟩
      rcases List.mem_cons.1 hv with rfl | hv
      · exact hx
      · exact he v hv
  | wrapO _ => intro _; trivial
  | wrapP _ _ _ => intro _; trivial
  | wrap _ _ _ => rintro ⟨hf, _⟩; cases hf
  | apN => intro _; trivial
  | apT => intro _; trivial
  | apG => intro _; trivial
instance : TOne Tryz.prog 3 := ⟨by kernel_rfl⟩
instance : TOne Tryz.prog 4 := ⟨by kernel_rfl⟩
instance : TOne Tryz.prog 22 := ⟨by kernel_rfl⟩
instance : TOne Tryz.prog 9 := ⟨by kernel_rfl⟩
instance : TStr Tryz.prog 9 := ⟨by kernel_rfl⟩
instance : TOne Tryz.prog 31 := ⟨by kernel_rfl⟩
instance : TOne Tryz.prog 25 := ⟨by kernel_rfl⟩
instance : TOne Tryz.prog 107 := ⟨by kernel_rfl⟩
instance : TAgg Tryz.prog 24 2 := ⟨by kernel_rfl⟩
instance : TField Tryz.prog 24 0 0 := ⟨by kernel_rfl⟩
instance : TField Tryz.prog 24 1 1 := ⟨by kernel_rfl⟩
instance : TStruct Tryz.prog 24 [(0, 1), (1, 1)] := ⟨by kernel_rfl⟩
instance : TZero Tryz.prog 24 [.int .i64 0, .nilsl] := ⟨[.int .i64 0, .slice none 0 0], by kernel_rfl, by (repeat' (first | exact trivial | exact rfl | refine ⟨?_, ?_⟩)); done⟩
instance : TAgg Tryz.prog 27 7 := ⟨by kernel_rfl⟩
instance : TField Tryz.prog 27 0 0 := ⟨by kernel_rfl⟩
instance : TField Tryz.prog 27 1 1 := ⟨by kernel_rfl⟩
instance : TField Tryz.prog 27 2 2 := ⟨by kernel_rfl⟩
instance : TField Tryz.prog 27 3 4 := ⟨by kernel_rfl⟩
instance : TField Tryz.prog 27 4 6 := ⟨by kernel_rfl⟩
instance : TStruct Tryz.prog 27 [(0, 1), (1, 1), (2, 2), (4, 2), (6, 1)] := ⟨by kernel_rfl⟩
instance : TZero Tryz.prog 27 [.int .i64 0, .int .i64 0, .int .i64 0, .nilsl, .int .i64 0, .nilsl, .nilsl] := ⟨[.int .i64 0, .int .i64 0, .int .i64 0, .slice none 0 0, .int .i64 0, .slice none 0 0, .slice none 0 0], by kernel_rfl, by (repeat' (first | exact trivial | exact rfl | refine ⟨?_, ?_⟩)); done⟩
instance : TAgg Tryz.prog 30 3 := ⟨by kernel_rfl⟩
instance : TField Tryz.prog 30 0 0 := ⟨by kernel_rfl⟩
instance : TField Tryz.prog 30 1 1 := ⟨by kernel_rfl⟩
instance : TField Tryz.prog 30 2 2 := ⟨by kernel_rfl⟩
instance : TStruct Tryz.prog 30 [(0, 1), (1, 1), (2, 1)] := ⟨by kernel_rfl⟩
instance : TZero Tryz.prog 30 [.int .i64 0, .int .i64 0, .bool false] := ⟨[.int .i64 0, .int .i64 0, .bool false], by kernel_rfl, by (repeat' (first | exact trivial | exact rfl | refine ⟨?_, ?_⟩)); done⟩
instance : TAgg Tryz.prog 109 10 := ⟨by kernel_rfl⟩
instance : TField Tryz.prog 109 0 0 := ⟨by kernel_rfl⟩
instance : TField Tryz.prog 109 1 7 := ⟨by kernel_rfl⟩
instance : TField Tryz.prog 109 2 9 := ⟨by kernel_rfl⟩
instance : TStruct Tryz.prog 109 [(0, 7), (7, 2), (9, 1)] := ⟨by kernel_rfl⟩
instance : TZero Tryz.prog 109 [.int .i64 0, .int .i64 0, .int .i64 0, .nilsl, .int .i64 0, .nilsl, .nilsl, .int .i64 0, .nilsl, .int .i64 0] := ⟨[.int .i64 0, .int .i64 0, .int .i64 0, .slice none 0 0, .int .i64 0, .slice none 0 0, .slice none 0 0, .int .i64 0, .slice none 0 0, .int .i64 0], by kernel_rfl, by (repeat' (first | exact trivial | exact rfl | refine ⟨?_, ?_⟩)); done⟩
instance : TAgg Tryz.prog 67 1 := ⟨by kernel_rfl⟩
instance : TField Tryz.prog 67 0 0 := ⟨by kernel_rfl⟩
instance : TStruct Tryz.prog 67 [(0, 1)] := ⟨by kernel_rfl⟩
instance : TZero Tryz.prog 67 [.int .i64 0] := ⟨[.int .i64 0], by kernel_rfl, by (repeat' (first | exact trivial | exact rfl | refine ⟨?_, ?_⟩)); done⟩
instance : TElem Tryz.prog 22 24 2 32 := ⟨by kernel_rfl⟩
instance : TElem Tryz.prog 25 27 7 104 := ⟨by kernel_rfl⟩
instance : TElem Tryz.prog 107 109 10 144 := ⟨by kernel_rfl⟩
instance : TArr Tryz.prog 97 10 1 := ⟨by kernel_rfl⟩
end Go.Proofs.YtnflnbdlgdjfmabGreatDoor
namespace Go.Proofs.YtnflnbdlgdjfmabGreatDoor
open Go.RowKit
class TPtr (P : Program) (t : TypeId) : Prop where
  is : P.underlying t = some (.pointer (P.pointee t))
def isPtrC : C → Bool
  | .ptr _ _ => true
  | .fp _ _ => true
  | _ => false
section ops
variable {P : Program} {s : St} {dst : Option Tmp} {rt : TypeId} {pos : String} {after : Array Edge} {guard : Option (Nat × Bool)}
theorem ptr_val {F : Nat → Prop} {ρ : Nat → Lc} {h : Nat → Option Blk} {w : World} {c : C} {v : Value} (H : HRel F ρ h w) (hc : isPtrC c = true) (hr : relC F ρ w c v) (ho : okC h c) : ∃ a, v = .pointer (some a) := by
  cases c <;> simp only [isPtrC, Bool.false_eq_true] at hc
  · obtain ⟨cells, hb⟩ := ho
    obtain ⟨g, _, hg⟩ := hr.2 (H.ver hb)
    exact ⟨_, hg⟩
  · obtain ⟨g, o, hg, _⟩ := hr
    exact ⟨_, hg⟩
theorem laV {t t' : TypeId} {x y : Operand} [T : TPtr P t] (hx' : opU s.t x = .one .nilp) (hy' : opU s.t y = .one .nilp) : LocOp P ⟨dst, .binOp .eql t x y t', rt, pos, after, guard⟩ s [] [] (.one (.bool true)) :=
  laC fun F ρ h w ev H hx => by
    have h1 := (hx x (by simp [Op.operands])).1
    have h2 := (hx y (by simp [Op.operands])).1
    rw [hx'] at h1
    rw [hy'] at h2
    have h1 : ev x = .pointer none := h1
    have h2 : ev y = .pointer none := h2
    exact ⟨_, by simp [execOp, h1, h2, eqGuard, run_eql_pointer_nil w t none T.is], rfl, zo⟩
theorem loc_neNilF {t t' : TypeId} {x y : Operand} [T : TPtr P t] (hx' : opU s.t x = .one .nilp) (hy' : opU s.t y = .one .nilp) : LocOp P ⟨dst, .binOp .neq t x y t', rt, pos, after, guard⟩ s [] [] (.one (.bool false)) :=
  laC fun F ρ h w ev H hx => by
    have h1 := (hx x (by simp [Op.operands])).1
    have h2 := (hx y (by simp [Op.operands])).1
    rw [hx'] at h1
    rw [hy'] at h2
    have h1 : ev x = .pointer none := h1
    have h2 : ev y = .pointer none := h2
    exact ⟨_, by simp [execOp, h1, h2, eqGuard, run_neq_pointer_nil w t none T.is], rfl, zo⟩
theorem laW {t t' : TypeId} {x y : Operand} {c : C} [T : TPtr P t] (hx' : opU s.t x = .one c) (hy' : opU s.t y = .one .nilp) (hc : isPtrC c = true) : LocOp P ⟨dst, .binOp .eql t x y t', rt, pos, after, guard⟩ s [] [] (.one (.bool false)) :=
  laC fun F ρ h w ev H hx => by
    have h1 := hx x (by simp [Op.operands])
    have h2 := (hx y (by simp [Op.operands])).1
    rw [hx'] at h1
    rw [hy'] at h2
    obtain ⟨a, h1⟩ := ptr_val H hc h1.1 h1.2
    have h2 : ev y = .pointer none := h2
    exact ⟨_, by simp [execOp, h1, h2, eqGuard, run_eql_pointer_nil w t (some a) T.is], rfl, zo⟩
theorem loc_neNilT {t t' : TypeId} {x y : Operand} {c : C} [T : TPtr P t] (hx' : opU s.t x = .one c) (hy' : opU s.t y = .one .nilp) (hc : isPtrC c = true) : LocOp P ⟨dst, .binOp .neq t x y t', rt, pos, after, guard⟩ s [] [] (.one (.bool true)) :=
  laC fun F ρ h w ev H hx => by
    have h1 := hx x (by simp [Op.operands])
    have h2 := (hx y (by simp [Op.operands])).1
    rw [hx'] at h1
    rw [hy'] at h2
    obtain ⟨a, h1⟩ := ptr_val H hc h1.1 h1.2
    have h2 : ev y = .pointer none := h2
    exact ⟨_, by simp [execOp, h1, h2, eqGuard, run_neq_pointer_nil w t (some a) T.is], rfl, zo⟩
theorem loc_min2 {ts : Array TypeId} {x y : Operand} {a b : Int} (hx' : opU s.t x = .one (.int .i64 a)) (hy' : opU s.t y = .one (.int .i64 b)) : LocOp P ⟨dst, .call ⟨.builtin .min, #[x, y], ts⟩, rt, pos, after, guard⟩ s [] [] (.one (.int .i64 (min a b))) :=
  laC fun F ρ h w ev H hx => by
    have h1 := (hx x (by simp [Op.operands, Call.operands])).1
    have h2 := (hx y (by simp [Op.operands, Call.operands])).1
    rw [hx'] at h1
    rw [hy'] at h2
    have h1 : ev x = .int .i64 a := h1
    have h2 : ev y = .int .i64 b := h2
    have e : (if b < a then b else a) = min a b := by split <;> omega
    exact ⟨_, by simp [execOp, resolve, invoke, builtin, h1, h2, run_min_int2, e], rfl, zo⟩
theorem loc_max2 {ts : Array TypeId} {x y : Operand} {a b : Int} (hx' : opU s.t x = .one (.int .i64 a)) (hy' : opU s.t y = .one (.int .i64 b)) : LocOp P ⟨dst, .call ⟨.builtin .max, #[x, y], ts⟩, rt, pos, after, guard⟩ s [] [] (.one (.int .i64 (max a b))) :=
  laC fun F ρ h w ev H hx => by
    have h1 := (hx x (by simp [Op.operands, Call.operands])).1
    have h2 := (hx y (by simp [Op.operands, Call.operands])).1
    rw [hx'] at h1
    rw [hy'] at h2
    have h1 : ev x = .int .i64 a := h1
    have h2 : ev y = .int .i64 b := h2
    have e : (if b > a then b else a) = max a b := by split <;> omega
    exact ⟨_, by simp [execOp, resolve, invoke, builtin, h1, h2, run_max_int2, e], rfl, zo⟩
end ops
end Go.Proofs.YtnflnbdlgdjfmabGreatDoor
namespace Go.Proofs.YtnflnbdlgdjfmabGreatDoor
instance : TOne Tryz.prog 71 := ⟨by kernel_rfl⟩
instance : TOne Tryz.prog 70 := ⟨by kernel_rfl⟩
instance : TOne Tryz.prog 69 := ⟨by kernel_rfl⟩
instance : TPtr Tryz.prog 71 := ⟨by kernel_rfl⟩
instance : TPtr Tryz.prog 70 := ⟨by kernel_rfl⟩
instance : TOne Tryz.prog 72 := ⟨by kernel_rfl⟩
instance : TElem Tryz.prog 72 118 16 208 := ⟨by kernel_rfl⟩
instance : TField Tryz.prog 155 0 0 := ⟨by kernel_rfl⟩
instance : TField Tryz.prog 155 1 1 := ⟨by kernel_rfl⟩
instance : TField Tryz.prog 155 2 2 := ⟨by kernel_rfl⟩
instance : TField Tryz.prog 155 3 9 := ⟨by kernel_rfl⟩
instance : TField Tryz.prog 155 4 10 := ⟨by kernel_rfl⟩
instance : TField Tryz.prog 155 5 11 := ⟨by kernel_rfl⟩
instance : TField Tryz.prog 155 6 13 := ⟨by kernel_rfl⟩
instance : TField Tryz.prog 155 7 15 := ⟨by kernel_rfl⟩
instance : TField Tryz.prog 155 8 16 := ⟨by kernel_rfl⟩
instance : TAgg Tryz.prog 155 17 := ⟨by kernel_rfl⟩
instance : TStruct Tryz.prog 155 [(0, 1), (1, 1), (2, 7), (9, 1), (10, 1), (11, 2), (13, 2), (15, 1), (16, 1)] := ⟨by kernel_rfl⟩
instance : TZero Tryz.prog 155 [.int .i64 0, .int .i64 0, .int .i64 0, .int .i64 0, .int .i64 0, .nilsl, .int .i64 0, .nilsl, .nilsl, .nilp, .nilp, .int .i64 0, .nilsl, .int .i64 0, .nilsl, .int .i64 0, .bool false] := ⟨[.int .i64 0, .int .i64 0, .int .i64 0, .int .i64 0, .int .i64 0, .slice none 0 0, .int .i64 0, .slice none 0 0, .slice none 0 0, .pointer none, .pointer none, .int .i64 0, .slice none 0 0, .int .i64 0, .slice none 0 0, .int .i64 0, .bool false], by kernel_rfl, by (repeat' (first | exact trivial | exact rfl | refine ⟨?_, ?_⟩)); done⟩
instance : TField Tryz.prog 118 0 0 := ⟨by kernel_rfl⟩
instance : TField Tryz.prog 118 1 1 := ⟨by kernel_rfl⟩
instance : TField Tryz.prog 118 2 8 := ⟨by kernel_rfl⟩
instance : TField Tryz.prog 118 3 9 := ⟨by kernel_rfl⟩
instance : TField Tryz.prog 118 4 10 := ⟨by kernel_rfl⟩
instance : TField Tryz.prog 118 5 12 := ⟨by kernel_rfl⟩
instance : TField Tryz.prog 118 6 14 := ⟨by kernel_rfl⟩
instance : TField Tryz.prog 118 7 15 := ⟨by kernel_rfl⟩
instance : TAgg Tryz.prog 118 16 := ⟨by kernel_rfl⟩
instance : TStruct Tryz.prog 118 [(0, 1), (1, 7), (8, 1), (9, 1), (10, 2), (12, 2), (14, 1), (15, 1)] := ⟨by kernel_rfl⟩
instance : TZero Tryz.prog 118 [.int .i64 0, .int .i64 0, .int .i64 0, .int .i64 0, .nilsl, .int .i64 0, .nilsl, .nilsl, .nilp, .nilp, .int .i64 0, .nilsl, .int .i64 0, .nilsl, .int .i64 0, .bool false] := ⟨[.int .i64 0, .int .i64 0, .int .i64 0, .int .i64 0, .slice none 0 0, .int .i64 0, .slice none 0 0, .slice none 0 0, .pointer none, .pointer none, .int .i64 0, .slice none 0 0, .int .i64 0, .slice none 0 0, .int .i64 0, .bool false], by kernel_rfl, by (repeat' (first | exact trivial | exact rfl | refine ⟨?_, ?_⟩)); done⟩
instance : TField Tryz.prog 74 0 0 := ⟨by kernel_rfl⟩
instance : TField Tryz.prog 74 1 7 := ⟨by kernel_rfl⟩
instance : TField Tryz.prog 74 2 8 := ⟨by kernel_rfl⟩
instance : TField Tryz.prog 74 3 9 := ⟨by kernel_rfl⟩
instance : TField Tryz.prog 74 4 10 := ⟨by kernel_rfl⟩
instance : TAgg Tryz.prog 74 11 := ⟨by kernel_rfl⟩
instance : TStruct Tryz.prog 74 [(0, 7), (7, 1), (8, 1), (9, 1), (10, 1)] := ⟨by kernel_rfl⟩
instance : TZero Tryz.prog 74 [.int .i64 0, .int .i64 0, .int .i64 0, .nilsl, .int .i64 0, .nilsl, .nilsl, .nilp, .nilp, .nilsl, .int .i64 0] := ⟨[.int .i64 0, .int .i64 0, .int .i64 0, .slice none 0 0, .int .i64 0, .slice none 0 0, .slice none 0 0, .pointer none, .pointer none, .slice none 0 0, .int .i64 0], by kernel_rfl, by (repeat' (first | exact trivial | exact rfl | refine ⟨?_, ?_⟩)); done⟩
instance : TField Tryz.prog 153 0 0 := ⟨by kernel_rfl⟩
instance : TField Tryz.prog 153 1 1 := ⟨by kernel_rfl⟩
instance : TAgg Tryz.prog 153 2 := ⟨by kernel_rfl⟩
instance : TStruct Tryz.prog 153 [(0, 1), (1, 1)] := ⟨by kernel_rfl⟩
instance : TZero Tryz.prog 153 [.nilp, .nilp] := ⟨[.pointer none, .pointer none], by kernel_rfl, by (repeat' (first | exact trivial | exact rfl | refine ⟨?_, ?_⟩)); done⟩
end Go.Proofs.YtnflnbdlgdjfmabGreatDoor
namespace Go.Proofs.YtnflnbdlgdjfmabGreatDoor
open Go.RowKit
def sEq (a b : ByteArray) : Bool := a.data.toList == b.data.toList
theorem sEq_toList (a b : ByteArray) : (a.toList == b.toList) = sEq a b := by
  unfold sEq
  rw [Bool.eq_iff_iff]
  simp [ByteArray.toList_eq]
class TBoo (P : Program) (t : TypeId) : Prop where
  is : P.underlying t = some .bool
class TIf (P : Program) (t : TypeId) : Prop where
  is : P.isIface t = true
class TIdx (P : Program) (t : TypeId) (n : outParam Nat) : Prop where
  is : ∀ (cs : Array Value) (k : IntKind) (i : Nat) (v : Value) (w : World), i < n → cs[i]? = some v → (Instr.index t (.agg cs) (.int k i)).run P w = .ok v w
section ops
variable {P : Program} {s : St} {dst : Option Tmp} {rt : TypeId} {pos : String} {after : Array Edge} {guard : Option (Nat × Bool)}
theorem laL {t t' : TypeId} {x y : Operand} {a b : ByteArray} (hx' : opU s.t x = .one (.str a) := by exact rfl) (hy' : opU s.t y = .one (.str b) := by exact rfl) : LocOp P ⟨dst, .binOp .eql t x y t', rt, pos, after, guard⟩ s [] [] (.one (.bool (sEq a b))) :=
  laC fun F ρ h w ev H hx => by
    have h1 := (hx x (by simp [Op.operands])).1
    have h2 := (hx y (by simp [Op.operands])).1
    rw [hx'] at h1
    rw [hy'] at h2
    have h1 : ev x = .string a := h1
    have h2 : ev y = .string b := h2
    exact ⟨_, by simp [execOp, h1, h2, eqGuard, binOp_string_eql, sEq_toList], rfl, zo⟩
theorem laN {t t' : TypeId} {x y : Operand} {a b : ByteArray} (hx' : opU s.t x = .one (.str a) := by exact rfl) (hy' : opU s.t y = .one (.str b) := by exact rfl) : LocOp P ⟨dst, .binOp .neq t x y t', rt, pos, after, guard⟩ s [] [] (.one (.bool (!sEq a b))) :=
  laC fun F ρ h w ev H hx => by
    have h1 := (hx x (by simp [Op.operands])).1
    have h2 := (hx y (by simp [Op.operands])).1
    rw [hx'] at h1
    rw [hy'] at h2
    have h1 : ev x = .string a := h1
    have h2 : ev y = .string b := h2
    exact ⟨_, by simp [execOp, h1, h2, eqGuard, binOp_string_neq, sEq_toList], rfl, zo⟩
theorem loc_neBool {t t' : TypeId} {x y : Operand} {a b : Bool} [T : TBoo P t] (hx' : opU s.t x = .one (.bool a)) (hy' : opU s.t y = .one (.bool b)) : LocOp P ⟨dst, .binOp .neq t x y t', rt, pos, after, guard⟩ s [] [] (.one (.bool (!(a == b)))) :=
  laC fun F ρ h w ev H hx => by
    have h1 := (hx x (by simp [Op.operands])).1
    have h2 := (hx y (by simp [Op.operands])).1
    rw [hx'] at h1
    rw [hy'] at h2
    have h1 : ev x = .bool a := h1
    have h2 : ev y = .bool b := h2
    exact ⟨_, by simp [execOp, h1, h2, eqGuard, run_neq_bool w t a b T.is], rfl, zo⟩
theorem loc_neIfF {t t' : TypeId} {x y : Operand} [T : TIf P t] (hx' : opU s.t x = .one .nilif) (hy' : y = .const .nilIface) : LocOp P ⟨dst, .binOp .neq t x y t', rt, pos, after, guard⟩ s [] [] (.one (.bool false)) :=
  laC fun F ρ h w ev H hx => by
    subst hy'
    have h1 := (hx x (by simp [Op.operands])).1
    have h2 := (hx (.const .nilIface) (by simp [Op.operands])).1
    rw [hx'] at h1
    have h1 : ev x = .nilIface := h1
    have h2 : ev (.const .nilIface) = .nilIface := h2
    exact ⟨_, by simp [execOp, h1, h2, eqGuard, run_neq_nil_nil_at w t T.is], rfl, zo⟩
theorem loc_neIfT {t t' : TypeId} {x y : Operand} [T : TIf P t] (hx' : opU s.t x = .one .ifc) (hy' : y = .const .nilIface) : LocOp P ⟨dst, .binOp .neq t x y t', rt, pos, after, guard⟩ s [] [] (.one (.bool true)) :=
  laC fun F ρ h w ev H hx => by
    subst hy'
    have h1 := (hx x (by simp [Op.operands])).1
    have h2 := (hx (.const .nilIface) (by simp [Op.operands])).1
    rw [hx'] at h1
    obtain ⟨u, z, h1⟩ := h1
    have h2 : ev (.const .nilIface) = .nilIface := h2
    exact ⟨_, by simp [execOp, h1, h2, eqGuard, run_neq_iface_nil w t T.is u z], rfl, zo⟩
theorem loc_sliceStr1 {t : TypeId} {x : Operand} {k : IntKind} {a : ByteArray} [T : TStr P t] (hx' : opU s.t x = .one (.str a)) (h1 : 1 ≤ a.size) : LocOp P ⟨dst, .slice t x (some (.const (.int k 1))) none none, rt, pos, after, guard⟩ s [] [] (.one (.str (a.extract 1 a.size))) :=
  laC fun F ρ h w ev H hx => by
    have h2 := (hx x (by simp [Op.operands])).1
    have h3 := (hx (.const (.int k 1)) (by simp [Op.operands])).1
    rw [hx'] at h2
    have h2 : ev x = .string a := h2
    have h3 : ev (.const (.int k 1)) = .int k 1 := h3
    have hb : 0 ≤ (1 : Int) ∧ (1 : Int) ≤ (a.size : Int) := by omega
    refine ⟨.string (a.extract 1 a.size), ?_, rfl, zo⟩
    have := run_slice_string_from_if w t a k 1 T.ok
    rw [if_pos hb] at this
    simp only [execOp, h2, h3, Option.map_some, Option.map_none]
    simp [run_sliceAt_string w t _ _ _ _ T.ok, this]
theorem ld7 {t : TypeId} {x y : Operand} {k : IntKind} {l : List C} {c : C} {n i : Nat} [T : TIdx P t n] (hx' : opU s.t x = .agg l) (hy' : opU s.t y = .one (.int k (i : Nat))) (hi : i < n) (hc : l[i]? = some c) : LocOp P ⟨dst, .index t x y, rt, pos, after, guard⟩ s [] [] (.one c) :=
  laC fun F ρ h w ev H hx => by
    have h1 := hx x (by simp [Op.operands])
    have h2 := (hx y (by simp [Op.operands])).1
    rw [hx'] at h1
    rw [hy'] at h2
    have h2 : ev y = .int k i := h2
    obtain ⟨vs, h3, h4⟩ := h1.1
    obtain ⟨v, hv, hr⟩ := h4.get i c hc
    refine ⟨v, ?_, hr, h1.2 c (List.mem_of_getElem? hc)⟩
    simp [execOp, h2, h3, T.is vs.toArray k i v w hi (by simpa using hv)]
end ops
instance : TBoo Tryz.prog 4 := ⟨by kernel_rfl⟩
instance : TIf Tryz.prog 131 := ⟨by kernel_rfl⟩
instance : TOne Tryz.prog 49 := ⟨by kernel_rfl⟩
instance : TOne Tryz.prog 48 := ⟨by kernel_rfl⟩
instance : TElem Tryz.prog 49 9 1 16 := ⟨by kernel_rfl⟩
instance : TAgg Tryz.prog 53 2 := ⟨by kernel_rfl⟩
instance : TField Tryz.prog 53 0 0 := ⟨by kernel_rfl⟩
instance : TField Tryz.prog 53 1 1 := ⟨by kernel_rfl⟩
instance : TStruct Tryz.prog 53 [(0, 1), (1, 1)] := ⟨by kernel_rfl⟩
instance : TZero Tryz.prog 53 [.nilsl, .bool false] := ⟨[.slice none 0 0, .bool false], by kernel_rfl, by (repeat' (first | exact trivial | exact rfl | refine ⟨?_, ?_⟩)); done⟩
instance : TAgg Tryz.prog 137 4 := ⟨by kernel_rfl⟩
instance : TAgg Tryz.prog 95 10 := ⟨by kernel_rfl⟩
theorem index_str {t n : Nat} (ht : Tryz.prog.underlying t = some (.array n 9)) : ∀ (cs : Array Value) (k : IntKind) (i : Nat) (v : Value) (w : World), i < n → cs[i]? = some v → (Instr.index t (.agg cs) (.int k i)).run Tryz.prog w = .ok v w := by
  intro cs k i v w hi hv
  have h0 : 0 ≤ (i : Int) ∧ (i : Int) < (n : Int) := by omega
  simp [Instr.index, asIntOf, run_underlying ht, h0, part, Tryz.isAgg9, Tryz.sizeOf9, hv, go_sem]
  intro h; omega
instance : TIdx Tryz.prog 137 4 := ⟨index_str Tryz.underlying137⟩
instance : TIdx Tryz.prog 95 10 := ⟨index_str Tryz.underlying95⟩
end Go.Proofs.YtnflnbdlgdjfmabGreatDoor
namespace Go.Proofs.YtnflnbdlgdjfmabGreatDoor
open Go.RowKit
set_option maxRecDepth 100000
attribute [local irreducible] RunL AW LocOp ACalls Gh
set_option maxHeartbeats 2000000 in
theorem lfX : ∀ a b : Ty, ACalls Tryz.prog 74 [a.u, b.u] [] (.one (.bool (a.same b))) [] := by
  intro a
  induction a using Ty.ind' with
  | h a ih =>
  intro b
  refine zB Tryz.func74 ?_

  cases hk : (a.k != b.k) with
  | true =>
    refine zQ ?_;refine zM lan ?_;refine zM lan ?_;refine zV lab ?_;refine zn (zq (zQ ?_));refine zV lad ?_;refine zV lae ?_;refine zV lad ?_;refine zV lae ?_;refine zV lac ?_;refine zV laa ?_;refine zt ?_;refine zt ?_;refine zt ?_;refine zt ?_;refine zt ?_;refine zt ?_;refine zt ?_;refine zV (lam true) ?_;refine zn ?_;refine zcT ?_;refine zQ ?_;refine zV lab ?_;refine zn (zre ?_)
    have hr : a.same b = false := by rw [lfs]; simp at hk; simp [*]
    rw [hr]
    exact la1 (.inr rfl) rfl zo
  | false =>
    have hkk : a.k = b.k := by simpa using hk
    refine zQ ?_;refine zM lan ?_;refine zM lan ?_;refine zV lab ?_;refine zn (zq (zQ ?_));refine zV lad ?_;refine zV lae ?_;refine zV lad ?_;refine zV lae ?_;refine zV lac ?_;refine zV laa ?_;refine zF lad ?_;refine zF lae ?_;refine zF lay ?_;refine zF lad ?_;refine zF lae ?_;refine zF lay ?_;refine zF lac ?_;refine zV (lam false) ?_;refine zn ?_
    refine AW.cond (by exact rfl) (fun hc => ?_) (fun hc => ?_)
    · refine zQ ?_; refine zV lab ?_; refine zn (zre ?_)
      have hne : a.l.length ≠ b.l.length := by
        have := lfD hc
        rwa [la2, la2] at this
      have hr : a.same b = false := by rw [lfs, lfF hne]; simp [*]
      rw [hr]
      exact la1 (.inr rfl) rfl zo
    · have hlen : a.l.length = b.l.length := by
        have := lfE hc
        rwa [la2, la2] at this
      have hres : a.same b = sameL (a.l.drop 0) (b.l.drop 0) := by rw [lfs]; simp [*]
      rw [hres]
      refine zsk (zq (zQ ?_));refine zV lad ?_;refine zV lae ?_;refine zV lay ?_;refine zV laa ?_;refine zn (zbl ?_)
      refine AW.gh (laZ [(2, .one (.ptr 2 0)), (3, .one (.ptr 3 0)), (21, .one (slOf 2 (tyRows a.l))), (22, .one (.int .i64 ((tyRows a.l).length : Nat))), (23, .one (.int .i64 ((0 : Nat) : Int)))] [(2, .obj a.c), (3, .obj b.c)] [] [] ⟨(zw rfl zo), (zw rfl zo), (by exact WkU.of_eq rfl zo), (zw rfl zo), (zw rfl zo), zo⟩ ⟨(by exact zb rfl), (by exact zb rfl), zo⟩ trivial zo rfl rfl ⟨⟨_, rfl⟩, ⟨_, rfl⟩, zo, zo, zo, zo⟩ ⟨(by exact ⟨zo, zo, zo⟩), (by exact ⟨zo, zo, zo⟩), zo⟩) ?_
      refine AW.lenSl 21 rfl fun hmax => ?_
      refine AW.loop (fun m t h => ∃ i : Nat, i ≤ a.l.length ∧ m = a.l.length - i ∧ sameL (a.l.drop 0) (b.l.drop 0) = sameL (a.l.drop i) (b.l.drop i) ∧ t = tOfL [(2, .one (.ptr 2 0)), (3, .one (.ptr 3 0)), (21, .one (slOf 2 (tyRows a.l))), (22, .one (.int .i64 ((tyRows a.l).length : Nat))), (23, .one (.int .i64 ((i : Nat) : Int)))] ∧ h = ofL [(2, .obj a.c), (3, .obj b.c)]) a.l.length ⟨0, Nat.zero_le _, rfl, rfl, rfl, rfl⟩ ?_
      rintro m t h ⟨i, hi, rfl, hinv, rfl, rfl⟩
      have hL := la2 a.l
      cases hlt : decide ((i : Int) < ((tyRows a.l).length : Nat)) with
      | false =>
        have hil : i = a.l.length := by simp at hlt; omega
        refine zQ ?_;refine zV lac ?_;refine zn (zq ?_);refine zaF ?_;refine zex (zQ ?_);refine zV lab ?_;refine zn (zre ?_)
        rw [hinv, hil]
        have hr : sameL (a.l.drop a.l.length) (b.l.drop a.l.length) = true := by rw [List.drop_length, hlen, List.drop_length]; rfl
        rw [hr]
        exact la1 (.inr rfl) rfl zo
      | true =>
        have hil : i < a.l.length := by simp at hlt; omega
        have hilb : i < b.l.length := by omega
        have hr1 := lbb hil
        have hr2 := lbb hilb
        refine zQ ?_;refine zV lac ?_;refine zn (zq ?_);refine zaT ?_;refine zsk (zq (zbl (zQ ?_)));refine zV laa ?_;refine zV lab ?_;refine zn (zq ?_);refine zRD ?_;refine zV lad ?_;refine zV lae ?_;refine zV laa ?_;refine zV (lap _) ?_;refine zV lao ?_;refine zV lad ?_;refine zV lae ?_;refine zV laa ?_;refine zV (lap _) ?_;refine zV lao ?_
        refine zV (lal (ih a.l[i] (List.getElem_mem _) b.l[i]) rfl (by refine ⟨_, _, rfl, (by exact LeU.of_eq rfl zo), (by (exact ⟨zo, zo, zo⟩)), ?_⟩;refine ⟨_, _, rfl, (by exact LeU.of_eq rfl zo), (by (exact ⟨zo, zo, zo⟩)), ?_⟩;exact rfl)) ?_
        have hs := sameL_drop hil hilb
        cases hq : a.l[i].same b.l[i] with
        | false =>
          rw [hq, Bool.false_and] at hs
          refine zV laz ?_;refine znD ?_;refine zcT ?_;refine zQ ?_;refine zV lab ?_;refine zn (zre ?_)
          rw [hinv, hs]
          exact la1 (.inr rfl) rfl zo
        | true =>
          rw [hq, Bool.true_and] at hs
          refine zV laz ?_;refine znD ?_;refine zcF ?_;refine zsk (zR ?_);refine zV laD ?_;refine zV laa ?_;refine zn ?_
          exact ⟨a.l.length - (i + 1), _, _, by omega, (laZ [(2, .one (.ptr 2 0)), (3, .one (.ptr 3 0)), (21, .one (slOf 2 (tyRows a.l))), (22, .one (.int .i64 ((tyRows a.l).length : Nat))), (23, .one (.int .i64 ((i + 1 : Nat) : Int)))] [(2, .obj a.c), (3, .obj b.c)] [] [] ⟨(zw rfl zo), (zw rfl zo), (by exact WkU.of_eq rfl zo), (zw rfl zo), (zw rfl zo), zo⟩ ⟨(by exact zb rfl), (by exact zb rfl), zo⟩ trivial zo rfl rfl ⟨⟨_, rfl⟩, ⟨_, rfl⟩, zo, zo, zo, zo⟩ ⟨(by exact ⟨zo, zo, zo⟩), (by exact ⟨zo, zo, zo⟩), zo⟩), i + 1, by omega, rfl, by rw [hinv, hs], rfl, rfl⟩
set_option maxHeartbeats 2000000 in
theorem fits_a : ∀ a b : Ty, ACalls Tryz.prog 59 [a.u, b.u] [] (.one (.bool (a.fits b))) [] := by
  intro a
  induction a using Ty.ind' with
  | h a ih =>
  intro b
  refine zB Tryz.func59 ?_
  cases h0 : (a.k == 0) with
  | true =>
    refine zQ ?_;refine zM lan ?_;refine zM lan ?_;refine zV lab ?_;refine zn (zq (zQ ?_));refine zV lad ?_;refine zV lae ?_;refine zV lac ?_;refine zV laa ?_;refine zt ?_;refine zt ?_;refine zt ?_;refine zV (lam true) ?_;refine zn ?_;refine zcT ?_;refine zQ ?_;refine zV lab ?_;refine zn (zre ?_)
    have hr : a.fits b = true := by rw [lcc, h0]; rfl
    rw [hr]
    exact la1 (.inr rfl) rfl zo
  | false =>
  cases h1 : (b.k == 0) with
  | true =>
    refine zQ ?_;refine zM lan ?_;refine zM lan ?_;refine zV lab ?_;refine zn (zq (zQ ?_));refine zV lad ?_;refine zV lae ?_;refine zV lac ?_;refine zV laa ?_;refine zF lad ?_;refine zF lae ?_;refine zF lac ?_;refine zV (lam false) ?_;refine zn ?_;refine zaT ?_;refine zQ ?_;refine zV lab ?_;refine zn (zre ?_)
    have hr : a.fits b = true := by rw [lcc, h0, h1]; rfl
    rw [hr]
    exact la1 (.inr rfl) rfl zo
  | false =>
  cases hk : (a.k != b.k) with
  | true =>
    refine zQ ?_;refine zM lan ?_;refine zM lan ?_;refine zV lab ?_;refine zn (zq (zQ ?_));refine zV lad ?_;refine zV lae ?_;refine zV lac ?_;refine zV laa ?_;refine zF lad ?_;refine zF lae ?_;refine zF lac ?_;refine zV (lam false) ?_;refine zn ?_;refine zaF ?_;refine zsk (zq (zQ ?_));refine zV lad ?_;refine zV lae ?_;refine zV lad ?_;refine zV lae ?_;refine zV lac ?_;refine zV laa ?_;refine zt ?_;refine zt ?_;refine zt ?_;refine zt ?_;refine zt ?_;refine zt ?_;refine zt ?_;refine zV (lam true) ?_;refine zn ?_;refine zcT ?_;refine zQ ?_;refine zV lab ?_;refine zn (zre ?_)
    have hr : a.fits b = false := by rw [lcc]; simp at hk; simp [*]
    rw [hr]
    exact la1 (.inr rfl) rfl zo
  | false =>
    have hkk : a.k = b.k := by simpa using hk
    refine zQ ?_;refine zM lan ?_;refine zM lan ?_;refine zV lab ?_;refine zn (zq (zQ ?_));refine zV lad ?_;refine zV lae ?_;refine zV lac ?_;refine zV laa ?_;refine zF lad ?_;refine zF lae ?_;refine zF lac ?_;refine zV (lam false) ?_;refine zn ?_;refine zaF ?_;refine zsk (zq (zQ ?_));refine zV lad ?_;refine zV lae ?_;refine zV lad ?_;refine zV lae ?_;refine zV lac ?_;refine zV laa ?_;refine zF lad ?_;refine zF lae ?_;refine zF lay ?_;refine zF lad ?_;refine zF lae ?_;refine zF lay ?_;refine zF lac ?_;refine zV (lam false) ?_;refine zn ?_
    refine AW.cond (by exact rfl) (fun hc => ?_) (fun hc => ?_)
    · refine zQ ?_; refine zV lab ?_; refine zn (zre ?_)
      have hne : a.l.length ≠ b.l.length := by
        have := lfD hc
        rwa [la2, la2] at this
      have hr : a.fits b = false := by rw [lcc, lfG hne]; simp [*]
      rw [hr]
      exact la1 (.inr rfl) rfl zo
    · have hlen : a.l.length = b.l.length := by
        have := lfE hc
        rwa [la2, la2] at this
      have hres : a.fits b = fitsL (a.l.drop 0) (b.l.drop 0) := by rw [lcc]; simp [*]
      rw [hres]
      refine zsk (zq (zQ ?_));refine zV lad ?_;refine zV lae ?_;refine zV lay ?_;refine zV laa ?_;refine zn (zbl ?_)
      refine AW.gh (laZ [(2, .one (.ptr 2 0)), (3, .one (.ptr 3 0)), (29, .one (slOf 2 (tyRows a.l))), (30, .one (.int .i64 ((tyRows a.l).length : Nat))), (31, .one (.int .i64 ((0 : Nat) : Int)))] [(2, .obj a.c), (3, .obj b.c)] [] [] ⟨(zw rfl zo), (zw rfl zo), (by exact WkU.of_eq rfl zo), (zw rfl zo), (zw rfl zo), zo⟩ ⟨(by exact zb rfl), (by exact zb rfl), zo⟩ trivial zo rfl rfl ⟨⟨_, rfl⟩, ⟨_, rfl⟩, zo, zo, zo, zo⟩ ⟨(by exact ⟨zo, zo, zo⟩), (by exact ⟨zo, zo, zo⟩), zo⟩) ?_
      refine AW.lenSl 29 rfl fun hmax => ?_
      refine AW.loop (fun m t h => ∃ i : Nat, i ≤ a.l.length ∧ m = a.l.length - i ∧ fitsL (a.l.drop 0) (b.l.drop 0) = fitsL (a.l.drop i) (b.l.drop i) ∧ t = tOfL [(2, .one (.ptr 2 0)), (3, .one (.ptr 3 0)), (29, .one (slOf 2 (tyRows a.l))), (30, .one (.int .i64 ((tyRows a.l).length : Nat))), (31, .one (.int .i64 ((i : Nat) : Int)))] ∧ h = ofL [(2, .obj a.c), (3, .obj b.c)]) a.l.length ⟨0, Nat.zero_le _, rfl, rfl, rfl, rfl⟩ ?_
      rintro m t h ⟨i, hi, rfl, hinv, rfl, rfl⟩
      have hL := la2 a.l
      cases hlt : decide ((i : Int) < ((tyRows a.l).length : Nat)) with
      | false =>
        have hil : i = a.l.length := by simp at hlt; omega
        refine zQ ?_;refine zV lac ?_;refine zn (zq ?_);refine zaF ?_;refine zex (zQ ?_);refine zV lab ?_;refine zn (zre ?_)
        rw [hinv, hil]
        have hr : fitsL (a.l.drop a.l.length) (b.l.drop a.l.length) = true := by rw [List.drop_length, hlen, List.drop_length]; rfl
        rw [hr]
        exact la1 (.inr rfl) rfl zo
      | true =>
        have hil : i < a.l.length := by simp at hlt; omega
        have hilb : i < b.l.length := by omega
        have hr1 := lbb hil
        have hr2 := lbb hilb
        refine zQ ?_;refine zV lac ?_;refine zn (zq ?_);refine zaT ?_;refine zsk (zq (zbl (zQ ?_)));refine zV laa ?_;refine zV lab ?_;refine zn (zq ?_);refine zRD ?_;refine zV lad ?_;refine zV lae ?_;refine zV laa ?_;refine zV (lap _) ?_;refine zV lao ?_;refine zV lad ?_;refine zV lae ?_;refine zV laa ?_;refine zV (lap _) ?_;refine zV lao ?_
        refine zV (lal (ih a.l[i] (List.getElem_mem _) b.l[i]) rfl (by refine ⟨_, _, rfl, (by exact LeU.of_eq rfl zo), (by (exact ⟨zo, zo, zo⟩)), ?_⟩;refine ⟨_, _, rfl, (by exact LeU.of_eq rfl zo), (by (exact ⟨zo, zo, zo⟩)), ?_⟩;exact rfl)) ?_
        have hs := fitsL_drop hil hilb
        cases hq : a.l[i].fits b.l[i] with
        | false =>
          rw [hq, Bool.false_and] at hs
          refine zV laz ?_;refine znD ?_;refine zcT ?_;refine zQ ?_;refine zV lab ?_;refine zn (zre ?_)
          rw [hinv, hs]
          exact la1 (.inr rfl) rfl zo
        | true =>
          rw [hq, Bool.true_and] at hs
          refine zV laz ?_;refine znD ?_;refine zcF ?_;refine zsk (zR ?_);refine zV laD ?_;refine zV laa ?_;refine zn ?_
          exact ⟨a.l.length - (i + 1), _, _, by omega, (laZ [(2, .one (.ptr 2 0)), (3, .one (.ptr 3 0)), (29, .one (slOf 2 (tyRows a.l))), (30, .one (.int .i64 ((tyRows a.l).length : Nat))), (31, .one (.int .i64 ((i + 1 : Nat) : Int)))] [(2, .obj a.c), (3, .obj b.c)] [] [] ⟨(zw rfl zo), (zw rfl zo), (by exact WkU.of_eq rfl zo), (zw rfl zo), (zw rfl zo), zo⟩ ⟨(by exact zb rfl), (by exact zb rfl), zo⟩ trivial zo rfl rfl ⟨⟨_, rfl⟩, ⟨_, rfl⟩, zo, zo, zo, zo⟩ ⟨(by exact ⟨zo, zo, zo⟩), (by exact ⟨zo, zo, zo⟩), zo⟩), i + 1, by omega, rfl, by rw [hinv, hs], rfl, rfl⟩
theorem la9 : ∀ l : List Ty, closedRows (tyRows l) = true
  | [] => rfl
  | a :: l => by simp only [tyRows, closedRows, Ty.cells_c]; rw [la9 l]; rfl
theorem lbg {P : Program} {x : Tmp} {ty : TypeId} {b n : Nat} {l l' : List C} {e : Exit} {t : Nat → U} {h : Nat → Option Blk} [T : TAgg P ty n] (he : e = .normal ∨ e = .ret) (hx : t x = .one (.ptr b 0)) (hb : h b = some (.obj l)) (hn : l.length = n) (fz : List Nat) (hfz : AllP (ClosedAt h) fz) (hw : All2 (WkC h fz []) l l') (hok : AllP (okC (ofL [])) l') {r : U} (hr : r = .agg l') : RetQ P #[.cell x ty] r [] e t h := by
  subst hr
  exact ⟨he, [.agg l], ⟨⟨b, l, hx, hb, .inl ⟨n, T, hn, rfl⟩⟩, zo⟩, ⟨zo, zo⟩, .agg l, rfl, fz, hfz, hw, zo, by
    induction fz with
    | nil => rfl
    | cons b l ih => simp [disj, namesL], hok, trivial⟩
theorem rq {P : Program} {rs : Array ResultVar} {r : U} {O' : List (Nat × Blk)} {e : Exit} {t : Nat → U} {h : Nat → Option Blk} (q : RetQ P rs r O' e t h) : RetQ P rs r O' e t h := q
set_option maxHeartbeats 1000000 in
theorem to_a (a b : Ty) : ACalls Tryz.prog 61 [a.u, b.u] [] (.to a b : Ty).u [] := by
  refine zB Tryz.func61 ?_
  refine zQ ?_;refine zM lan ?_;refine zM lan ?_;refine zM lah ?_;refine zn (zQ ?_);refine zV laj ?_;refine zV laj ?_;refine zV (laF (by exact rfl) (by exact rfl) (by decide) (by decide) (by exact RowsOf.cons (by exact rfl) (RowsOf.cons (by exact rfl) RowsOf.nil)) (by exact AllP.cons (by exact rfl) (AllP.cons (by exact rfl) AllP.nil))) ?_;refine zV laq ?_;refine zE laf ?_;refine zn (zre ?_)
  refine rq ?_
  refine lbg (by exact .inr rfl) (by exact rfl) (by exact rfl) (by exact rfl) [] trivial (l' := [.int .i64 3, slOf 2 (tyRows [a, b])]) (by exact ⟨.le (.refl _), .le (LeC.slF (by simp only [tyRows, Ty.cells_c];exact LeRows.refl _)), zo⟩) (by exact ⟨zo, zo, zo⟩) (by exact rfl)
set_option maxHeartbeats 1000000 in
theorem lfy (a : Ty) : ACalls Tryz.prog 62 [a.u] [] a.ground.u [] := by
  refine zB Tryz.func62 ?_
  cases hk : (a.k == 3) with
  | true =>
    refine zQ ?_;refine zM lan ?_;refine zM lah ?_;refine zn (zq (zQ ?_));refine zV lad ?_;refine zV lae ?_;refine zV lac ?_;refine zn ?_;refine zaT ?_;refine zQ ?_;refine zV laq ?_;refine zV laq ?_
    refine zV (lal (to_a .any .any) rfl (by refine ⟨_, _, rfl, (by (refine LeU.agg' rfl ?_;exact ⟨LeC.refl _, LeC.nil _, zo⟩)), (by (exact ⟨zo, zo, zo⟩)), ?_⟩;refine ⟨_, _, rfl, (by (refine LeU.agg' rfl ?_;exact ⟨LeC.refl _, LeC.nil _, zo⟩)), (by (exact ⟨zo, zo, zo⟩)), ?_⟩;exact rfl)) ?_
    refine zE laf ?_;refine zn (zre ?_)
    rw [show a.ground = .to .any .any by unfold Ty.ground; rw [hk]; rfl]
    refine rq ?_
    refine lbg (by exact .inr rfl) (by exact rfl) (by exact rfl) (by exact rfl) [] trivial (l' := (.to .any .any : Ty).c) (by exact ⟨.le (.refl _), .le (.refl _), zo⟩) (by exact ⟨zo, zo, zo⟩) (by exact rfl)
  | false =>
    refine zQ ?_;refine zM lan ?_;refine zM lah ?_;refine zn (zq (zQ ?_));refine zV lad ?_;refine zV lae ?_;refine zV lac ?_;refine zn ?_;refine zaF ?_;refine zsk (zQ ?_);refine zV lad ?_;refine zV lae ?_;refine zV laq ?_;refine zE laf ?_;refine zn (zre ?_)
    rw [show a.ground = .mk a.k [] by unfold Ty.ground; rw [hk]; rfl]
    refine rq ?_
    refine lbg (by exact .inr rfl) (by exact rfl) (by exact rfl) (by exact rfl) [] trivial (l' := (Ty.mk a.k []).c) (by exact ⟨.le (.refl _), .le (.nil _), zo⟩) (by exact ⟨zo, zo, zo⟩) (by exact rfl)
set_option maxHeartbeats 1000000 in
theorem good_a : ∀ (d : Nat) (a : Ty), d ≤ 4 → ACalls Tryz.prog 108 [a.u, .one (.int .i64 (5 - (d : Int)))] [] (.one (.bool (a.good d))) [] := by
  intro d
  induction d with
  | zero =>
    intro a _
    refine zB Tryz.func108 ?_
    have h1 : decide ((5 - ((0 : Nat) : Int)) > 4) = true := rfl
    refine zQ ?_;refine zM lan ?_;refine zV lab ?_;refine zn (zq (zQ ?_));refine zV laa ?_;refine zV lac ?_;refine zV laa ?_;refine zs ?_;refine zs ?_;refine zs ?_;refine zV laA ?_;refine zV laa ?_;refine zs ?_;refine zs ?_;refine zs ?_;refine zV laA ?_;refine zn ?_;refine zcT ?_;refine zQ ?_;refine zV lab ?_;refine zn (zre ?_)
    rw [show a.good 0 = false by cases a; rfl]
    exact la1 (.inr rfl) rfl zo
  | succ n ih =>
    rintro ⟨k, l⟩ hn
    refine zB Tryz.func108 ?_
    have h1 : decide ((5 - ((n + 1 : Nat) : Int)) > 4) = false := by simp; omega
    cases h2 : decide (k < 0) with
    | true =>
      refine zQ ?_;refine zM lan ?_;refine zV lab ?_;refine zn (zq (zQ ?_));refine zV laa ?_;refine zV lac ?_;refine zV laa ?_;refine zF lad ?_;refine zF lae ?_;refine zF lac ?_;refine zV (lam false) ?_;refine zV laa ?_;refine zt ?_;refine zt ?_;refine zt ?_;refine zV (lam true) ?_;refine zn ?_;refine zcT ?_;refine zQ ?_;refine zV lab ?_;refine zn (zre ?_)
      rw [show (Ty.mk k l).good (n + 1) = false by simp at h2; simp [Ty.good]; omega]
      exact la1 (.inr rfl) rfl zo
    | false =>
    cases h3 : decide (k > 3) with
    | true =>
      refine zQ ?_;refine zM lan ?_;refine zV lab ?_;refine zn (zq (zQ ?_));refine zV laa ?_;refine zV lac ?_;refine zV laa ?_;refine zF lad ?_;refine zF lae ?_;refine zF lac ?_;refine zV (lam false) ?_;refine zV laa ?_;refine zF lad ?_;refine zF lae ?_;refine zF lac ?_;refine zV (lam false) ?_;refine zn ?_;refine zaT ?_;refine zQ ?_;refine zV lab ?_;refine zn (zre ?_)
      rw [show (Ty.mk k l).good (n + 1) = false by simp at h3; simp [Ty.good]; omega]
      exact la1 (.inr rfl) rfl zo
    | false =>
    cases h4 : (k != 3) with
    | true =>
      refine zQ ?_;refine zM lan ?_;refine zV lab ?_;refine zn (zq (zQ ?_));refine zV laa ?_;refine zV lac ?_;refine zV laa ?_;refine zF lad ?_;refine zF lae ?_;refine zF lac ?_;refine zV (lam false) ?_;refine zV laa ?_;refine zF lad ?_;refine zF lae ?_;refine zF lac ?_;refine zV (lam false) ?_;refine zn ?_;refine zaF ?_;refine zsk (zq (zQ ?_));refine zV lad ?_;refine zV lae ?_;refine zV lac ?_;refine zn ?_;refine zaT ?_;refine zQ ?_;refine zV lad ?_;refine zV lae ?_;refine zV lay ?_;refine zV lac ?_;refine zV lab ?_;refine zn (zre ?_)
      rw [show (Ty.mk k l).good (n + 1) = (((tyRows l).length : Int) == 0) by
        simp at h2 h3 h4
        rw [la2]
        have : (((l.length : Nat) : Int) == 0) = (l.length == 0) := by
          rw [Bool.eq_iff_iff]; simp
        rw [this]
        simp [Ty.good, h4]
        omega]
      exact la1 (.inr rfl) rfl zo
    | false =>
    have hk3 : k = 3 := by simpa using h4
    cases h5 : ((((tyRows l).length : Nat) : Int) == 2) with
    | false =>
      refine zQ ?_;refine zM lan ?_;refine zV lab ?_;refine zn (zq (zQ ?_));refine zV laa ?_;refine zV lac ?_;refine zV laa ?_;refine zF lad ?_;refine zF lae ?_;refine zF lac ?_;refine zV (lam false) ?_;refine zV laa ?_;refine zF lad ?_;refine zF lae ?_;refine zF lac ?_;refine zV (lam false) ?_;refine zn ?_;refine zaF ?_;refine zsk (zq (zQ ?_));refine zV lad ?_;refine zV lae ?_;refine zV lac ?_;refine zn ?_;refine zaF ?_;refine zsk (zQ ?_);refine zV lad ?_;refine zV lae ?_;refine zV lay ?_;refine zV lac ?_;refine zV laa ?_;refine zf ?_;refine zf ?_;refine zf ?_;refine zf ?_;refine zf ?_;refine zf ?_;refine zf ?_;refine zV (lam false) ?_;refine zV laa ?_;refine zs ?_;refine zs ?_;refine zs ?_;refine zs ?_;refine zs ?_;refine zs ?_;refine zs ?_;refine zV law ?_;refine zV lab ?_;refine zn (zre ?_)
      rw [show (Ty.mk k l).good (n + 1) = false by
        subst hk3
        have hne : l.length ≠ 2 := by
          intro he
          rw [la2, he] at h5
          simp at h5
        match l, hne with
        | [], _ => simp [Ty.good]
        | [_], _ => simp [Ty.good]
        | [_, _], h => exact absurd rfl h
        | _ :: _ :: _ :: _, _ => simp [Ty.good]]
      exact la1 (.inr rfl) rfl zo
    | true =>
      have hl2 : l.length = 2 := by rw [la2] at h5; simp at h5; omega
      obtain ⟨x, y, rfl⟩ : ∃ x y, l = [x, y] := by
        match l, hl2 with
        | [x, y], _ => exact ⟨x, y, rfl⟩
      have hr0 : (tyRows [x, y])[0]? = some x.c := lbb (l := [x, y]) (by simp)
      have hr1 : (tyRows [x, y])[1]? = some y.c := lbb (l := [x, y]) (by simp)
      have e : (5 - ((n + 1 : Nat) : Int)) + 1 = 5 - (n : Int) := by omega
      have ih' : ∀ a : Ty, ACalls Tryz.prog 108 [a.u, .one (.int .i64 ((5 - ((n + 1 : Nat) : Int)) + 1))] [] (.one (.bool (a.good n))) [] := fun a => by rw [e]; exact ih a (by omega)
      have hres : (Ty.mk k [x, y]).good (n + 1) = (x.good n && y.good n) := by subst hk3; simp [Ty.good]
      rw [hres]
      cases hx : x.good n with
      | false =>
        refine zQ ?_;refine zM lan ?_;refine zV lab ?_;refine zn (zq (zQ ?_));refine zV laa ?_;refine zV lac ?_;refine zV laa ?_;refine zF lad ?_;refine zF lae ?_;refine zF lac ?_;refine zV (lam false) ?_;refine zV laa ?_;refine zF lad ?_;refine zF lae ?_;refine zF lac ?_;refine zV (lam false) ?_;refine zn ?_;refine zaF ?_;refine zsk (zq (zQ ?_));refine zV lad ?_;refine zV lae ?_;refine zV lac ?_;refine zn ?_;refine zaF ?_;refine zsk (zQ ?_);refine zV lad ?_;refine zV lae ?_;refine zV lay ?_;refine zV lac ?_;refine zV laa ?_;refine zI lad ?_;refine zI lae ?_;refine zI (lap _) ?_;refine zI lao ?_;refine zI laa ?_;refine zI laI ?_
        refine zI (lal (ih' x) rfl (by refine ⟨_, _, rfl, (by exact LeU.of_eq rfl zo), (by (exact ⟨zo, zo, zo⟩)), ?_⟩;refine zC ?_;exact rfl)) ?_
        refine zV laA ?_;refine zV laa ?_;refine zf ?_;refine zf ?_;refine zf ?_;refine zf ?_;refine zf ?_;refine zf ?_;refine zf ?_;refine zV (lam false) ?_;refine zV lab ?_;refine zn (zre ?_)
        exact la1 (.inr rfl) rfl zo
      | true =>
        refine zQ ?_;refine zM lan ?_;refine zV lab ?_;refine zn (zq (zQ ?_));refine zV laa ?_;refine zV lac ?_;refine zV laa ?_;refine zF lad ?_;refine zF lae ?_;refine zF lac ?_;refine zV (lam false) ?_;refine zV laa ?_;refine zF lad ?_;refine zF lae ?_;refine zF lac ?_;refine zV (lam false) ?_;refine zn ?_;refine zaF ?_;refine zsk (zq (zQ ?_));refine zV lad ?_;refine zV lae ?_;refine zV lac ?_;refine zn ?_;refine zaF ?_;refine zsk (zQ ?_);refine zV lad ?_;refine zV lae ?_;refine zV lay ?_;refine zV lac ?_;refine zV laa ?_;refine zI lad ?_;refine zI lae ?_;refine zI (lap _) ?_;refine zI lao ?_;refine zI laa ?_;refine zI laI ?_
        refine zI (lal (ih' x) rfl (by refine ⟨_, _, rfl, (by exact LeU.of_eq rfl zo), (by (exact ⟨zo, zo, zo⟩)), ?_⟩;refine zC ?_;exact rfl)) ?_
        refine zV laA ?_;refine zV laa ?_;refine zT lad ?_;refine zT lae ?_;refine zT (lap _) ?_;refine zT lao ?_;refine zT laa ?_;refine zT laI ?_
        refine zT (lal (ih' y) rfl (by refine ⟨_, _, rfl, (by exact LeU.of_eq rfl zo), (by (exact ⟨zo, zo, zo⟩)), ?_⟩;refine zC ?_;exact rfl)) ?_
        refine zV (lam true) ?_;refine zV lab ?_;refine zn (zre ?_)
        exact la1 (.inr rfl) rfl zo
set_option maxHeartbeats 1000000 in
theorem Good_a (a : Ty) : ACalls Tryz.prog 75 [a.u] [] (.one (.bool (a.good 4))) [] := by
  refine zB Tryz.func75 ?_
  refine zQ ?_;refine zM lan ?_;refine zV lab ?_;refine zn (zQ ?_);refine zV laj ?_
  refine zV (lal (good_a 4 a (by omega)) rfl (by refine ⟨_, _, rfl, (by exact LeU.of_eq rfl zo), (by (exact ⟨zo, zo, zo⟩)), ?_⟩;refine zC ?_;exact rfl)) ?_
  refine zV lab ?_;refine zn (zre ?_)
  exact la1 (.inr rfl) rfl zo
theorem ldJ (l : List Ty) : ∀ r ∈ tyRows l, r.length = 2 := fun r hr => by
  rw [lba] at hr
  obtain ⟨a, _, rfl⟩ := List.mem_map.1 hr
  rfl
theorem Thin.len' {a : Ty} (h : Thin a) : a.l.length ≤ 1048576 := by cases a; exact h.len
theorem Thin.part' {a : Ty} (h : Thin a) : ∀ t ∈ a.l, Thin t := by cases a; exact h.part
theorem join_eta (a b : Ty) : a.join b = if a.k == b.k && a.l.length == b.l.length then .mk a.k (joinL a.l b.l) else .mk 0 [] := by cases a; cases b; simp [Ty.join]
set_option maxHeartbeats 2000000 in
theorem join_a : ∀ a b : Ty, Thin a → ACalls Tryz.prog 60 [a.u, b.u] [] (a.join b).u [] := by
  intro a
  induction a using Ty.ind' with
  | h a ih =>
  intro b hthin
  refine zB Tryz.func60 ?_
  cases hk : (a.k != b.k) with
  | true =>
    refine zQ ?_;refine zM lan ?_;refine zM lan ?_;refine zM lah ?_;refine zn (zq (zQ ?_));refine zV lad ?_;refine zV lae ?_;refine zV lad ?_;refine zV lae ?_;refine zV lac ?_;refine zV laa ?_;refine zt ?_;refine zt ?_;refine zt ?_;refine zt ?_;refine zt ?_;refine zt ?_;refine zt ?_;refine zV (lam true) ?_;refine zn ?_;refine zcT ?_;refine zQ ?_;refine zV laq ?_;refine zE laf ?_;refine zn (zre ?_)
    rw [show a.join b = .mk 0 [] by rw [join_eta]; simp at hk; simp [hk]]
    refine rq ?_
    refine lbg (by exact .inr rfl) (by exact rfl) (by exact rfl) (by exact rfl) [] trivial (l' := (Ty.mk 0 []).c) (by exact ⟨.le (.refl _), .le (.nil _), zo⟩) (by exact ⟨zo, zo, zo⟩) (by exact rfl)
  | false =>
    have hkk : a.k = b.k := by simpa using hk
    refine zQ ?_;refine zM lan ?_;refine zM lan ?_;refine zM lah ?_;refine zn (zq (zQ ?_));refine zV lad ?_;refine zV lae ?_;refine zV lad ?_;refine zV lae ?_;refine zV lac ?_;refine zV laa ?_;refine zF lad ?_;refine zF lae ?_;refine zF lay ?_;refine zF lad ?_;refine zF lae ?_;refine zF lay ?_;refine zF lac ?_;refine zV (lam false) ?_;refine zn ?_
    refine AW.cond (by exact rfl) (fun hc => ?_) (fun hc => ?_)
    · refine zQ ?_; refine zV laq ?_; refine zE laf ?_; refine zn (zre ?_)
      have hne : a.l.length ≠ b.l.length := by
        have := lfD hc
        rwa [la2, la2] at this
      rw [show a.join b = .mk 0 [] by rw [join_eta]; simp [hne]]
      refine rq ?_
      refine lbg (by exact .inr rfl) (by exact rfl) (by exact rfl) (by exact rfl) [] trivial (l' := (Ty.mk 0 []).c) (by exact ⟨.le (.refl _), .le (.nil _), zo⟩) (by exact ⟨zo, zo, zo⟩) (by exact rfl)
    · have hlen : a.l.length = b.l.length := by
        have := lfE hc
        rwa [la2, la2] at this
      have hthl := hthin.len'
      rw [show a.join b = .mk a.k (joinL a.l b.l) by rw [join_eta]; simp [hkk, hlen]]
      have hjl : (joinL a.l b.l).length = a.l.length := lff hlen
      refine zsk (zQ ?_);refine zV lad ?_;refine zV lae ?_;refine zV laq ?_;refine zM lah ?_;refine zE laf ?_;refine zn (zq (zQ ?_));refine zV lad ?_;refine zV lae ?_;refine zV lay ?_;refine zV laa ?_;refine zn (zbl ?_)
      refine AW.gh (laZ [(2, .one (.ptr 2 0)), (3, .one (.ptr 3 0)), (4, .one (.ptr 4 0)), (5, .one (.ptr 5 0)), (26, .one (slOf 2 (tyRows a.l))), (27, .one (.int .i64 ((tyRows a.l).length : Nat))), (28, .one (.int .i64 ((0 : Nat) : Int)))] [(2, .obj a.c), (3, .obj b.c), (4, .obj [.int .i64 0, .nilsl]), (5, .obj [.int .i64 a.k, .own 105 0 0]), (105, .row 24 2 0 [])] [] [105] ⟨(zw rfl zo), (zw rfl zo), (zw rfl zo), (zw rfl zo), (by exact WkU.of_eq rfl zo), (zw rfl zo), (zw rfl zo), zo⟩ ⟨(by exact zb rfl), (by exact zb rfl), (by exact zb rfl), (by (refine Or.inl ⟨_, rfl, ?_⟩; show All2 _ _ _;exact ⟨WkC.le (LeC.refl _), WkC.nil (List.mem_cons_self ..), zo⟩)), (by exact Or.inr ⟨rfl, List.mem_cons_self .., _, _, by decide, rfl⟩), zo⟩ trivial ⟨rfl, zo⟩ rfl rfl ⟨⟨_, rfl⟩, ⟨_, rfl⟩, ⟨_, rfl⟩, ⟨_, rfl⟩, zo, zo, zo, zo⟩ ⟨(by exact ⟨zo, zo, zo⟩), (by exact ⟨zo, zo, zo⟩), (by exact ⟨zo, zo, zo⟩), (by exact ⟨zo, ⟨_, _, _, _, rfl, Nat.le_refl _⟩, zo⟩), (laY (by exact rfl)), zo⟩) ?_
      refine AW.lenSl 26 rfl fun hmax => ?_
      refine AW.loop (fun m t h => ∃ i : Nat, i ≤ a.l.length ∧ m = a.l.length - i ∧ t = tOfL [(2, .one (.ptr 2 0)), (3, .one (.ptr 3 0)), (4, .one (.ptr 4 0)), (5, .one (.ptr 5 0)), (26, .one (slOf 2 (tyRows a.l))), (27, .one (.int .i64 ((tyRows a.l).length : Nat))), (28, .one (.int .i64 ((i : Nat) : Int)))] ∧ h = ofL [(2, .obj a.c), (3, .obj b.c), (4, .obj [.int .i64 0, .nilsl]), (5, .obj [.int .i64 a.k, .own 105 (i) (i)]), (105, .row 24 2 (i) (tyRows ((joinL a.l b.l).take (i))))]) a.l.length ⟨0, Nat.zero_le _, rfl, rfl, rfl⟩ ?_
      rintro m t h ⟨i, hi, rfl, rfl, rfl⟩
      have hL := la2 a.l
      have htk : (tyRows ((joinL a.l b.l).take i)).length = i := by rw [la2, List.length_take]; omega
      cases hlt : decide ((i : Int) < ((tyRows a.l).length : Nat)) with
      | false =>
        have hil : i = a.l.length := by simp at hlt; omega
        refine zQ ?_;refine zV lac ?_;refine zn (zq ?_);refine zaF ?_;refine zex (zQ ?_);refine zV laj ?_;refine zE laf ?_;refine zn (zre ?_)
        refine rq ?_
        refine lbg (by exact .inr rfl) (by exact rfl) (by exact rfl) (by exact rfl) [105] (by exact ⟨⟨_, rfl, la9 _⟩, zo⟩) (l' := (Ty.mk a.k (joinL a.l b.l)).c) (by exact ⟨.le (.refl _), .row (List.mem_cons_self ..) rfl htk (by rw [hil, ← hjl, List.take_length];exact LeRows.refl _), zo⟩) (by exact ⟨zo, zo, zo⟩) (by exact rfl)
      | true =>
        have hil : i < a.l.length := by simp at hlt; omega
        have hilb : i < b.l.length := by omega
        have hr1 := lbb hil
        have hr2 := lbb hilb
        refine zQ ?_;refine zV lac ?_;refine zn (zq ?_);refine zaT ?_;refine zsk (zq (zbl (zQ ?_)));refine zV laa ?_;refine zV lab ?_;refine zn ?_;refine zRD ?_;refine zV lad ?_;refine zV lae ?_;refine zV lad ?_;refine zV lae ?_;refine zV laa ?_;refine zV (lap _) ?_;refine zV lao ?_;refine zV lad ?_;refine zV lae ?_;refine zV laa ?_;refine zV (lap _) ?_;refine zV lao ?_
        refine zV (lal (ih a.l[i] (List.getElem_mem _) b.l[i] (hthin.part' _ (List.getElem_mem _))) rfl (by refine ⟨_, _, rfl, (by exact LeU.of_eq rfl zo), (by (exact ⟨zo, zo, zo⟩)), ?_⟩;refine ⟨_, _, rfl, (by exact LeU.of_eq rfl zo), (by (exact ⟨zo, zo, zo⟩)), ?_⟩;exact rfl)) ?_
        refine zV laF ?_
        refine zM (laK (by exact rfl) (by exact rfl) (by exact rfl) (by exact .inl rfl) (by exact htk) (by exact ⟨rfl, zo⟩) (by simp only [List.length_cons, List.length_nil]; omega)) ?_
        have hrows : tyRows ((joinL a.l b.l).take i) ++ [(a.l[i].join b.l[i]).c] = tyRows ((joinL a.l b.l).take (i + 1)) := by
          rw [joinL_take hil hilb, lcb]; simp [tyRows, Ty.cells_c]
        rw [hrows]
        refine zV lad ?_;refine zE lax ?_;refine znD ?_;refine zR ?_;refine zV laD ?_;refine zV laa ?_;refine zn ?_
        exact ⟨a.l.length - (i + 1), _, _, by omega, (laZ [(2, .one (.ptr 2 0)), (3, .one (.ptr 3 0)), (4, .one (.ptr 4 0)), (5, .one (.ptr 5 0)), (26, .one (slOf 2 (tyRows a.l))), (27, .one (.int .i64 ((tyRows a.l).length : Nat))), (28, .one (.int .i64 ((i + 1 : Nat) : Int)))] [(2, .obj a.c), (3, .obj b.c), (4, .obj [.int .i64 0, .nilsl]), (5, .obj [.int .i64 a.k, .own 105 (i + 1) (i + 1)]), (105, .row 24 2 (i + 1) (tyRows ((joinL a.l b.l).take (i + 1))))] [] [] ⟨(zw rfl zo), (zw rfl zo), (zw rfl zo), (zw rfl zo), (by exact WkU.of_eq rfl zo), (zw rfl zo), (zw rfl zo), zo⟩ ⟨(by exact zb rfl), (by exact zb rfl), (by exact zb rfl), (by exact zb rfl), (by exact zb rfl), zo⟩ trivial zo rfl rfl ⟨⟨_, rfl⟩, ⟨_, rfl⟩, ⟨_, rfl⟩, ⟨_, rfl⟩, zo, zo, zo, zo⟩ ⟨(by exact ⟨zo, zo, zo⟩), (by exact ⟨zo, zo, zo⟩), (by exact ⟨zo, zo, zo⟩), (by exact ⟨zo, ⟨_, _, _, _, rfl, Nat.le_refl _⟩, zo⟩), (laY (by exact la9 _)), zo⟩), i + 1, by omega, rfl, rfl, rfl⟩
end Go.Proofs.YtnflnbdlgdjfmabGreatDoor
