/-
  What single operations do, kind by kind (5): new variables, structs, literals of slices. Conditions: those typed in each theorem.
-/
import Derived.Test.YtnflnbdlgdjfmaaDoorOp4
import Derived.Great.BuildSlice
import Derived.Laws.MakeOwn
namespace Go.Proofs.YtnflnbdlgdjfmaaDoor
open Go.RowKit
set_option linter.unusedVariables false
set_option linter.unusedSimpArgs false

/-- The cells of a type's zero value. -/
def zeroOf (P : Program) (t : TypeId) : Option (List Value) := ((P.info? t).bind (·.zero)).map (·.cells.toList)
/-- Constants and what they mean, pairwise. -/
def RelZ (cells : List C) (vs : List Value) : Prop := All2 (fun c v => constU v = .one c) cells vs
class TZero (P : Program) (t : TypeId) (cells : outParam (List C)) : Prop where
  ok : ∃ vs, zeroOf P t = some vs ∧ RelZ cells vs
def placesOf (P : Program) (t : TypeId) : Option (List (Nat × Nat)) :=
  match P.underlying t with
  | some (.struct fs) => fs.toList.mapM (fun f => (P.info? f.type).map fun i => (f.offset, i.size))
  | _ => none
class TStruct (P : Program) (t : TypeId) (places : outParam (List (Nat × Nat))) : Prop where
  ok : placesOf P t = some places

theorem RelZ.rel {F : Nat → Prop} {ρ : Nat → Lc} {w : World} (h : Nat → Option Blk) {cells : List C} {vs : List Value} (hz : RelZ cells vs) : All2 (relC F ρ w) cells vs ∧ ∀ c ∈ cells, okC h c := by
  refine ⟨hz.mono fun c _ v hv => ?_, fun c hc => ?_⟩
  · have := (constU_rel F ρ w h v).1
    rw [hv] at this
    exact this
  · obtain ⟨j, hj, hje⟩ := List.getElem_of_mem hc
    obtain ⟨v, _, hv⟩ := All2.get hz j c (by rw [List.getElem?_eq_getElem hj, hje])
    have := (constU_rel F ρ w h v).2
    rw [hv] at this
    exact this

theorem run_newVar {P : Program} (w : World) (e : TypeId) (v : Value) : (newVar e v).run P w = .ok ⟨w.heap.size, 0, none⟩ (w.alloc (.cells v.cells e)) := by
  unfold newVar
  generalize v.cells = vc
  simp [newRow, go_sem]
section ops
variable {P : Program} {s : St} {dst : Option Tmp} {rt : TypeId} {pos : String} {after : Array Edge} {guard : Option (Nat × Bool)}

/-- A new variable. -/
theorem loc_new {o : Oper} (nm : Nat) {l : List C} (hn : s.h nm = none) (hd : (s.d.contains nm) = false)
    (hrun : ∀ (F : Nat → Prop) (ρ : Nat → Lc) (h : Nat → Option Blk) (w : World) (ev : Operand → Value), HRel F ρ h w → (∀ x, x ∈ o.op.operands → relU F ρ w (opU s.t x) (ev x) ∧ okU h (opU s.t x)) →
      ∃ (cs : Array Value) (e : TypeId), (execOp ev o).run P w = .ok (.value (.pointer (some ⟨w.heap.size, 0, none⟩))) (w.alloc (.cells cs e)) ∧ All2 (relC F ρ w) l cs.toList ∧ ∀ c ∈ l, okC h c) :
    LocOp P o s [] [(nm, some (.obj l))] (.one (.ptr nm 0)) := by
  intro F ρ h w a Q H hR hx
  have hn : h nm = none := (hR nm (.inr (by simp [namesP]))).trans hn
  obtain ⟨cs, e, hr, hl, hokl⟩ := hrun F ρ h w a.eval H (opU_rel H hx)
  unfold Oper.wp
  rw [hr]
  have hd' : nm ∉ s.d := by simpa using hd
  have hsz : (w.alloc (Obj.cells cs e)).heap.size = w.heap.size + 1 := by simp
  refine ⟨_, F, upd ρ nm ⟨some w.heap.size, 0, 0⟩, rfl, moves_patch H nm (.obj l) (fun c hc => upd_ne _ _ hc) (.inl ⟨hn, hd'⟩) (fun _ h => h) (fun _ h => .inl h) (fun k hk => by rw [hsz]; exact Nat.lt_succ_of_lt (H.lt k hk)) (fun k hk _ => Below.heap_alloc w _ k hk) rfl rfl rfl (by rw [hsz]; omega) (fun hrel => ?_) (fun g hg => ?_) (fun g hg hf => ?_) (fun hokm => fun c hc => hokm c (hokl c hc)), ?_, ?_⟩
  · rw [show upd ρ nm (⟨some w.heap.size, 0, 0⟩ : Lc) = upd ρ nm ⟨some w.heap.size, 0, 0⟩ from rfl]
    refine ⟨by rw [upd_same], w.heap.size, e, cs, by rw [upd_same], heap_alloc_new w _, fun j c hc => ?_⟩
    obtain ⟨v, hv, hr⟩ := hl.get j c hc
    exact ⟨v, by simpa using hv, hrel c v (hokl c (List.mem_of_getElem? hc)) hr⟩
  · rw [upd_same] at hg; cases hg; exact .inr (Nat.le_refl _)
  · rw [upd_same] at hg; cases hg; exact absurd (H.lt _ hf) (Nat.lt_irrefl _)
  · exact ⟨rfl, fun _ => ⟨w.heap.size, by rw [upd_same], rfl⟩⟩
  · exact ⟨l, upd_same ..⟩

theorem loc_alloc {e : TypeId} (nm : Nat) {l : List C} [T : TZero P e l] (hn : s.h nm = none) (hd : (s.d.contains nm) = false) : LocOp P ⟨dst, .alloc e, rt, pos, after, guard⟩ s [] [(nm, some (.obj l))] (.one (.ptr nm 0)) :=
  loc_new nm hn hd fun F ρ h w ev H hx => by
    obtain ⟨vs, hz, hr⟩ := T.ok
    unfold zeroOf at hz
    cases hi : P.info? e with
    | none => rw [hi] at hz; cases hz
    | some i =>
      cases hzz : i.zero with
      | none => simp [hi, hzz] at hz
      | some z =>
        have hzc : z.cells.toList = vs := by simpa [hi, hzz] using hz
        refine ⟨z.cells, e, ?_, by rw [hzc]; exact (hr.rel h).1, (hr.rel (F := F) (ρ := ρ) (w := w) h).2⟩
        have h1 : (zeroValue e).run P w = .ok z w := by simp [zeroValue, typeInfo, hi, hzz]
        show (do pure (Next.value (← (do let zero ← zeroValue e; pure (Value.pointer (some (← newVar e zero)))))) : Sem Next).run P w = _
        rw [Sem.run_bind, Sem.run_bind, h1, Result.andThen_ok, Sem.run_bind, run_newVar, Result.andThen_ok]
        rfl
/-- A struct, boxed as it is handed in. -/
theorem loc_box {e : TypeId} {x : Operand} (nm : Nat) {u : U} {l : List C} (hx' : opU s.t x = u) (hu : cellsU u = some l) (hn : s.h nm = none) (hd : (s.d.contains nm) = false) : LocOp P ⟨dst, .box e x, rt, pos, after, guard⟩ s [] [(nm, some (.obj l))] (.one (.ptr nm 0)) :=
  loc_new nm hn hd fun F ρ h w ev H hx => by
    have h1 := hx x (by simp [Op.operands])
    rw [hx'] at h1
    obtain ⟨vs, hvs, hall, hokl⟩ := cellsU_rel hu h1.1 h1.2
    refine ⟨(ev x).cells, e, ?_, by rw [hvs]; exact hall, hokl⟩
    show (do pure (Next.value (← (do pure (Value.pointer (some (← newVar e (ev x))))))) : Sem Next).run P w = _
    rw [Sem.run_bind, Sem.run_bind, run_newVar, Result.andThen_ok]
    rfl

/-! ### Structs -/
/-- What 'fill' comes to. -/
def fillC (place : Nat → Option (Nat × Nat)) (cells : List C) : List (Nat × U) → Option (List C)
  | [] => some cells
  | (i, u) :: rest =>
    match place i, cellsU u with
    | some (off, size), some l => bif (l.length == size && Nat.ble (off + size) cells.length) then fillC place (setL cells off l) rest else none
    | _, _ => none
theorem foldl_setL (off : Nat) : ∀ (l : List Value) (m : Nat) (cs : Array Value), ((l.zipIdx m).foldl (fun cs (x : Value × Nat) => cs.setIfInBounds (off + x.2) x.1) cs).size = cs.size ∧
    ∀ j, ((l.zipIdx m).foldl (fun cs (x : Value × Nat) => cs.setIfInBounds (off + x.2) x.1) cs)[j]? = if off + m ≤ j ∧ j < off + m + l.length ∧ j < cs.size then l[j - (off + m)]? else cs[j]?
  | [], m, cs => ⟨rfl, fun j => by rw [if_neg (by simp; omega)]; rfl⟩
  | v :: l, m, cs => by
    obtain ⟨h1, h2⟩ := foldl_setL off l (m + 1) (cs.setIfInBounds (off + m) v)
    simp only [List.zipIdx_cons, List.foldl_cons]
    refine ⟨by rw [h1]; simp, fun j => ?_⟩
    rw [h2 j, Array.size_setIfInBounds, List.length_cons]
    by_cases h5 : off + m = j
    · subst h5
      rw [if_neg (by omega)]
      by_cases h6 : off + m < cs.size
      · rw [if_pos ⟨Nat.le_refl _, by omega, h6⟩]; simp [h6]
      · rw [if_neg (by omega), Array.getElem?_eq_none (by simp; omega), Array.getElem?_eq_none (by omega)]
    · rw [Array.getElem?_setIfInBounds_ne h5]
      by_cases h6 : off + m + 1 ≤ j ∧ j < off + m + 1 + l.length ∧ j < cs.size
      · rw [if_pos ⟨by omega, by omega, h6.2.2⟩, if_pos ⟨by omega, by omega, h6.2.2⟩, show j - (off + m) = (j - (off + (m + 1))) + 1 by omega]; simp
      · rw [if_neg (by omega), if_neg (by omega)]
theorem fill_cells (off : Nat) (v : Value) (cs : Array Value) : (v.cells.zipIdx.foldl (fun cs (x : Value × Nat) => cs.setIfInBounds (off + x.2) x.1) cs).size = cs.size ∧
    ∀ j, (v.cells.zipIdx.foldl (fun cs (x : Value × Nat) => cs.setIfInBounds (off + x.2) x.1) cs)[j]? = if off ≤ j ∧ j < off + v.cells.toList.length ∧ j < cs.size then v.cells.toList[j - off]? else cs[j]? := by
  rw [← Array.foldl_toList, Array.toList_zipIdx]
  exact foldl_setL off v.cells.toList 0 cs
theorem fill_rel {F : Nat → Prop} {ρ : Nat → Lc} {h : Nat → Option Blk} {w : World} (place : Nat → Option (Nat × Nat)) : ∀ (us : List (Nat × U)) (vs : List (Nat × Value)) (cells : List C) (cs : Array Value) (L : List C),
    All2 (fun u v => u.1 = v.1 ∧ relU F ρ w u.2 v.2 ∧ okU h u.2) us vs → All2 (relC F ρ w) cells cs.toList → (∀ c ∈ cells, okC h c) → fillC place cells us = some L →
    ∃ cs', Instr.fill place cs vs = some cs' ∧ All2 (relC F ρ w) L cs'.toList ∧ ∀ c ∈ L, okC h c
  | [], [], cells, cs, L, _, hc, hok, hf => by cases hf; exact ⟨cs, rfl, hc, hok⟩
  | (i, u) :: us, (i', v) :: vs, cells, cs, L, ⟨⟨hii, hr, ho⟩, hrest⟩, hc, hok, hf => by
    have hii : i = i' := hii
    subst hii
    unfold fillC at hf
    cases hp : place i with
    | none => rw [hp] at hf; cases hf
    | some p =>
      obtain ⟨off, size⟩ := p
      cases hcu : cellsU u with
      | none => rw [hp, hcu] at hf; cases hf
      | some l =>
        rw [hp, hcu] at hf
        simp only at hf
        cases hcond : (l.length == size && Nat.ble (off + size) cells.length) with
        | false => rw [hcond] at hf; cases hf
        | true =>
          rw [hcond] at hf
          simp only [Bool.and_eq_true, beq_iff_eq] at hcond
          have hle := Nat.le_of_ble_eq_true hcond.2
          obtain ⟨ws, hws, hall, hokl⟩ := cellsU_rel hcu hr ho
          have hlen : ws.length = size := by rw [← hall.length]; exact hcond.1
          have hcs : cs.size = cells.length := by rw [hc.length]; simp
          obtain ⟨f1, f2⟩ := fill_cells off v cs
          rw [hws] at f2
          obtain ⟨cs', g1, g2, g3⟩ := fill_rel place us vs (setL cells off l) (v.cells.zipIdx.foldl (fun cs (x : Value × Nat) => cs.setIfInBounds (off + x.2) x.1) cs) L hrest (All2.of ((setL_length ..).trans (hcs.symm.trans (f1.symm.trans (Array.length_toList ..).symm))) fun j c x hj hx => (by
            rw [setL_get] at hj
            rw [Array.getElem?_toList, f2 j] at hx
            by_cases hin : off ≤ j ∧ j < off + l.length ∧ j < cells.length
            · rw [if_pos hin] at hj
              rw [if_pos ⟨hin.1, by omega, by omega⟩] at hx
              obtain ⟨y, hy, hry⟩ := hall.get (j - off) c hj
              rw [hx] at hy; cases hy; exact hry
            · rw [if_neg hin] at hj
              rw [if_neg (by omega)] at hx
              obtain ⟨y, hy, hry⟩ := hc.get j c hj
              rw [Array.getElem?_toList, hx] at hy; cases hy; exact hry)) (fun c hcm => by
            obtain ⟨j, hjl, hje⟩ := List.getElem_of_mem hcm
            have hj : (setL cells off l)[j]? = some c := by rw [List.getElem?_eq_getElem hjl, hje]
            rw [setL_get] at hj
            split at hj
            · exact hokl c (List.mem_of_getElem? hj)
            · exact hok c (List.mem_of_getElem? hj)) hf
          refine ⟨cs', ?_, g2, g3⟩
          unfold Instr.fill
          simp only [hp]
          have hsz : v.cells.size = size := by rw [← hlen, ← hws]; simp
          rw [if_neg (by simp [hsz]; omega)]
          exact g1
  | [], _ :: _, _, _, _, h, _, _, _ => h.elim
  | _ :: _, [], _, _, _, h, _, _, _ => h.elim

theorem parts_rel {F : Nat → Prop} {ρ : Nat → Lc} {h : Nat → Option Blk} {w : World} {t : Nat → U} {ev : Operand → Value} : ∀ (ps : List (Nat × Operand)), (∀ p ∈ ps, relU F ρ w (opU t p.2) (ev p.2) ∧ okU h (opU t p.2)) →
    All2 (fun (u : Nat × U) (v : Nat × Value) => u.1 = v.1 ∧ relU F ρ w u.2 v.2 ∧ okU h u.2) (ps.map fun p => (p.1, opU t p.2)) (ps.map fun p => (p.1, ev p.2))
  | [], _ => trivial
  | p :: ps, h => ⟨⟨rfl, h p (List.mem_cons_self ..)⟩, parts_rel ps fun q hq => h q (List.mem_cons_of_mem _ hq)⟩

theorem loc_build {t : TypeId} {parts : Array (Nat × Operand)} {zero L l : List C} {places : List (Nat × Nat)} {n : Nat} [T : TStruct P t places] [Z : TZero P t zero] [A : TAgg P t n] (hf : fillC (fun i => places[i]?) zero (parts.toList.map fun p => (p.1, opU s.t p.2)) = some L) (hl : Cut L 0 n l) (hn : L.length = n) :
    LocOp P ⟨dst, .build t parts, rt, pos, after, guard⟩ s [] [] (.agg l) :=
  loc_run fun F ρ h w ev H hx => by
    have hLl : L = l := by
      have := hl.spec
      apply List.ext_getElem?
      intro j
      by_cases hj : j < n
      · have h1 := this.2 j l[j] (by simp [this.1, hj])
        rw [Nat.zero_add] at h1
        rw [h1]; simp [this.1, hj]
      · rw [List.getElem?_eq_none (by omega), List.getElem?_eq_none (by omega)]
    subst hLl
    obtain ⟨vs, hz, hr⟩ := Z.ok
    have hpl := T.ok
    unfold zeroOf at hz
    unfold placesOf at hpl
    cases hi : P.info? t with
    | none => rw [hi] at hz; cases hz
    | some it =>
      cases hzz : it.zero with
      | none => simp [hi, hzz] at hz
      | some z =>
        have hzc : z.cells.toList = vs := by simpa [hi, hzz] using hz
        split at hpl
        · rename_i fs hu
          obtain ⟨cs', h1, h2, h3⟩ := fill_rel (F := F) (ρ := ρ) (h := h) (w := w) (fun i => places[i]?) _ _ zero z.cells L (parts_rel parts.toList fun p hp => hx p.2 (by simp only [Op.operands]; simp; exact ⟨p.1, by simpa using hp⟩)) (by rw [hzc]; exact (hr.rel h).1) ((hr.rel (F := F) (ρ := ρ) (w := w) h).2) hf
          refine ⟨.agg cs', ?_, ⟨cs'.toList, by simp, h2⟩, h3⟩
          have hb : P.built t (parts.map fun p => (p.1, ev p.2)).toList = some cs' := by
            unfold Program.built
            simp only [hi, hu, hzz, hpl]
            rw [Array.toList_map]
            simpa using h1
          have hrb := run_build (P := P) w t (parts.map fun p => (p.1, ev p.2)) cs' hb
          show (do pure (Next.value (← Instr.build t (parts.map fun p => (p.1, ev p.2)))) : Sem Next).run P w = _
          rw [Sem.run_bind, hrb]
          rfl
        · cases hpl
end ops
end Go.Proofs.YtnflnbdlgdjfmaaDoor
