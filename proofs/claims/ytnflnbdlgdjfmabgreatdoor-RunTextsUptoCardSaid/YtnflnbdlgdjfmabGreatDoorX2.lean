/-
  Merged texts of the proof. Conditions: those typed in each theorem.
-/
import Derived.Test.YtnflnbdlgdjfmabGreatDoorX1
set_option linter.unusedVariables false
set_option linter.unusedSimpArgs false
namespace Go.Proofs.YtnflnbdlgdjfmabGreatDoor
open Go.RowKit
theorem HRel.glt {F : Nat → Prop} {ρ : Nat → Lc} {h : Nat → Option Blk} {w : World} (H : HRel F ρ h w) {b g : Nat} (hb : h b ≠ none) (hg : (ρ b).g = some g) : g < w.heap.size := by
  cases hx : h b with
  | none => exact absurd hx hb
  | some x =>
    have := H.blk b x hx
    cases x with
    | obj cells =>
      obtain ⟨_, g', e, cs, hg', hh, _⟩ := this
      rw [hg] at hg'; cases hg'
      exact (Array.getElem?_eq_some_iff.1 hh).1
    | row e k v rows =>
      obtain ⟨_, _, ⟨h0, _⟩ | ⟨g', cs, hg', hh, _⟩⟩ := this
      · rw [hg] at h0; cases h0
      · rw [hg] at hg'; cases hg'
        exact (Array.getElem?_eq_some_iff.1 hh).1
theorem ldF {F F' : Nat → Prop} {ρ ρ' : Nat → Lc} {h : Nat → Option Blk} {w w' : World} (H : HRel F ρ h w) (hF : ∀ k, F k → F' k) (hw : ∀ k, F k → w'.heap[k]? = w.heap[k]?)
    (hs : ∀ b, h b ≠ none → ρ' b = ρ b ∨ (ρ b).v < (ρ' b).v) {b : Nat} {x : Blk} (hb : h b = some x) (he : ρ' b = ρ b) (hg : ∀ g, (ρ b).g = some g → w'.heap[g]? = w.heap[g]?) : blkRel F' ρ' w' b x := by
  have hB := H.blk b x hb
  have hO := H.ok b x hb
  cases x with
  | obj cells =>
    obtain ⟨hv, g, e, cs, h1, h2, hj⟩ := hB
    refine ⟨by rw [he]; exact hv, g, e, cs, by rw [he]; exact h1, (hg g h1).trans h2, fun j c hc => ?_⟩
    obtain ⟨u, hu, hr⟩ := hj j c hc
    exact ⟨u, hu, lct H hF hw hs (hO c (List.mem_of_getElem? hc)) hr⟩
  | row e k v rows =>
    obtain ⟨hv, hk, hr⟩ := hB
    refine ⟨by rw [he]; exact hv, hk, ?_⟩
    rcases hr with ⟨h1, h2⟩ | ⟨g, cs, h1, h2, h3, h4, h5, hj⟩
    · exact .inl ⟨by rw [he]; exact h1, h2⟩
    · refine .inr ⟨g, cs, by rw [he]; exact h1, (hg g h1).trans h2, by rw [he]; exact h3, by rw [he]; exact h4, by rw [he]; exact h5, fun i row hi => ⟨(hj i row hi).1, fun j c hc => ?_⟩⟩
      obtain ⟨u, hu, hr⟩ := (hj i row hi).2 j c hc
      exact ⟨u, hu, lct H hF hw hs (hO row (List.mem_of_getElem? hi) c (List.mem_of_getElem? hc)) hr⟩
theorem lcE {h h' : Nat → Option Blk} (hl : ∀ b x, h b = some x → ∃ x', h' b = some x' ∧ leB x x') {x : Blk} (hok : okBlk h x) : okBlk h' x := by
  cases x with
  | obj cells => exact fun c hc => lcd hl (hok c hc)
  | row e k v rows => exact fun row hr c hc => lcd hl (hok row hr c hc)
theorem lbU {d : List Nat} {F F' : Nat → Prop} {ρ ρ' : Nat → Lc} {h : Nat → Option Blk} {w w' : World} (H : HRel F ρ h w) (b : Nat) (x' : Blk) (hρ : ∀ c, c ≠ b → ρ' c = ρ c)
    (hb : (h b = none ∧ b ∉ d) ∨ ∃ x, h b = some x ∧ leB x x' ∧ (ρ' b = ρ b ∨ (ρ b).v < (ρ' b).v)) (hF : ∀ k, F k → F' k) (hFnew : ∀ k, F' k → F k ∨ w.heap.size ≤ k) (hFlt : ∀ k, F' k → k < w'.heap.size)
    (keep : ∀ k, k < w.heap.size → (h b = none ∨ (ρ b).g ≠ some k) → w'.heap[k]? = w.heap[k]?) (os : w'.os = w.os) (tape : w'.tape = w.tape) (output : w'.output = w.output) (size : w.heap.size ≤ w'.heap.size)
    (hnew : (∀ c v, okC h c → relC F ρ w c v → relC F' ρ' w' c v) → blkRel F' ρ' w' b x') (hg : ∀ g, (ρ' b).g = some g → (h b ≠ none ∧ (ρ b).g = some g) ∨ w.heap.size ≤ g) (hnF : ∀ g, (ρ' b).g = some g → ¬ F' g)
    (hok : (∀ c, okC h c → okC (upd h b (some x')) c) → okBlk (upd h b (some x')) x') : Moves d F ρ h w F' ρ' (upd h b (some x')) w' := by
  have stb : ∀ c, h c ≠ none → ρ' c = ρ c ∨ (ρ c).v < (ρ' c).v := fun c hc => by
    by_cases hcb : c = b
    · subst hcb
      rcases hb with ⟨h0, _⟩ | ⟨x, _, _, h1⟩
      · exact absurd h0 hc
      · exact h1
    · exact .inl (hρ c hcb)
  have same : ∀ k, F k → w'.heap[k]? = w.heap[k]? := fun k hk => keep k (H.lt k hk) (by
    rcases hb with ⟨h0, _⟩ | ⟨x, hx, _⟩
    · exact .inl h0
    · exact .inr fun hgk => H.notF b k (by rw [hx]; simp) hgk hk)
  have le : ∀ c x, h c = some x → ∃ x'', upd h b (some x') c = some x'' ∧ leB x x'' := fun c x hx => by
    by_cases hcb : c = b
    · subst hcb
      rcases hb with ⟨h0, _⟩ | ⟨x0, hx0, h1, _⟩
      · rw [hx] at h0; cases h0
      · rw [hx] at hx0; cases hx0
        exact ⟨x', la3 .., h1⟩
    · exact ⟨x, (lbl _ _ hcb).trans hx, lb7 x⟩
  have hrel : ∀ c v, okC h c → relC F ρ w c v → relC F' ρ' w' c v := fun c v ho hr => lct H hF same stb ho hr
  have hnb : ∀ c, c ≠ b → upd h b (some x') c = h c := fun c hc => lbl _ _ hc
  refine ⟨hF, same, stb, fun c hc => ?_, ⟨fun c x hx => ?_, fun c c' g hc hc' hgc hgc' => ?_, fun c g hc hgc => ?_, hFlt, fun c x hx => ?_, fun g c hgl => lbC hF same (H.gl g c hgl), fun g p hx => ⟨hF g (H.gx g p hx).1, by rw [same g (H.gx g p hx).1]; exact (H.gx g p hx).2⟩⟩, le, fun c g hc hgc => ?_, fun k hk => (hFnew k hk).imp id .inl, os, tape, output, size, fun k hk hno => keep k hk ?_⟩
  · by_cases hcb : c = b
    · subst hcb
      rcases hb with ⟨_, h0⟩ | ⟨x, _, _, h1⟩
      · exact absurd hc h0
      · exact h1
    · exact .inl (hρ c hcb)
  · by_cases hcb : c = b
    · subst hcb
      rw [la3] at hx; cases hx
      exact hnew hrel
    · rw [hnb c hcb] at hx
      refine ldF H hF same stb hx (hρ c hcb) fun g hgc => keep g (H.glt (by rw [hx]; simp) hgc) ?_
      rcases hb with ⟨h0, _⟩ | ⟨x0, hx0, _⟩
      · exact .inl h0
      · exact .inr fun hgb => hcb (H.inj c b g (by rw [hx]; simp) (by rw [hx0]; simp) hgc hgb)
  · have key : ∀ c', c' ≠ b → upd h b (some x') c' ≠ none → (ρ' c').g = some g → (ρ' b).g = some g → False := fun c' hne hc' h1 h2 => by
      rw [hnb c' hne] at hc'
      rw [hρ c' hne] at h1
      rcases hg g h2 with ⟨h3, h4⟩ | h3
      · exact hne (H.inj c' b g hc' h3 h1 h4)
      · have := H.glt hc' h1; omega
    by_cases h1 : c = b <;> by_cases h2 : c' = b
    · rw [h1, h2]
    · subst h1; exact (key c' h2 hc' hgc' hgc).elim
    · subst h2; exact (key c h1 hc hgc hgc').elim
    · rw [hnb c h1] at hc; rw [hnb c' h2] at hc'; rw [hρ c h1] at hgc; rw [hρ c' h2] at hgc'
      exact H.inj c c' g hc hc' hgc hgc'
  · by_cases h1 : c = b
    · subst h1; exact hnF g hgc
    · rw [hnb c h1] at hc; rw [hρ c h1] at hgc
      intro hf
      rcases hFnew g hf with h2 | h2
      · exact H.notF c g hc hgc h2
      · have := H.glt hc hgc; omega
  · by_cases hcb : c = b
    · subst hcb
      rw [la3] at hx; cases hx
      exact hok fun c hc => lcd le hc
    · rw [hnb c hcb] at hx
      exact lcE le (H.ok c x hx)
  · by_cases h1 : c = b
    · subst h1
      rcases hg g hgc with ⟨h2, h3⟩ | h2
      · exact .inl ⟨c, h2, h3⟩
      · exact .inr h2
    · rw [hnb c h1] at hc; rw [hρ c h1] at hgc
      exact .inl ⟨c, hc, hgc⟩
  · by_cases h0 : h b = none
    · exact .inl h0
    · exact .inr (hno b h0)
theorem ldG {d : List Nat} {F F' : Nat → Prop} {ρ : Nat → Lc} {h : Nat → Option Blk} {w w' : World} (H : HRel F ρ h w) (hx : Below w.heap.size w w') (hF : ∀ k, F k → F' k) (hFnew : ∀ k, F' k → F k ∨ w.heap.size ≤ k) (hFlt : ∀ k, F' k → k < w'.heap.size) :
    Moves d F ρ h w F' ρ h w' := by
  have same : ∀ k, F k → w'.heap[k]? = w.heap[k]? := fun k hk => hx.block k (H.lt k hk)
  refine ⟨hF, same, fun _ _ => .inl rfl, fun _ _ => .inl rfl, ⟨fun b x hb => ldF H hF same (fun _ _ => .inl rfl) hb rfl fun g hg => hx.block g (H.glt (by rw [hb]; simp) hg), H.inj, fun b g hb hg hf => ?_, hFlt, H.ok, fun g c hgl => lbC hF same (H.gl g c hgl), fun g p hx => ⟨hF g (H.gx g p hx).1, by rw [same g (H.gx g p hx).1]; exact (H.gx g p hx).2⟩⟩,
    fun b x hb => ⟨x, hb, lb7 x⟩, fun b g hb hg => .inl ⟨b, hb, hg⟩, fun k hk => (hFnew k hk).imp id .inl, hx.os, hx.tape, hx.output, hx.size, fun k hk _ => hx.block k hk⟩
  rcases hFnew g hf with h1 | h1
  · exact H.notF b g hb hg h1
  · have := H.glt hb hg; omega
def setL (cells : List C) (o : Nat) : List C → List C
  | [] => cells
  | c :: l => setL (cells.set o c) (o + 1) l
theorem lcw : ∀ (l cells : List C) (o j : Nat), (setL cells o l)[j]? = if o ≤ j ∧ j < o + l.length ∧ j < cells.length then l[j - o]? else cells[j]?
  | [], cells, o, j => by
    rw [if_neg (by simp; omega)]; rfl
  | c :: l, cells, o, j => by
    rw [setL, lcw l (cells.set o c) (o + 1) j, List.length_set, List.length_cons]
    by_cases h1 : o = j
    · subst h1
      rw [if_neg (by omega)]
      by_cases h2 : o < cells.length
      · rw [if_pos ⟨Nat.le_refl _, by omega, h2⟩, List.getElem?_set_self h2]; simp
      · rw [if_neg (by omega), List.getElem?_eq_none (by simp; omega), List.getElem?_eq_none (by omega)]
    · rw [List.getElem?_set_ne h1]
      by_cases h2 : o + 1 ≤ j ∧ j < o + 1 + l.length ∧ j < cells.length
      · rw [if_pos h2, if_pos ⟨by omega, by omega, h2.2.2⟩]
        rw [show j - o = (j - (o + 1)) + 1 by omega]
        simp
      · rw [if_neg h2, if_neg (by omega)]
theorem ldH : ∀ (l cells : List C) (o : Nat), (setL cells o l).length = cells.length
  | [], _, _ => rfl
  | c :: l, cells, o => by rw [setL, ldH l]; simp
theorem setL_all {cells l : List C} (h : l.length = cells.length) : setL cells 0 l = l := by
  apply List.ext_getElem?
  intro j
  rw [lcw]
  by_cases hj : j < cells.length
  · rw [if_pos ⟨Nat.zero_le _, by omega, hj⟩]; simp
  · rw [if_neg (by omega), List.getElem?_eq_none (by omega), List.getElem?_eq_none (by omega)]
theorem lbT (b : Nat) : ∀ (vs : List Value) (o : Nat) (w : World) (k : Nat), k ≠ b → (w.setCells b o vs).heap[k]? = w.heap[k]?
  | [], _, _, _, _ => rfl
  | v :: vs, o, w, k, hk => by
    rw [World.setCells, lbT b vs (o + 1) _ k hk]
    exact Below.heap_setCell w ⟨b, o, none⟩ v k hk
theorem lce (b : Nat) (e : TypeId) : ∀ (vs : List Value) (o : Nat) (w : World) (cs : Array Value), w.heap[b]? = some (.cells cs e (0, 0)) →
    ∃ cs' : Array Value, (w.setCells b o vs).heap[b]? = some (.cells cs' e (0, 0)) ∧ cs'.size = cs.size ∧ ∀ (j : Nat), cs'[j]? = if o ≤ j ∧ j < o + vs.length ∧ j < cs.size then vs[j - o]? else cs[j]?
  | [], o, w, cs, h => ⟨cs, h, rfl, fun j => by rw [if_neg (by simp; omega)]⟩
  | v :: vs, o, w, cs, h => by
    have h1 : (w.setCell ⟨b, o, none⟩ v).heap[b]? = some (.cells (cs.setIfInBounds o v) e (0, 0)) := by
      simp only [World.setCell, Array.getElem?_modify, if_true, h, Option.map_some, Option.isSome_none, Bool.false_eq_true, if_false]
    obtain ⟨cs', h2, h3, h4⟩ := lce b e vs (o + 1) _ _ h1
    refine ⟨cs', h2, by rw [h3]; simp, fun j => ?_⟩
    rw [h4 j, Array.size_setIfInBounds, List.length_cons]
    by_cases h5 : o = j
    · subst h5
      rw [if_neg (by omega)]
      by_cases h6 : o < cs.size
      · rw [if_pos ⟨Nat.le_refl _, by omega, h6⟩]; simp [h6]
      · rw [if_neg (by omega), Array.getElem?_eq_none (by simp; omega), Array.getElem?_eq_none (by omega)]
    · rw [Array.getElem?_setIfInBounds_ne h5]
      by_cases h6 : o + 1 ≤ j ∧ j < o + 1 + vs.length ∧ j < cs.size
      · rw [if_pos h6, if_pos ⟨by omega, by omega, h6.2.2⟩, show j - o = (j - (o + 1)) + 1 by omega]; simp
      · rw [if_neg h6, if_neg (by omega)]
theorem lcf (b : Nat) : ∀ (vs : List Value) (o : Nat) (w : World), (w.setCells b o vs).os = w.os ∧ (w.setCells b o vs).tape = w.tape ∧ (w.setCells b o vs).output = w.output ∧ (w.setCells b o vs).heap.size = w.heap.size
  | [], _, _ => ⟨rfl, rfl, rfl, rfl⟩
  | v :: vs, o, w => by
    obtain ⟨h1, h2, h3, h4⟩ := lcf b vs (o + 1) (w.setCell ⟨b, o, none⟩ v)
    exact ⟨h1, h2, h3, by rw [World.setCells, h4]; simp [World.setCell]⟩
def cellsU : U → Option (List C)
  | .one c => some [c]
  | .agg l => some l
  | _ => none
theorem lcn {F : Nat → Prop} {ρ : Nat → Lc} {w : World} {h : Nat → Option Blk} {u : U} {l : List C} {v : Value} (hu : cellsU u = some l) (hr : relU F ρ w u v) (hok : okU h u) : ∃ vs : List Value, v.cells.toList = vs ∧ All2 (relC F ρ w) l vs ∧ ∀ c ∈ l, okC h c := by
  cases u with
  | any => cases hu
  | tup l => cases hu
  | one c =>
    cases hu
    refine ⟨[v], ?_, ⟨hr, trivial⟩, fun c hc => by rw [List.mem_singleton.1 hc]; exact hok⟩
    have : v.oneCell' = true := lfx hr
    cases v <;> first | rfl | cases this
  | agg l' =>
    cases hu
    obtain ⟨vs, rfl, ha⟩ := hr
    exact ⟨vs, rfl, ha, hok⟩
theorem all2_one {F : Nat → Prop} {ρ : Nat → Lc} {w : World} : ∀ {l : List C} {vs : List Value}, All2 (relC F ρ w) l vs → ∀ v ∈ vs, v.oneCell' = true
  | [], [], _, v, hv => by cases hv
  | c :: l, u :: vs, ⟨h, hr⟩, v, hv => by
    rcases List.mem_cons.1 hv with rfl | hv
    · exact lfx h
    · exact all2_one hr v hv
  | [], _ :: _, h, _, _ => h.elim
  | _ :: _, [], h, _, _ => h.elim
theorem lcF {P : Program} (w : World) (g o : Nat) (t : TypeId) (v : Value) (n : Nat) (hi : (P.info? t).map (·.size) = some n) (hn : v.cells.toList.length = n) (h1 : ∀ u ∈ v.cells.toList, u.oneCell' = true)
    (ht : ∀ j, j < n → (w.cell? ⟨g, o + j, none⟩).isSome = true ∧ w.frozen? ⟨g, o + j, none⟩ = false) :
    (Instr.storeAt t (.pointer (some ⟨g, o, none⟩)) v).run P w = .ok () (w.setCells g o v.cells.toList) := by
  cases hq : P.info? t with
  | none => simp [hq] at hi
  | some i =>
    have hs : i.size = n := by simpa [hq] using hi
    have hst := run_storeCells_cells (P := P) g o v.cells.toList 0 w (fun j hj => by rw [Nat.add_zero]; exact (ht j (by omega)).1) (fun j hj => by rw [Nat.add_zero]; exact (ht j (by omega)).2) h1
    simp only [Nat.add_zero] at hst
    have hsz : v.cells.size = n := by rw [← hn]; simp
    simp only [Instr.storeAt, storeVar]
    generalize v.cells = vc at *
    simp [Instr.sureAddr, sizeOf, typeInfo, hq, hs, hsz, hst, go_sem]
section ops
variable {P : Program} {s : St} {dst : Option Tmp} {rt : TypeId} {pos : String} {after : Array Edge} {guard : Option (Nat × Bool)}
class TSize (P : Program) (t : TypeId) (n : outParam Nat) : Prop where
  ok : ((P.info? t).map (·.size) == some n) = true
theorem TSize.spec {P : Program} {t : TypeId} {n : Nat} (h : TSize P t n) : (P.info? t).map (·.size) = some n := by simpa using h.ok
theorem lax {t : TypeId} {x y : Operand} {b o n : Nat} {cells l : List C} {u : U} [T : TSize P t n] (hv : opU s.t x = .one (.ptr b o) := by exact rfl) (hy : opU s.t y = u := by exact rfl) (hu : cellsU u = some l := by exact rfl) (hb : s.h b = some (.obj cells) := by exact rfl) (hl : l.length = n := by exact rfl) (ho : o + n ≤ cells.length := by exact Nat.le_of_ble_eq_true rfl) {cells' : List C} (hset : setL cells o l = cells' := by exact rfl) :
    LocOp P ⟨none, .store t x y, rt, pos, after, guard⟩ s [] [(b, some (.obj cells'))] .any := by
  intro F ρ h w a Q H hR hx
  have hb : h b = some (.obj cells) := (hR b (.inr (by simp [namesP]))).trans hb
  have h1 := (lby H hx x (by simp [Op.operands])).1
  have h2 := lby H hx y (by simp [Op.operands])
  rw [hv] at h1
  rw [hy] at h2
  obtain ⟨g, hg, hp⟩ := h1.2 (H.ver hb)
  obtain ⟨hver, g', e, cs, hg', hh, hj⟩ := H.blk b _ hb
  obtain rfl : g = g' := Option.some.inj (hg.symm.trans hg')
  obtain ⟨vs, hvs, hall, hokl⟩ := lcn hu h2.1 h2.2
  have hlen : vs.length = n := by rw [← hall.length]; exact hl
  have hcs : cells.length ≤ cs.size := by
    rcases Nat.lt_or_ge cs.size cells.length with hlt | hge
    · obtain ⟨u, hu', _⟩ := hj cs.size cells[cs.size] (by simp [hlt])
      rw [Array.getElem?_eq_none (Nat.le_refl _)] at hu'; cases hu'
    · exact hge
  have hrun : (execOp a.eval (⟨none, .store t x y, rt, pos, after, guard⟩ : Oper)).run P w = .ok .skip (w.setCells g o vs) := by
    have hs := lcF (P := P) w g o t (a.eval y) n T.spec (by rw [hvs]; exact hlen) (by rw [hvs]; exact all2_one hall) fun j hj' => by
      have hlt : o + j < cs.size := by omega
      exact ⟨by simp [World.cell?, hh, hlt], by simp [World.frozen?, hh]⟩
    rw [hvs] at hs
    rw [show execOp a.eval (⟨none, .store t x y, rt, pos, after, guard⟩ : Oper) = (do Instr.storeAt t (a.eval x) (a.eval y); pure Next.skip) from rfl, hp, Sem.run_bind, hs]
    rfl
  unfold Oper.wp
  rw [hrun]
  obtain ⟨cs', h3, h4, h5⟩ := lce g e vs o w cs hh
  obtain ⟨s1, s2, s3, s4⟩ := lcf g vs o w
  refine ⟨undef, F, ρ, rfl, lbU H b (.obj cells') (fun _ _ => rfl) (.inr ⟨_, hb, trivial, .inl rfl⟩) (fun _ h => h) (fun _ h => .inl h) (fun k hk => by rw [s4]; exact H.lt k hk) (fun k hk hno => lbT g vs o w k fun e => ?_) s1 s2 s3 (Nat.le_of_eq s4.symm) (fun hrel => ?_) (fun g' h' => .inl ⟨by rw [hb]; simp, h'⟩) (fun g' h' => H.notF b g' (by rw [hb]; simp) h') (fun hokm => ?_), trivial, trivial⟩
  · rcases hno with h' | h'
    · rw [hb] at h'; cases h'
    · exact h' (by rw [hg, e])
  · refine ⟨hver, g, e, cs', hg, h3, fun j c hc => ?_⟩
    rw [← hset, lcw] at hc
    rw [h5 j]
    split at hc
    · rename_i hin
      rw [if_pos ⟨hin.1, by rw [hlen, ← hl]; exact hin.2.1, by omega⟩]
      obtain ⟨v, hv', hr⟩ := hall.get (j - o) c hc
      exact ⟨v, hv', hrel c v (hokl c (List.mem_of_getElem? hc)) hr⟩
    · rename_i hin
      have hjc := (List.getElem?_eq_some_iff.1 hc).1
      rw [if_neg (by rw [hlen, ← hl]; omega)]
      obtain ⟨v, hv', hr⟩ := hj j c hc
      exact ⟨v, hv', hrel c v (H.ok b _ hb c (List.mem_of_getElem? hc)) hr⟩
  · intro c hc
    obtain ⟨j, hjl, hje⟩ := List.getElem_of_mem hc
    have hc' : cells'[j]? = some c := by rw [List.getElem?_eq_getElem hjl, hje]
    rw [← hset, lcw] at hc'
    split at hc'
    · exact hokm c (hokl c (List.mem_of_getElem? hc'))
    · exact hokm c (H.ok b _ hb c (List.mem_of_getElem? hc'))
theorem laf {t : TypeId} {x y : Operand} {b n : Nat} {cells l : List C} {u : U} [T : TSize P t n] (hv : opU s.t x = .one (.ptr b 0) := by exact rfl) (hy : opU s.t y = u := by exact rfl) (hu : cellsU u = some l := by exact rfl) (hb : s.h b = some (.obj cells) := by exact rfl) (hl : l.length = n := by exact rfl) (hn : cells.length = n := by exact rfl) :
    LocOp P ⟨none, .store t x y, rt, pos, after, guard⟩ s [] [(b, some (.obj l))] .any :=
  lax hv hy hu hb hl (by omega) (setL_all (by omega))
theorem laH {t : TypeId} {x y : Operand} {b v k i o n : Nat} {e : TypeId} {rows : List (List C)} {row l : List C} {u : U} [T : TSize P t n] (hv : opU s.t x = .one (.eptr b v k i o) := by exact rfl) (hy : opU s.t y = u := by exact rfl) (hu : cellsU u = some l := by exact rfl) (hb : s.h b = some (.row e k v rows) := by exact rfl) (hi : rows[i]? = some row := by exact rfl) (hl : l.length = n := by exact rfl) (ho : o + n ≤ row.length := by exact Nat.le_of_ble_eq_true rfl) {row' : List C} (hset : setL row o l = row' := by exact rfl) {rows' : List (List C)} (hrs : rows.set i row' = rows' := by exact rfl) :
    LocOp P ⟨none, .store t x y, rt, pos, after, guard⟩ s [] [(b, some (.row e k v rows'))] .any := by
  intro F ρ h w a Q H hR hx
  have hb : h b = some (.row e k v rows) := (hR b (.inr (by simp [namesP]))).trans hb
  have h1 := (lby H hx x (by simp [Op.operands])).1
  have h2 := lby H hx y (by simp [Op.operands])
  rw [hv] at h1
  rw [hy] at h2
  obtain ⟨g, hg, hp⟩ := h1.2 (H.ver hb)
  have hlt := (List.getElem?_eq_some_iff.1 hi).1
  obtain ⟨hver, hk, ⟨_, h0⟩ | ⟨g', cs, hg', hh, hcs, hle, hmax, hj⟩⟩ := H.blk b _ hb
  · subst h0; simp at hlt
  obtain rfl : g = g' := Option.some.inj (hg.symm.trans hg')
  obtain ⟨vs, hvs, hall, hokl⟩ := lcn hu h2.1 h2.2
  have hlen : vs.length = n := by rw [← hall.length]; exact hl
  have hrow := (hj i row hi).1
  have hin : i * k + row.length ≤ cs.size := by
    rw [hcs, hrow, ← Nat.succ_mul]
    exact Nat.mul_le_mul_right k (by omega)
  have hrun : (execOp a.eval (⟨none, .store t x y, rt, pos, after, guard⟩ : Oper)).run P w = .ok .skip (w.setCells g (i * k + o) vs) := by
    have hs := lcF (P := P) w g (i * k + o) t (a.eval y) n T.spec (by rw [hvs]; exact hlen) (by rw [hvs]; exact all2_one hall) fun j hj' => by
      have hlt : i * k + o + j < cs.size := by omega
      exact ⟨by simp [World.cell?, hh, hlt], by simp [World.frozen?, hh]⟩
    rw [hvs] at hs
    rw [show execOp a.eval (⟨none, .store t x y, rt, pos, after, guard⟩ : Oper) = (do Instr.storeAt t (a.eval x) (a.eval y); pure Next.skip) from rfl, hp, Sem.run_bind, hs]
    rfl
  unfold Oper.wp
  rw [hrun]
  obtain ⟨cs', h3, h4, h5⟩ := lce g e vs (i * k + o) w cs hh
  obtain ⟨s1, s2, s3, s4⟩ := lcf g vs (i * k + o) w
  have hrow' : row'.length = row.length := by rw [← hset, ldH]
  refine ⟨undef, F, ρ, rfl, lbU H b (.row e k v rows') (fun _ _ => rfl) (.inr ⟨_, hb, Nat.le_refl _, .inl rfl⟩) (fun _ h => h) (fun _ h => .inl h) (fun k hk => by rw [s4]; exact H.lt k hk) (fun k' hk' hno => lbT g vs _ w k' fun e => ?_) s1 s2 s3 (Nat.le_of_eq s4.symm) (fun hrel => ?_) (fun g' h' => .inl ⟨by rw [hb]; simp, h'⟩) (fun g' h' => H.notF b g' (by rw [hb]; simp) h') (fun hokm => ?_), trivial, trivial⟩
  · rcases hno with h' | h'
    · rw [hb] at h'; cases h'
    · exact h' (by rw [hg, e])
  · refine ⟨hver, hk, .inr ⟨g, cs', hg, h3, h4.trans hcs, by rw [← hrs]; simpa using hle, hmax, fun i' r hr => ?_⟩⟩
    rw [← hrs] at hr
    by_cases hii : i = i'
    · subst hii
      rw [List.getElem?_set_self hlt] at hr
      cases hr
      refine ⟨hrow'.trans hrow, fun j c hc => ?_⟩
      rw [h5]
      rw [← hset, lcw] at hc
      split at hc
      · rename_i hin'
        rw [if_pos ⟨by omega, by rw [hlen, ← hl]; omega, by omega⟩, show i * k + j - (i * k + o) = j - o by omega]
        obtain ⟨v, hv', hr⟩ := hall.get (j - o) c hc
        exact ⟨v, hv', hrel c v (hokl c (List.mem_of_getElem? hc)) hr⟩
      · rename_i hin'
        have hjc := (List.getElem?_eq_some_iff.1 hc).1
        rw [if_neg (by rw [hlen, ← hl]; omega)]
        obtain ⟨v, hv', hr⟩ := (hj i row hi).2 j c hc
        exact ⟨v, hv', hrel c v (H.ok b _ hb row (List.mem_of_getElem? hi) c (List.mem_of_getElem? hc)) hr⟩
    · rw [List.getElem?_set_ne hii] at hr
      refine ⟨(hj i' r hr).1, fun j c hc => ?_⟩
      have hjk : j < k := by rw [← (hj i' r hr).1]; exact (List.getElem?_eq_some_iff.1 hc).1
      rw [h5, if_neg ?_]
      · obtain ⟨v, hv', hrc⟩ := (hj i' r hr).2 j c hc
        exact ⟨v, hv', hrel c v (H.ok b _ hb r (List.mem_of_getElem? hr) c (List.mem_of_getElem? hc)) hrc⟩
      · rintro ⟨q1, q2, _⟩
        rcases Nat.lt_or_gt_of_ne hii with hlt' | hgt
        · have : (i + 1) * k ≤ i' * k := Nat.mul_le_mul_right k hlt'
          rw [Nat.succ_mul] at this
          omega
        · have : (i' + 1) * k ≤ i * k := Nat.mul_le_mul_right k hgt
          rw [Nat.succ_mul] at this
          omega
  · intro r hr c hc
    obtain ⟨i', hil, hie⟩ := List.getElem_of_mem hr
    have hr' : rows'[i']? = some r := by rw [List.getElem?_eq_getElem hil, hie]
    rw [← hrs] at hr'
    by_cases hii : i = i'
    · subst hii
      rw [List.getElem?_set_self hlt] at hr'
      cases hr'
      obtain ⟨j, hjl, hje⟩ := List.getElem_of_mem hc
      have hc' : row'[j]? = some c := by rw [List.getElem?_eq_getElem hjl, hje]
      rw [← hset, lcw] at hc'
      split at hc'
      · exact hokm c (hokl c (List.mem_of_getElem? hc'))
      · exact hokm c (H.ok b _ hb row (List.mem_of_getElem? hi) c (List.mem_of_getElem? hc'))
    · rw [List.getElem?_set_ne hii] at hr'
      exact hokm c (H.ok b _ hb r (List.mem_of_getElem? hr') c hc)
end ops
end Go.Proofs.YtnflnbdlgdjfmabGreatDoor
namespace Go.Proofs.YtnflnbdlgdjfmabGreatDoor
inductive NB : Tm → Prop
  | mk {t : Tm} (h : t.n ≤ 9223372036854775807) (hl : ∀ x ∈ t.l, NB x) : NB t
theorem NB.n {t : Tm} (h : NB t) : t.n ≤ 9223372036854775807 := by cases h; assumption
theorem NB.l {t : Tm} (h : NB t) : ∀ x ∈ t.l, NB x := by cases h; assumption
inductive VB : V → Prop
  | num {n : Int} : VB (.num n)
  | tru {n : Int} : VB (.tru n)
  | clo {b : Tm} {env : List V} (hb : NB b) (he : ∀ v ∈ env, VB v) : VB (.clo b env)
  | wrap {v : V} {f t : Ty} {at' : Int} {back : Bool} (hv : VB v) : VB (.wrap v f t at' back)
  | tag {v : V} {g : Ty} (hv : VB v) : VB (.tag v g)
def FB : Fr → Prop
  | .term t env => NB t ∧ ∀ v ∈ env, VB v
  | .second t v => NB t ∧ VB v
  | .given v => VB v
  | .casts _ _ _ _ => True
def KB : Ctl → Prop
  | .ent t env => NB t ∧ ∀ v ∈ env, VB v
  | .val v => VB v
structure MB (m : Mch) : Prop where
  c : KB m.ctl
  s : ∀ f ∈ m.stk, FB f
  f : m.fuel ≤ 1000
theorem lcx {α : Type} {p : α → Prop} {a : α} {l : List α} (ha : p a) (hl : ∀ x ∈ l, p x) : ∀ x ∈ a :: l, p x := fun x hx => by
  rcases List.mem_cons.1 hx with rfl | hx
  · exact ha
  · exact hl x hx
theorem castV_b {v u : V} {f t : Ty} {at' : Int} {back : Bool} (hv : VB v) (h : castV v f t at' back = .inl u) : VB u := by
  unfold castV at h
  split at h
  · cases h; exact hv
  split at h
  · cases h; exact .wrap hv
  split at h
  · cases h
    refine .tag ?_
    split
    · exact hv
    · exact .wrap hv
  split at h
  · split at h
    · cases hv with
      | tag hv =>
      split at h
      · split at h
        · cases h; exact hv
        · split at h
          · cases h; exact .wrap hv
          · cases h
      · cases h
    · cases h
  · cases h
theorem callM_b {f x : V} {s : List Fr} {F : Nat} {m : Mch} (hf : VB f) (hx : VB x) (hs : ∀ f ∈ s, FB f) (hF : F ≤ 1000) (h : callM f x s F = some (.inl m)) : MB m := by
  unfold callM at h
  split at h
  · split at h
    · cases h
    · cases h
      cases hf with
      | clo hb he => exact ⟨⟨hb, lcx hx he⟩, hs, Nat.le_trans (Nat.le_succ _) hF⟩
  · split at h
    · split at h
      · rename_i hc
        cases h
        cases hf with
        | wrap hv => exact ⟨castV_b hx hc, lcx (by exact hv) (lcx (by exact trivial) hs), hF⟩
      · cases h
    · cases h
  · cases h
theorem enterM_b {t : Tm} {env : List V} {s : List Fr} {F : Nat} {m : Mch} (ht : NB t) (he : ∀ v ∈ env, VB v) (hs : ∀ f ∈ s, FB f) (hF : F ≤ 1000) (h : enterM t env s F = some (.inl m)) : MB m := by
  unfold enterM at h
  split at h
  · split at h
    · rename_i hv; cases h; exact ⟨he _ (List.mem_of_getElem? hv), hs, hF⟩
    · cases h
  split at h
  · cases h; exact ⟨.num, hs, hF⟩
  split at h
  · cases h; exact ⟨.tru, hs, hF⟩
  split at h
  · cases h
  rename_i b l hl
  have hb : NB b := ht.l b (by rw [hl]; simp)
  split at h
  · cases h; exact ⟨.clo hb he, hs, hF⟩
  split at h
  · cases h; exact ⟨⟨hb, he⟩, lcx (by exact trivial) hs, hF⟩
  split at h
  · cases h; exact ⟨⟨hb, he⟩, hs, hF⟩
  · cases h; exact ⟨⟨hb, he⟩, lcx (by exact ⟨ht, he⟩) hs, hF⟩
theorem leaveM_b {v : V} {f : Fr} {s : List Fr} {F : Nat} {m : Mch} (hv : VB v) (hf : FB f) (hs : ∀ f ∈ s, FB f) (hF : F ≤ 1000) (h : leaveM v f s F = some (.inl m)) : MB m := by
  cases f with
  | term t env =>
    obtain ⟨ht, he⟩ := hf
    simp only [leaveM] at h
    split at h
    · split at h
      · split at h
        · rename_i hl
          split at h
          · cases h; exact ⟨⟨ht.l _ (by rw [hl]; simp), he⟩, hs, hF⟩
          · split at h
            · cases h; exact ⟨⟨ht.l _ (by rw [hl]; simp), he⟩, hs, hF⟩
            · cases h
        · cases h
      · cases h
    · split at h
      · split at h
        · rename_i hl
          cases h
          exact ⟨⟨ht.l _ (by rw [hl]; simp), he⟩, lcx (by exact ⟨ht, hv⟩) hs, hF⟩
        · cases h
      · cases h
  | second t g =>
    obtain ⟨ht, hg⟩ := hf
    simp only [leaveM] at h
    split at h
    · exact callM_b hg hv hs hF h
    · split at h
      · rename_i hu
        cases h
        refine ⟨?_, hs, hF⟩
        unfold twoV at hu
        split at hu
        · split at hu
          · cases hu
            split
            · exact .tru
            · exact .num
          · cases hu
        · cases hu
        · cases hu
      · cases h
      · cases h
  | given g => exact callM_b hf hv hs hF h
  | casts a b c d =>
    simp only [leaveM] at h
    split at h
    · rename_i hc; cases h; exact ⟨castV_b hv hc, hs, hF⟩
    · cases h
theorem step_b {m m' : Mch} (hm : MB m) (h : step m = some (.inl m')) : MB m' := by
  obtain ⟨ctl, s, F⟩ := m
  obtain ⟨hc, hs, hF⟩ := hm
  cases ctl with
  | ent t env => exact enterM_b hc.1 hc.2 hs hF h
  | val v =>
    cases s with
    | nil => cases h
    | cons f s => exact leaveM_b hc (hs f (by simp)) (fun g hg => hs g (by simp [hg])) hF h
theorem asT_nb {x : Tm} {k w : Ty} {n : Int} (h : NB x) (hn : n ≤ 9223372036854775807) : NB (asT x k w n) := by
  unfold asT
  split
  · exact h
  · exact .mk hn fun y hy => by rw [List.mem_singleton.1 hy]; exact h
theorem casts_nb : ∀ {ks : List Kid} {ws : List Ty} {l : List Tm}, (∀ x ∈ ks, NB x.t ∧ x.at' ≤ 9223372036854775807) → casts ks ws = some l → ∀ y ∈ l, NB y
  | [], ws, l, hk, h => by simp [casts] at h; subst h; intro y hy; cases hy
  | x :: xs, [], l, hk, h => by simp [casts] at h
  | x :: xs, w :: ws, l, hk, h => by
    obtain ⟨y, l', rfl, hy, hl⟩ := lbo h
    refine lcx ?_ (casts_nb (fun x hx => hk x (List.mem_cons_of_mem _ hx)) hl)
    unfold Kid.to at hy
    split at hy
    · cases hy; exact asT_nb (hk x (List.mem_cons_self ..)).1 (hk x (List.mem_cons_self ..)).2
    · cases hy
theorem walkL_nb : ∀ {l : List Tm} {env : List Ty} {m : Int} {ks : List Kid}, (∀ a ∈ l, ∀ (m : Int) x k, m + a.nodes ≤ 1000000 → walkT a env m = some (x, k) → NB x) → m + nodesL l ≤ 1000000 → walkL l env m = some ks → ∀ x ∈ ks, NB x.t ∧ x.at' ≤ 9223372036854775807
  | [], env, m, ks, h, hm, hw => by have := lbF hw; subst this; intro x hx; cases hx
  | a :: l, env, m, ks, h, hm, hw => by
    obtain ⟨x, k, ks', rfl, h1, h2⟩ := lbf hw
    simp only [nodesL] at hm
    have := lco a
    refine lcx ⟨h a (List.mem_cons_self ..) m x k (by omega) h1, by show m ≤ _; omega⟩ (walkL_nb (fun b hb => h b (List.mem_cons_of_mem _ hb)) (by omega) h2)
theorem walk_nb : ∀ (a : Tm) (env : List Ty) (m : Int) (x : Tm) (k : Ty), NB a → m + a.nodes ≤ 1000000 → walkT a env m = some (x, k) → NB x := fun a => by
  induction a using Tm.ind' with
  | _ a ih =>
    intro env m x k hn hm h
    rw [lbt] at hm
    rw [lbi] at h
    split at h
    · cases h; exact hn
    split at h
    · cases h; exact hn
    split at h
    · cases h; exact hn
    split at h
    · cases h
    rename_i ks hks
    split at h
    · cases h
    rename_i ws out hw
    cases hc : casts ks ws with
    | none => rw [hc] at h; cases h
    | some l' =>
      rw [hc] at h; cases h
      refine .mk hn.n (casts_nb (walkL_nb (fun b hb m x k hm => ih b hb _ m x k (hn.l b hb) hm) (by omega) hks) hc)
theorem TmOk.nb : ∀ {a : Tm}, TmOk a → NB a := fun {a} => by
  induction a using Tm.ind' with
  | _ a ih => intro h; exact .mk h.n fun x hx => ih x hx (h.l x hx)
end Go.Proofs.YtnflnbdlgdjfmabGreatDoor
