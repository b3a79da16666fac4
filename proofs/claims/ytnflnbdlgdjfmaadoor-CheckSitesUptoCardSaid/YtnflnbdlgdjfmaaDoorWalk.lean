/-
  Code, walked as states: regions, tests, loops; a state said anew; a contract out of a body. Conditions: those typed in each theorem.
-/
import Derived.Test.YtnflnbdlgdjfmaaDoorCall
namespace Go.Proofs.YtnflnbdlgdjfmaaDoor
open Go.RowKit
set_option linter.unusedVariables false
set_option linter.unusedSimpArgs false

/-- For each of the list. -/
def AllP {α : Type} (p : α → Prop) : List α → Prop
  | [] => True
  | a :: l => p a ∧ AllP p l
theorem allP_iff {α : Type} {p : α → Prop} : ∀ {l : List α}, AllP p l ↔ ∀ a ∈ l, p a := by
  intro l
  induction l with
  | nil => exact ⟨fun _ a h => (by cases h), fun _ => trivial⟩
  | cons a l ih =>
    constructor
    · rintro ⟨h, k⟩ b hb
      rcases List.mem_cons.1 hb with rfl | hb
      · exact h
      · exact ih.1 k b hb
    · exact fun h => ⟨h a (List.mem_cons_self ..), ih.2 fun b hb => h b (List.mem_cons_of_mem _ hb)⟩

/-! ### The operations of a region, in the order of the text -/
def RunL (P : Program) (ops : Array Oper) (d : List Nat) (dr : Bool) (K : (Nat → U) → (Nat → Option Blk) → Prop) : List Oper → List (List Nat × List Nat) → (Nat → U) → (Nat → Option Blk) → Prop
  | [], acc, t, h => (dr = true → okSwap ops acc.reverse = true) ∧ K t h
  | o :: l, acc, t, h => ∃ R W,
      ((GuardU ops o t true ∧ ∃ p v, LocOp P o ⟨t, h, d⟩ R p v ∧ namesP p = W ∧ RunL P ops d dr K l ((R, W) :: acc) (updD t o.dst v) (applyP p h)) ∨ (GuardU ops o t false ∧ RunL P ops d dr K l ((R, W) :: acc) (updD t o.dst (.tup [])) h))

section
variable {P : Program} {ops : Array Oper} {d : List Nat} {dr : Bool} {K : (Nat → U) → (Nat → Option Blk) → Prop} {l : List Oper} {acc : List (List Nat × List Nat)} {t : Nat → U} {h : Nat → Option Blk}
  {op : Op} {rt : TypeId} {pos : String} {after : Array Edge} {guard : Option (Nat × Bool)} {x : Nat} {R : List Nat} {v : U} {b : Nat} {blk : Blk}
theorem RunL.nil (k : K t h) : RunL P ops d false K [] acc t h := ⟨fun h => (by cases h), k⟩
theorem RunL.nilD (hs : okSwap ops acc.reverse = true) (k : K t h) : RunL P ops d true K [] acc t h := ⟨fun _ => hs, k⟩
theorem RunL.val (hg : GuardU ops ⟨some x, op, rt, pos, after, guard⟩ t true) (hl : LocOp P ⟨some x, op, rt, pos, after, guard⟩ ⟨t, h, d⟩ R [] v) (k : RunL P ops d dr K l ((R, []) :: acc) (upd t x v) h) : RunL P ops d dr K (⟨some x, op, rt, pos, after, guard⟩ :: l) acc t h :=
  ⟨R, [], .inl ⟨hg, [], v, hl, rfl, k⟩⟩
theorem RunL.mem (hg : GuardU ops ⟨some x, op, rt, pos, after, guard⟩ t true) (hl : LocOp P ⟨some x, op, rt, pos, after, guard⟩ ⟨t, h, d⟩ R [(b, some blk)] v) (k : RunL P ops d dr K l ((R, [b]) :: acc) (upd t x v) (upd h b (some blk))) : RunL P ops d dr K (⟨some x, op, rt, pos, after, guard⟩ :: l) acc t h :=
  ⟨R, [b], .inl ⟨hg, [(b, some blk)], v, hl, rfl, k⟩⟩
theorem RunL.eff (hg : GuardU ops ⟨none, op, rt, pos, after, guard⟩ t true) (hl : LocOp P ⟨none, op, rt, pos, after, guard⟩ ⟨t, h, d⟩ R [(b, some blk)] .any) (k : RunL P ops d dr K l ((R, [b]) :: acc) t (upd h b (some blk))) : RunL P ops d dr K (⟨none, op, rt, pos, after, guard⟩ :: l) acc t h :=
  ⟨R, [b], .inl ⟨hg, [(b, some blk)], .any, hl, rfl, k⟩⟩
theorem RunL.many {O' : List (Nat × Blk)} (hg : GuardU ops ⟨some x, op, rt, pos, after, guard⟩ t true) (hl : LocOp P ⟨some x, op, rt, pos, after, guard⟩ ⟨t, h, d⟩ R (patchL O') v) (k : RunL P ops d dr K l ((R, namesL O') :: acc) (upd t x v) (applyP (patchL O') h)) : RunL P ops d dr K (⟨some x, op, rt, pos, after, guard⟩ :: l) acc t h :=
  ⟨R, _, .inl ⟨hg, _, v, hl, by simp [namesP, patchL, namesL], k⟩⟩
theorem RunL.manyN {O' : List (Nat × Blk)} (hg : GuardU ops ⟨none, op, rt, pos, after, guard⟩ t true) (hl : LocOp P ⟨none, op, rt, pos, after, guard⟩ ⟨t, h, d⟩ R (patchL O') v) (k : RunL P ops d dr K l ((R, namesL O') :: acc) t (applyP (patchL O') h)) : RunL P ops d dr K (⟨none, op, rt, pos, after, guard⟩ :: l) acc t h :=
  ⟨R, _, .inl ⟨hg, _, v, hl, by simp [namesP, patchL, namesL], k⟩⟩
theorem RunL.skip (hg : GuardU ops ⟨some x, op, rt, pos, after, guard⟩ t false) (k : RunL P ops d dr K l (([], []) :: acc) (upd t x (.tup [])) h) : RunL P ops d dr K (⟨some x, op, rt, pos, after, guard⟩ :: l) acc t h :=
  ⟨[], [], .inr ⟨hg, k⟩⟩
theorem RunL.skipN (hg : GuardU ops ⟨none, op, rt, pos, after, guard⟩ t false) (k : RunL P ops d dr K l (([], []) :: acc) t h) : RunL P ops d dr K (⟨none, op, rt, pos, after, guard⟩ :: l) acc t h :=
  ⟨[], [], .inr ⟨hg, k⟩⟩
end

theorem runL_chain {P : Program} {ops : Array Oper} {d : List Nat} {dr : Bool} {K : (Nat → U) → (Nat → Option Blk) → Prop} : ∀ (l : List Oper) (acc : List (List Nat × List Nat)) (m : Nat) (t : Nat → U) (h : Nat → Option Blk), ops.toList.drop m = l → acc.length = m →
    RunL P ops d dr K l acc t h → ∃ foot t' h', (∃ more, foot = acc.reverse ++ more) ∧ (dr = true → okSwap ops foot = true) ∧ Chain (StepAt P ops foot) (List.range' m l.length) ⟨t, h, d⟩ ⟨t', h', d⟩ ∧ K t' h'
  | [], acc, m, t, h, _, _, ⟨hs, k⟩ => ⟨acc.reverse, t, h, ⟨[], by simp⟩, hs, rfl, k⟩
  | o :: l, acc, m, t, h, ho, hf, ⟨R, W, hr⟩ => by
    have hoi : ops[m]? = some o := by
      have : (ops.toList.drop m)[0]? = some o := by rw [ho]; rfl
      rw [List.getElem?_drop, Nat.add_zero, Array.getElem?_toList] at this
      exact this
    have hl : ops.toList.drop (m + 1) = l := by rw [← List.drop_drop, ho]; rfl
    have hfm : ∀ foot more, foot = ((R, W) :: acc).reverse ++ more → foot.getD m ([], []) = (R, W) := fun foot more hfo => by
      rw [hfo, List.getD_eq_getElem?_getD, List.reverse_cons, List.append_assoc, List.getElem?_append_right (by simp [hf]), List.length_reverse, hf, Nat.sub_self]
      rfl
    have hfm' : ∀ foot more, foot = ((R, W) :: acc).reverse ++ more → ∃ more', foot = acc.reverse ++ more' := fun foot more hfo => ⟨(R, W) :: more, by rw [hfo, List.reverse_cons, List.append_assoc]; rfl⟩
    rw [List.length_cons, List.range'_succ]
    rcases hr with ⟨hg, p, v, hl1, hn, k⟩ | ⟨hg, k⟩
    · obtain ⟨foot, t', h', ⟨more, hmo⟩, hs, hc, hk⟩ := runL_chain l ((R, W) :: acc) (m + 1) _ _ hl (by simp [hf]) k
      have hR := hfm foot more hmo
      exact ⟨foot, t', h', hfm' foot more hmo, hs, ⟨_, ⟨o, hoi, .inl ⟨hg, p, v, by rw [hR]; exact hl1, by rw [hR]; exact hn, rfl⟩⟩, hc⟩, hk⟩
    · obtain ⟨foot, t', h', ⟨more, hmo⟩, hs, hc, hk⟩ := runL_chain l ((R, W) :: acc) (m + 1) _ _ hl (by simp [hf]) k
      exact ⟨foot, t', h', hfm' foot more hmo, hs, ⟨_, ⟨o, hoi, .inr ⟨hg, rfl⟩⟩, hc⟩, hk⟩

/-! ### Code -/
/-- Walked from state s the code ends so that Q. -/
def AW (P : Program) (n : Nat) (c : Code) (t : Nat → U) (h : Nat → Option Blk) (d : List Nat) (Q : Exit → (Nat → U) → (Nat → Option Blk) → Prop) : Prop :=
  ∀ (E : Env) (a : Act) (w : World), E.n = n → Sim E ⟨t, h, d⟩ a w → c.wp P (fun e a' w' => ∃ t' h', Sim E ⟨t', h', d⟩ a' w' ∧ Q e t' h') a w

def ThenQ (next : (Nat → U) → (Nat → Option Blk) → Prop) (Q : Exit → (Nat → U) → (Nat → Option Blk) → Prop) : Exit → (Nat → U) → (Nat → Option Blk) → Prop
  | .normal, t, h => next t h
  | e, t, h => Q e t h
def InBlockQ (id : Nat) (Q : Exit → (Nat → U) → (Nat → Option Blk) → Prop) : Exit → (Nat → U) → (Nat → Option Blk) → Prop
  | .exit id', t, h => if id' = id then Q .normal t h else Q (.exit id') t h
  | e, t, h => Q e t h

section
variable {P : Program} {n : Nat} {t : Nat → U} {h : Nat → Option Blk} {d : List Nat} {Q : Exit → (Nat → U) → (Nat → Option Blk) → Prop}
theorem AW.mono {c : Code} {Q' : Exit → (Nat → U) → (Nat → Option Blk) → Prop} (hw : AW P n c t h d Q) (hq : ∀ e t h, Q e t h → Q' e t h) : AW P n c t h d Q' := fun E a w hn S => wp_mono (hw E a w hn S) fun e a' w' ⟨t', h', S', q⟩ => ⟨t', h', S', hq _ _ _ q⟩
theorem AW.skip (q : Q .normal t h) : AW P n .skip t h d Q := fun E a w hn S => wp_skip ⟨t, h, S, q⟩
theorem AW.label {l : Nat} (q : Q .normal t h) : AW P n (.label l) t h d Q := fun E a w hn S => wp_label ⟨t, h, S, q⟩
theorem AW.exit {id : Nat} (q : Q (.exit id) t h) : AW P n (.exit id) t h d Q := fun E a w hn S => wp_exit ⟨t, h, S, q⟩
theorem AW.ret (q : Q .ret t h) : AW P n .ret t h d Q := fun E a w hn S => wp_ret ⟨t, h, S, q⟩
theorem AW.seq {x y : Code} (hw : AW P n x t h d (ThenQ (fun t h => AW P n y t h d Q) Q)) : AW P n (.seq x y) t h d Q := fun E a w hn S =>
  wp_seq (wp_mono (hw E a w hn S) fun e a' w' ⟨t', h', S', q⟩ => by
    cases e <;> first | exact q E a' w' hn S' | exact ⟨t', h', S', q⟩)
theorem AW.condT {c : Operand} {x y : Code} (hc : opU t c = .one (.bool true)) (hw : AW P n x t h d Q) : AW P n (.cond c x y) t h d Q := fun E a w hn S => wp_cond_true (by
    obtain ⟨F, ρ, S⟩ := S
    cases c with
    | tmp c => have this : relU F ρ w (t c) (a.tmps.getD c undef) := S.rel c; rw [show t c = _ from hc] at this; exact this
    | const c => have := (constU_rel F ρ w h c).1; rw [show constU c = _ from hc] at this; exact this
    | global g => have := (opU_rel (t := t) (a := a) (o := ⟨none, .move (.global g), 0, "", #[], none⟩) S.heap (fun x hx => by simp [Oper.reads, Op.operands] at hx) (.global g) (by simp [Op.operands])).1; rw [hc] at this; exact this
    | func f => cases hc) (hw E a w hn S)
theorem AW.condF {c : Operand} {x y : Code} (hc : opU t c = .one (.bool false)) (hw : AW P n y t h d Q) : AW P n (.cond c x y) t h d Q := fun E a w hn S => wp_cond_false (by
    obtain ⟨F, ρ, S⟩ := S
    cases c with
    | tmp c => have this : relU F ρ w (t c) (a.tmps.getD c undef) := S.rel c; rw [show t c = _ from hc] at this; exact this
    | const c => have := (constU_rel F ρ w h c).1; rw [show constU c = _ from hc] at this; exact this
    | global g => have := (opU_rel (t := t) (a := a) (o := ⟨none, .move (.global g), 0, "", #[], none⟩) S.heap (fun x hx => by simp [Oper.reads, Op.operands] at hx) (.global g) (by simp [Op.operands])).1; rw [hc] at this; exact this
    | func f => cases hc) (hw E a w hn S)
/-- A test: what is known on each way. -/
theorem AW.cond {c : Operand} {x y : Code} {b : Bool} (hc : opU t c = .one (.bool b)) (hT : b = true → AW P n x t h d Q) (hF : b = false → AW P n y t h d Q) : AW P n (.cond c x y) t h d Q := by
  cases b with
  | true => exact AW.condT hc (hT rfl)
  | false => exact AW.condF hc (hF rfl)
theorem AW.block {id : Nat} {c : Code} (hw : AW P n c t h d (InBlockQ id Q)) : AW P n (.block id c) t h d Q := fun E a w hn S =>
  wp_block (wp_mono (hw E a w hn S) fun e a' w' ⟨t', h', S', q⟩ => by
    cases e with
    | exit id' =>
      show Exit.inBlock id _ (.exit id') a' w'
      simp only [Exit.inBlock]
      simp only [InBlockQ] at q
      split
      · rename_i hid; rw [if_pos hid] at q; exact ⟨t', h', S', q⟩
      · rename_i hid; rw [if_neg hid] at q; exact ⟨t', h', S', q⟩
    | _ => exact ⟨t', h', S', q⟩)
theorem AW.region {id : Nat} {ops : Array Oper} (hd : dstOk ops n = true) (hw : RunL P ops d false (fun t h => Q .normal t h) ops.toList [] t h) : AW P n (.region id ops false) t h d Q := fun E a w hn S => by
  obtain ⟨foot, t', h', _, _, hc, k⟩ := runL_chain ops.toList [] 0 t h rfl rfl hw
  rw [show ops.toList.length = ops.size by simp, ← List.range_eq_range'] at hc
  exact region_text foot (by rw [hn]; exact hd) S hc fun a w S => ⟨t', h', S, k⟩
theorem AW.regionD {id : Nat} {ops : Array Oper} (hm : P.follows .mixedOrders = true) (hdn : edgesDown ops = true) (hd : dstOk ops n = true) (hw : RunL P ops d true (fun t h => Q .normal t h) ops.toList [] t h) : AW P n (.region id ops true) t h d Q := fun E a w hn S => by
  obtain ⟨foot, t', h', _, hs, hc, k⟩ := runL_chain ops.toList [] 0 t h rfl rfl hw
  rw [show ops.toList.length = ops.size by simp, ← List.range_eq_range'] at hc
  exact region_draw foot hm hdn (by rw [hn]; exact hd) (hs rfl) S hc fun a w S => ⟨t', h', S, k⟩
/-- A state, said anew: whatever fits the one fits the other. -/
def Gh (d : List Nat) (t : Nat → U) (h : Nat → Option Blk) (t' : Nat → U) (h' : Nat → Option Blk) : Prop := ∀ E a w, Sim E ⟨t, h, d⟩ a w → Sim E ⟨t', h', d⟩ a w
theorem Gh.refl (d : List Nat) (t : Nat → U) (h : Nat → Option Blk) : Gh d t h t h := fun _ _ _ S => S
theorem AW.gh {c : Code} {t' : Nat → U} {h' : Nat → Option Blk} (g : Gh d t h t' h') (hw : AW P n c t' h' d Q) : AW P n c t h d Q := fun E a w hn S => hw E a w hn (g E a w S)
/-- A LOOP: I m of the state at each round's head, m goes down. -/
theorem AW.loop {c : Code} (I : Nat → (Nat → U) → (Nat → Option Blk) → Prop) (m0 : Nat) (h0 : I m0 t h)
    (hr : ∀ m t h, I m t h → AW P n c t h d (ThenQ (fun t h => ∃ m' t' h', m' < m ∧ Gh d t h t' h' ∧ I m' t' h') Q)) : AW P n (.loop c) t h d Q := by
  intro E a w hn S
  have key : ∀ m t h a w, I m t h → Sim E ⟨t, h, d⟩ a w → ∃ k, Code.rounds P c (fun e a' w' => ∃ t' h', Sim E ⟨t', h', d⟩ a' w' ∧ Q e t' h') k a w := by
    intro m
    induction m using Nat.strongRecOn with
    | ind m ih =>
      intro t h a w hi S
      -- the rounds' number is not known before the round: a bound that serves each end
      have hb := hr m t h hi E a w hn S
      exact ⟨m + 1, by
        have hall : ∀ m' t h a w, m' ≤ m → I m' t h → Sim E ⟨t, h, d⟩ a w → Code.rounds P c (fun e a' w' => ∃ t' h', Sim E ⟨t', h', d⟩ a' w' ∧ Q e t' h') (m' + 1) a w := by
          intro m'
          induction m' using Nat.strongRecOn with
          | ind m' ih' =>
            intro t h a w hle hi S
            rw [rounds_succ]
            refine wp_mono (hr m' t h hi E a w hn S) fun e a' w' ⟨t', h', S', q⟩ => ?_
            cases e with
            | normal =>
              obtain ⟨m2, t2, h2, hlt, hg, hi2⟩ := q
              have h3 := ih' m2 hlt t2 h2 a' w' (by omega) hi2 (hg E a' w' S')
              have hmono : ∀ k j a w, k ≤ j → Code.rounds P c (fun e a' w' => ∃ t' h', Sim E ⟨t', h', d⟩ a' w' ∧ Q e t' h') k a w → Code.rounds P c (fun e a' w' => ∃ t' h', Sim E ⟨t', h', d⟩ a' w' ∧ Q e t' h') j a w := by
                intro k
                induction k with
                | zero => intro j a w _ h; exact h.elim
                | succ k ihk =>
                  intro j a w hkj h
                  cases j with
                  | zero => omega
                  | succ j =>
                    rw [rounds_succ] at h ⊢
                    refine wp_mono h fun e a w q => ?_
                    cases e with
                    | normal => exact ihk j a w (by omega) q
                    | _ => exact q
              exact hmono (m2 + 1) m' a' w' (by omega) h3
            | _ => exact ⟨t', h', S', q⟩
        exact hall m t h a w (Nat.le_refl _) hi S⟩
  obtain ⟨k, hk⟩ := key m0 t h a w h0 S
  exact wp_loop_rounds k hk
end
end Go.Proofs.YtnflnbdlgdjfmaaDoor
