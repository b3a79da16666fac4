/-
  Merged texts of the proof. Conditions: those typed in each theorem.
-/
import Derived.Test.YtnflnbdlgdjfmabGreatDoorX10
import Derived.Test.YtnflnbdlgdjfmabGreatDoorRows
import Derived.ProofKit
import Derived.OpenShut
import Derived.Lib.SmallJoins
import Derived.Deep.Slices
import Derived.Deep.DeepHandedRow
import Derived.Lib.LaidTab
import Derived.Lay
import Derived.Stop.LaidErr
import Derived.Shelf.Vars
import Derived.Deep.DeepWitnessRowRef
import Derived.LaidLaws
set_option linter.unusedVariables false
set_option linter.unusedSimpArgs false
namespace Go.Proofs.YtnflnbdlgdjfmabGreatDoor
open Go.RowKit
set_option maxRecDepth 100000
attribute [local irreducible] RunL AW LocOp ACalls Gh
theorem numR_big (s : List UInt8) : (numR s).1 ≤ 9223372036854775807 := by
  unfold numR
  split
  · decide
  · rename_i hc
    have hb := bnd_le (k := (Lib.trimPrefix s [45]).length) (by simp only [not_or, Nat.not_lt] at hc; exact hc.2.1)
    have hd := digs_le (Lib.trimPrefix s [45]) _ (Nat.le_refl _)
    rw [List.take_length] at hd
    unfold digs at hd
    dsimp only
    split <;> omega
theorem baseK_thin (s : List UInt8) : Thin (baseK s).1 ∧ (baseK s).1.deep = 1 := by
  have leaf : ∀ k : Int, Thin (.mk k []) := fun k => .mk k [] (by simp) (fun t h => by cases h)
  unfold baseK
  split
  · exact ⟨leaf _, rfl⟩
  split
  · exact ⟨leaf _, rfl⟩
  split
  · exact ⟨leaf _, rfl⟩
  · exact ⟨leaf _, rfl⟩
theorem tok_pos : ∀ x : Tr, 1 ≤ (trTok x).length
  | .w s => by simp [trTok]
  | .n l => by simp [trTok]
theorem trKind_thin : ∀ x : Tr, Thin (trKind x).1 ∧ (trKind x).1.deep ≤ (trTok x).length := by
  intro x
  induction x using Tr.ind with
  | hw s => obtain ⟨h1, h2⟩ := baseK_thin s; simp only [trKind, trTok]; exact ⟨h1, by rw [h2]; simp⟩
  | hn l ih =>
    simp only [trKind, kindL, ldM]
    have hany : Thin Ty.any ∧ Ty.any.deep ≤ (trTok (.n l)).length := ⟨Right.any.thin, tok_pos (.n l)⟩
    split
    · rename_i s a b k ka kb heq
      simp only [List.map_cons, List.map_nil, List.cons.injEq, and_true] at heq
      obtain ⟨_, rfl, rfl⟩ := heq
      split
      · obtain ⟨a1, a2⟩ := ih a (by simp)
        obtain ⟨b1, b2⟩ := ih b (by simp)
        refine ⟨.mk 3 _ (by simp) fun t ht => ?_, ?_⟩
        · simp only [List.mem_cons, List.not_mem_nil, or_false] at ht
          rcases ht with rfl | rfl
          · exact a1
          · exact b1
        · simp only [Ty.deep, deepL, trTok, trTokL, List.length_append, List.length_cons, List.length_nil]
          omega
      · exact hany
    · exact hany
theorem tokL_mem {x : Tr} : ∀ {l : List Tr}, x ∈ l → (trTok x).length ≤ (trTokL l).length
  | a :: l, h => by
    simp only [trTokL, List.length_append]
    rcases List.mem_cons.1 h with rfl | h
    · omega
    · have := tokL_mem h; omega
theorem kids_nodes : ∀ {l : List Tr}, (∀ x ∈ l, (trTerm x).1.nodes ≤ (trTok x).length) → nodesL (kidsT l) ≤ (trTokL l).length
  | [], _ => by simp [kidsT, nodesL]
  | a :: l, h => by
    have h1 := h a (List.mem_cons_self ..)
    have h2 := kids_nodes fun x hx => h x (List.mem_cons_of_mem _ hx)
    simp only [kidsT, List.map_cons, nodesL, trTokL, List.length_append] at h2 ⊢
    omega
theorem zero_dp : TmDp Tm.zero := .mk (by decide) fun x h => by cases h
theorem trTerm_ok : ∀ x : Tr, (trTok x).length ≤ 1000 → TmOk (trTerm x).1 ∧ TmDp (trTerm x).1 ∧ (trTerm x).1.nodes ≤ (trTok x).length := by
  intro x
  induction x using Tr.ind with
  | hw s =>
    intro _
    have leaf : ∀ k n : Int, n ≤ 9223372036854775807 → TmOk (.mk k n .any .any []) ∧ TmDp (.mk k n .any .any []) ∧ (Tm.mk k n .any .any []).nodes ≤ 1 := fun k n h => ⟨leaf_ok h, .mk (by show Ty.any.deep ≤ 1048576; decide) (fun x h => by cases h), Nat.le_refl _⟩
    simp only [trTerm, trTok, wordTm]
    split
    · exact leaf _ _ (by decide)
    split
    · exact leaf _ _ (by decide)
    split
    · exact leaf _ _ (numR_big _)
    · exact leaf _ _ (numR_big _)
  | hn l ih =>
    intro hx
    have hz : TmOk Tm.zero ∧ TmDp Tm.zero ∧ Tm.zero.nodes ≤ (trTok (.n l)).length := ⟨lfa, zero_dp, tok_pos (.n l)⟩
    cases l with
    | nil => exact hz
    | cons y l =>
    cases y with
    | n m => exact hz
    | w s =>
    have hlen : (trTok (.n (.w s :: l))).length = (trTokL l).length + 3 := by rw [lcK]; simp
    have kid : ∀ x ∈ l, TmOk (trTerm x).1 ∧ TmDp (trTerm x).1 ∧ (trTerm x).1.nodes ≤ (trTok x).length := fun x hxl => ih x (List.mem_cons_of_mem _ hxl) (by have := tokL_mem hxl; omega)
    cases hw : wFrom (mkB s) 10 with
    | none => rw [show trTerm (.n (.w s :: l)) = (Tm.zero, false) by simp only [trTerm, nodeTm, hw]]; exact hz
    | some k =>
    have mk : ∀ (T : Ty) (kl : List Tr), (∀ x ∈ kl, x ∈ l) → Thin T → T.deep ≤ 1048576 → (trTokL kl).length ≤ (trTokL l).length → TmOk (.mk (k : Nat) 0 T .any (kidsT kl)) ∧ TmDp (.mk (k : Nat) 0 T .any (kidsT kl)) ∧ (Tm.mk (k : Nat) 0 T .any (kidsT kl)).nodes ≤ (trTok (.n (.w s :: l))).length := fun T kl hs hT hd hle => by
      have hm : ∀ t ∈ kidsT kl, TmOk t ∧ TmDp t := fun t ht => by
        obtain ⟨x, hx, rfl⟩ := List.mem_map.1 ht
        exact ⟨(kid x (hs x hx)).1, (kid x (hs x hx)).2.1⟩
      refine ⟨.mk (by show (0 : Int) ≤ _; decide) hT Right.any.thin fun t ht => (hm t ht).1, .mk hd fun t ht => (hm t ht).2, ?_⟩
      have := kids_nodes fun x hx => (kid x (hs x hx)).2.2
      rw [hlen]
      simp only [Tm.nodes]
      omega
    cases h79 : ((k : Int) == 7 || (k : Int) == 9) with
    | false => rw [node_plain hw h79]; exact mk _ _ (fun x h => h) Right.any.thin (by decide) (Nat.le_refl _)
    | true =>
      cases l with
      | nil =>
        rw [show trTerm (.n [.w s]) = (.mk k 0 .any .any [], false) by simp only [trTerm, nodeTm, hw, h79, if_true]]
        exact mk .any [] (fun x h => h) Right.any.thin (by decide) (Nat.le_refl _)
      | cons a l =>
        rw [node_typed hw h79]
        obtain ⟨t1, t2⟩ := trKind_thin a
        have := tokL_mem (List.mem_cons_self (a := a) (l := l))
        exact mk _ _ (fun x h => List.mem_cons_of_mem _ h) t1 (by omega) (by simp only [trTokL, List.length_append]; omega)
set_option maxHeartbeats 4000000 in
theorem parseTerm_a (l : List UInt8) : ACalls Tryz.prog 14 [.one (.str (mkB l))] [] (.tup [(refParse (mkB l)).1.u, .one (.int .i64 (refParse (mkB l)).2)]) [] := by
  have hsz : (mkB l).size = l.length := by simp [mkB, ByteArray.size]
  refine zB Tryz.func14 ?_
  cases hlen : decide ((((mkB l).size : Nat) : Int) > 1000) with
  | true =>
    have h1 : 1000 < (mkB l).size := by have := of_decide_eq_true hlen; omega
    rw [show refParse (mkB l) = (Tm.zero, 4) by unfold refParse; rw [if_pos h1]]
    refine zQ ?_;refine zM lah ?_;refine zV lab ?_;refine zn (zq (zQ ?_));refine zV laa ?_;refine zV laO ?_;refine zV lac ?_;refine zn ?_;refine zaT ?_;refine zQ ?_;refine zV laq ?_;refine zE laf ?_;refine zV lab ?_;refine zn (zre ?_)
    exact lda (by exact .inr rfl) (by exact rfl) (by exact rfl) tleaf (by exact rfl)
  | false =>
    have h1 : ¬ 1000 < (mkB l).size := by have := of_decide_eq_false hlen; omega
    have htr := trees_a (l.length + 1) l false (by omega) (by omega)
    obtain ⟨hb1, hb2⟩ := lfB (l.length + 1) false [] l (by omega) (by simp; omega) (by simp)
    obtain ⟨s1, s2, _, _⟩ := lcJ (l.length + 1) false [] l (by omega)
    have htl := lfA l []
    have hres : refParse (mkB l) = (match (treesF (l.length + 1) false [] l).1 with
      | [x] => if (treesF (l.length + 1) false [] l).2.2 && ((trTerm x).2 && (trTerm x).1.Good 0) then ((trTerm x).1, 0) else (Tm.zero, 1)
      | _ => (Tm.zero, 1)) := by
      unfold refParse; rw [if_neg h1, hsz, lcH]; rfl
    have htok : (treesF (l.length + 1) false [] l).2.2 = true → (trTokL (treesF (l.length + 1) false [] l).1).length ≤ 1000 := fun h => by
      rw [s2] at h
      obtain ⟨xs, e1, e2⟩ := ldd _ _ _ _ h
      rw [List.nil_append] at e1
      rw [s1, e1]
      simp only [Bool.false_eq_true, if_false, List.append_nil] at e2
      rw [← e2]
      simp only [if_true] at htl
      omega
    generalize treesF (l.length + 1) false [] l = p at *
    obtain ⟨pl, pr, pb⟩ := p
    unfold treesU at htr
    dsimp only at htr hb1 hb2 hres htok
    rw [hres]
    have hpl := lbN pl
    refine zQ ?_;refine zM lah ?_;refine zV lab ?_;refine zn (zq (zQ ?_));refine zV laa ?_;refine zV laO ?_;refine zV lac ?_;refine zn ?_;refine zaF ?_;refine zsk (zQ ?_);refine zV laa ?_
    refine zV (lal (htr) rfl (by refine zC ?_;refine zC ?_;exact rfl)) ?_
    cases pb with
    | false =>
      rw [show (match pl with
        | [x] => if false && ((trTerm x).2 && (trTerm x).1.Good 0) then ((trTerm x).1, (0 : Int)) else (Tm.zero, 1)
        | _ => (Tm.zero, 1)) = (Tm.zero, 1) by split <;> rfl]
      refine zV laB ?_;refine zV lar ?_;refine zV lar ?_;refine zV lar ?_;refine zV lab ?_;refine zV lab ?_;refine zV lab ?_;refine zn (zq (zQ ?_));refine zV laa ?_;refine zV laa ?_;refine zs ?_;refine zs ?_;refine zs ?_;refine zV law ?_;refine zn ?_;refine zcF ?_;refine zsk (zQ ?_);refine zV laq ?_;refine zE laf ?_;refine zV lab ?_;refine zn (zre ?_)
      exact lda (by exact .inr rfl) (by exact rfl) (by exact rfl) tleaf (by exact rfl)
    | true =>
    cases k1 : ((((trRows pl).length : Nat) : Int) == 1) with
    | false =>
      have hne : pl.length ≠ 1 := by have : ¬ (((trRows pl).length : Nat) : Int) = 1 := by simpa using k1
                                     omega
      rw [show (match pl with
        | [x] => if true && ((trTerm x).2 && (trTerm x).1.Good 0) then ((trTerm x).1, (0 : Int)) else (Tm.zero, 1)
        | _ => (Tm.zero, 1)) = (Tm.zero, 1) by
          split
          · exact absurd rfl hne
          · rfl]
      refine zV laB ?_;refine zV lar ?_;refine zV lar ?_;refine zV lar ?_;refine zV lab ?_;refine zV lab ?_;refine zV lab ?_;refine zn (zq (zQ ?_));refine zV laa ?_;refine zV laa ?_;refine zI laa ?_;refine zI lay ?_;refine zI lac ?_;refine zV laA ?_;refine zn ?_;refine zaF ?_;refine zsk (zQ ?_);refine zV laq ?_;refine zE laf ?_;refine zV lab ?_;refine zn (zre ?_)
      exact lda (by exact .inr rfl) (by exact rfl) (by exact rfl) tleaf (by exact rfl)
    | true =>
      have hone : pl.length = 1 := by have : (((trRows pl).length : Nat) : Int) = 1 := by simpa using k1
                                      omega
      match pl, hone with
      | [x], _ =>
        have htm := trTerm_a x (hb2 x (by simp))
        obtain ⟨o1, o2, o3⟩ := trTerm_ok x (by have := htok rfl; simpa [trTokL] using this)
        have hrx : (trRows [x])[0]? = some (trC x) := rfl
        have htk := htok rfl
        simp only [trTokL, List.append_nil] at htk
        dsimp only
        generalize trTerm x = q at *
        obtain ⟨qt, qb⟩ := q
        dsimp only at htm o1 o2 o3 ⊢
        refine zV laB ?_;refine zV lar ?_;refine zV lar ?_;refine zV lar ?_;refine zV lab ?_;refine zV lab ?_;refine zV lab ?_;refine zn (zq (zQ ?_));refine zV laa ?_;refine zV laa ?_;refine zI laa ?_;refine zI lay ?_;refine zI lac ?_;refine zV laA ?_;refine zn ?_;refine zcT ?_;refine zQ ?_;refine zV laa ?_
        refine zV (lap 0 rfl rfl rfl hrx (lde x)) ?_
        refine zV (lao rfl (Cut.all (lde x))) ?_
        refine zV (lal (htm) rfl ⟨_, _, rfl, LeU.of_eq rfl zo, ok_tr x, rfl⟩) ?_
        cases qb with
        | false =>
          refine zV laB ?_;refine zV las ?_;refine zV lar ?_;refine zM lah ?_;refine zE laf ?_;refine zV lab ?_;refine zn (zQ ?_);refine zV laa ?_;refine zV laa ?_;refine zs ?_;refine zs ?_;refine zV law ?_;refine zn ?_;refine zcF ?_;refine zsk (zQ ?_);refine zV laq ?_;refine zE laf ?_;refine zV lab ?_;refine zn (zre ?_)
          exact lda (by exact .inr rfl) (by exact rfl) (by exact rfl) tleaf (by exact rfl)
        | true =>
          refine zV laB ?_;refine zV las ?_;refine zV lar ?_;refine zM lah ?_;refine zE laf ?_;refine zV lab ?_;refine zn (zQ ?_);refine zV laa ?_;refine zV laa ?_;refine zI laj ?_
          refine zI (lal (isTerm_a qt 0 o1 o2 (by omega)) rfl (by refine zC7 ?_;refine zC ?_;exact rfl)) ?_
          cases hg : qt.Good 0 with
          | false =>
            refine zV laA ?_;refine zn ?_;refine zcF ?_;refine zsk (zQ ?_);refine zV laq ?_;refine zE laf ?_;refine zV lab ?_;refine zn (zre ?_)
            exact lda (by exact .inr rfl) (by exact rfl) (by exact rfl) tleaf (by exact rfl)
          | true =>
            refine zV laA ?_;refine zn ?_;refine zcT ?_;refine zQ ?_;refine zV laj ?_;refine zE laf ?_;refine zV lab ?_;refine zn (zre ?_)
            exact lda (by exact .inr rfl) (by exact rfl) (by exact rfl) (laX _) (by exact rfl)
theorem good_dp : ∀ (a : Tm) (ar ow : Int), a.good ar ow = true → TmDp a := fun a => by
  induction a using Tm.ind' with
  | h a ih =>
  intro ar ow hg
  have hA : Ty.any.deep ≤ 1048576 := by decide
  have hT : ∀ {t : Ty}, t.good 4 = true → t.deep ≤ 1048576 := fun h => Nat.le_trans (lc0 h) (by decide)
  rcases lbu hg with ⟨_, el, _, _, et⟩ | ⟨_, el, _, et⟩ | ⟨_, el, _, et⟩ | ⟨_, _, et, p, q, el, gp, gq⟩ | ⟨_, _, et, p, q, s, el, gp, gq, gs⟩ | ⟨_, _, ht, p, el, gp⟩ | ⟨_, _, ht, p, el, gp⟩
  · exact .mk (by rw [et]; exact hA) (by rw [el]; intro x h; cases h)
  · exact .mk (by rw [et]; exact hA) (by rw [el]; intro x h; cases h)
  · exact .mk (by rw [et]; exact hA) (by rw [el]; intro x h; cases h)
  · refine .mk (by rw [et]; exact hA) fun x hx => ?_
    rw [el] at hx
    simp only [List.mem_cons, List.not_mem_nil, or_false] at hx
    rcases hx with rfl | rfl
    · exact ih _ (by rw [el]; simp) _ _ gp
    · exact ih _ (by rw [el]; simp) _ _ gq
  · refine .mk (by rw [et]; exact hA) fun x hx => ?_
    rw [el] at hx
    simp only [List.mem_cons, List.not_mem_nil, or_false] at hx
    rcases hx with rfl | rfl | rfl
    · exact ih _ (by rw [el]; simp) _ _ gp
    · exact ih _ (by rw [el]; simp) _ _ gq
    · exact ih _ (by rw [el]; simp) _ _ gs
  · refine .mk (hT ht) fun x hx => ?_
    rw [el, List.mem_singleton] at hx
    subst hx
    exact ih _ (by rw [el]; simp) _ _ gp
  · refine .mk (hT ht) fun x hx => ?_
    rw [el, List.mem_singleton] at hx
    subst hx
    exact ih _ (by rw [el]; simp) _ _ gp
theorem parse_dp (s : ByteArray) (h : (parse s).2 = 0) : TmDp (parse s).1 := by
  have key : (refParse s).2 = 0 → TmDp (refParse s).1 := by
    unfold refParse
    split
    · intro h; exact absurd h (by decide)
    · dsimp only
      split
      · split
        · rename_i hg
          simp only [Bool.and_eq_true] at hg
          exact fun _ => good_dp _ 0 0 (lc6 hg.2.2)
        · intro h; exact absurd h (by decide)
      · intro h; exact absurd h (by decide)
  rw [lgc] at key
  exact key h
set_option maxHeartbeats 4000000 in
theorem runText_a (s : ByteArray) (F : Int) (o : Out) (e : Int) (h : TextIs s F o e) : ACalls Tryz.prog 17 [.one (.str s), .one (.int .i64 F)] [] (.tup [o.u, .one (.int .i64 e)]) [] := by
  obtain ⟨hok, hn⟩ := parse_ok s
  have hdp := parse_dp s
  have hp := parseTerm_a s.data.toList
  rw [ldw, lgc] at hp
  unfold TextIs at h
  generalize parse s = q at hp h hok hn hdp
  obtain ⟨a, pe⟩ := q
  simp only at hp h hok hn hdp
  refine zB Tryz.func17 ?_
  refine zQ ?_;refine zM lah ?_;refine zV lab ?_;refine zn (zQ ?_);refine zV laa ?_
  refine zV (lal hp rfl (by refine zC ?_;exact rfl)) ?_
  rcases h with ⟨h0, rfl, rfl⟩ | ⟨rfl, hr⟩
  · have h0' : (e != 0) = true := by simpa using h0
    refine zV laB ?_;refine zV las ?_;refine zV lar ?_;refine zM lah ?_;refine zE laf ?_;refine zV lab ?_;refine zn (zq (zQ ?_));refine zV laa ?_;refine zV lac ?_;refine zn ?_;refine zaT ?_;refine zQ ?_;refine zV laq ?_;refine zV laa ?_;refine zE laf ?_;refine zV lab ?_;refine zn (zre ?_)
    refine rq ?_;exact ldX (by exact .inr rfl) (by exact rfl) (by exact rfl) rfl (by exact rfl)
  · refine zV laB ?_; refine zV las ?_; refine zV lar ?_; refine zM lah ?_; refine zE laf ?_; refine zV lab ?_; refine zn (zq (zQ ?_)); refine zV laa ?_; refine zV lac ?_; refine zn ?_; refine zcF ?_; refine zsk (zQ ?_); refine zV laj ?_; refine zV laa ?_
    refine zV (lal (runTerm_a a hok (hdp rfl) (by omega) F o e hr) rfl (by refine zC7 ?_;refine zC ?_;exact rfl)) ?_
    refine zV las ?_;refine zV lar ?_;refine zE laf ?_;refine zV lab ?_;refine zn (zre ?_)
    refine rq ?_;exact ldX (by exact .inr rfl) (by exact rfl) (by exact rfl) rfl (by exact rfl)
set_option maxHeartbeats 8000000 in
theorem runTexts_a (s : ByteArray) (F : Int) : ACalls Tryz.prog 5 [.one (.str s), .one (.int .i64 F)] [] (.one (.bool true)) [] := by
  obtain ⟨o, e, ht⟩ := text_ex s F
  have he : (e == e) = true := by simp
  refine zB Tryz.func5 ?_
  refine zQ ?_;refine zV lab ?_;refine zn (zQ ?_);refine zV laa ?_;refine zV laa ?_
  refine zV (lal (rtext_a s F o e ht) rfl (by refine zC ?_;refine zC ?_;exact rfl)) ?_
  refine zV laB ?_;refine zV las ?_;refine zV lar ?_;refine zM lah ?_;refine zE laf ?_;refine zV lab ?_;refine zn (zQ ?_);refine zV laa ?_;refine zV laa ?_
  refine zV (lal (runText_a s F o e ht) rfl (by refine zC ?_;refine zC ?_;exact rfl)) ?_
  refine zV laB ?_;refine zV las ?_;refine zV lar ?_;refine zM lah ?_;refine zE laf ?_;refine zV lab ?_;refine zn (zQ ?_);refine zV laj ?_;refine zV laj ?_
  refine zV (loc_eqOut (o := o) (p := o) (by exact rfl) (by exact rfl)) ?_
  rw [outEq_refl]
  refine zV laa ?_;refine zI laa ?_;refine zI laa ?_;refine zI lac ?_;refine zV laA ?_;refine zV laa ?_
  refine zT (lal (runs_a)) ?_
  refine zV (lam true) ?_;refine zV lab ?_;refine zn (zre ?_)
  exact la1 (.inr rfl) rfl zo
end Go.Proofs.YtnflnbdlgdjfmabGreatDoor
namespace Go.Proofs.YtnflnbdlgdjfmabGreatDoor
open Go.ChangeShapes Go.WideShapes Go.ChangeAt Go.RowKit Go.Joins Go.Deep
def Old (w : World) : Nat → Prop := fun k => k < w.heap.size
section
variable {H : Type} {enc : TypeId × Value → H} {w : World} {sp : Nat → Bool} {held : Bool} {F : Nat → Prop}
end
instance : Inhabited Ty := ⟨.any⟩
mutual
def Ty.size : Ty → Nat
  | .mk _ l => 1 + sizeL l
def sizeL : List Ty → Nat
  | [] => 0
  | t :: l => Ty.size t + sizeL l
end
theorem cells_int : Tryz.prog.cellsOf 3 = 1 := by kernel_rfl
section
variable {H : Type} {enc : TypeId × Value → H} {w : World} {sp : Nat → Bool} {held : Bool}
end
instance : Inhabited Tm := ⟨.mk 0 0 .any .any []⟩
section
variable {H : Type} {enc : TypeId × Value → H} {w : World} {sp : Nat → Bool} {held : Bool}
end
def ρ0 : Nat → Lc := fun _ => ⟨none, 0, 0⟩
structure GlobIn (W : World) : Prop where
  gl : ∀ g c, glob g = some c → relK (Old W) W c (.pointer (some ⟨g, 0, none⟩))
  gx : ∀ g p, globX g = some p → ∃ cs t fz, p cs ∧ W.heap[g]? = some (.cells cs t fz)
theorem hrel_old {W : World} (hg : GlobIn W) : HRel (Old W) ρ0 (ofL []) W :=
  ⟨fun b x h => (by cases h), fun b b' g h => absurd rfl h, fun b g h => absurd rfl h, fun k h => h, fun b x h => (by cases h), hg.gl, fun g p h => by
    obtain ⟨cs, t, fz, hp, hh⟩ := hg.gx g p h
    exact ⟨(Array.getElem?_eq_some_iff.1 hh).1, cs, t, fz, hp, hh⟩⟩
theorem law_calls {f : FuncId} {us : List U} {vals : List Value} {W : World} (hc : ACalls Tryz.prog f us [] (.one (.bool true)) []) (hg : GlobIn W) (ha : All2 (fun u v => relU (Old W) ρ0 W u v ∧ okU (ofL []) u) us vals) :
    Calls Tryz.prog f vals.toArray W fun e W' => e = .returned (.bool true) ∧ Below W.heap.size W W' := by
  refine (hc.2 (Old W) ρ0 W vals (hrel_old hg) ha).mono fun e W' ⟨v, F', ρ', he, hM, hr, _⟩ => ?_
  have hr : v = .bool true := hr
  subst hr
  exact ⟨he, hM.os, hM.tape, hM.output, hM.size, fun k hk => hM.kept k hk fun b hb => absurd rfl hb⟩
set_option maxRecDepth 100000 in
theorem open_Int {H : Type} {enc : TypeId × Value → H} {W : World} {r : Reach} {b0 : Nat} {v : Value} {d : DataW H} {p : List MemPlace} (hv : Value.okWide Tryz.prog W r b0 3 v)
    (h : DataW.Trod enc Tryz.prog W 0 (fun _ => true) true 3 v d p) : ∃ n : Int, v = .int .i64 n ∧ -9223372036854775808 ≤ n ∧ n ≤ 9223372036854775807 := by
  obtain ⟨n, rfl, _, _, hw⟩ := open_int Tryz.underlying3 hv h
  simp only [Lit.wf, Bool.and_eq_true, decide_eq_true_eq] at hw
  have h8 : IntKind.i64.min = -9223372036854775808 := by decide
  have h9 : IntKind.i64.max = 9223372036854775807 := by decide
  exact ⟨n, rfl, by rw [← h8]; exact hw.1, by rw [← h9]; exact hw.2⟩
theorem laidOutP : laidOutB Tryz.prog = true := by kernel_rfl
theorem readable_int : Tryz.prog.readableRec 3 = true := by kernel_rfl
theorem rowed_int : 3 < Tryz.prog.types.size := of_decide_eq_true (by kernel_rfl)
theorem again_Int {H : Type} {enc : TypeId × Value → H} {W W' : World} {v : Value} {d : DataW H} {p : List MemPlace} (hx : Below W.heap.size W W') (h : DataW.Trod enc Tryz.prog W 0 (fun _ => true) true 3 v d p) (hlt : ∀ x ∈ p, x.block < W.heap.size) :
    DataW.Trod enc Tryz.prog W' 0 (fun b => decide (b < W.heap.size)) true 3 v d p := Below.trod laidOutP readable_int rowed_int h hx hlt
theorem law_post {H : Type} {enc : TypeId × Value → H} {f : Func} {s : ChangeSpec} {W W' : World} {args : Array Value} {ds : List (DataW H)} {before pa : List MemPlace}
    (hW : DataW.Whole enc Tryz.prog f.params.toList s.vars false W args.toList ds [] before) (hvars : s.vars = []) (hr : f.resultTypes = #[4]) (hs : s.fn H (ds ++ []) = { results := [.lit (.bool true)], args := ds })
    (hx : Below W.heap.size W W') (hargs : DataW.TrodAll enc Tryz.prog W' 0 (fun b => decide (b < W.heap.size)) true f.params.toList args.toList ds pa) :
    s.post enc Tryz.prog f false true false false W args (.bool true) W' := by
  refine ⟨ds, [], before, [], pa, [], hW, ?_, by rw [hs];exact hargs, ?_, Below.frame hx _, fun h => by cases h⟩
  · rw [hs, hr]
    exact trodAll_cons_mk (shut_bool Tryz.underlying4 _) trodAll_mk0
  · rw [hvars, hs]
    rfl
theorem own : ownKnob Tryz.prog.godebug = none := by kernel_rfl
def strData {H : Type} (zs : List (List UInt8)) : DataW H := .agg (zs.map fun z => .lit (.string z))
theorem cells_of_strs {H : Type} {enc : TypeId × Value → H} {P : Program} {w : World} {base : Nat} {sp : Nat → Bool} {held : Bool} {fuel : Nat} {t e : TypeId} {n : Nat} {cs : List Value} {zs : List (List UInt8)} {p : List MemPlace}
    (ht : P.underlying t = some (.array n e)) (he : P.underlying e = some .string) (hce : P.cellsOf e = 1) (hct : P.cellsOf t = n)
    (h : DataW.trod enc P w base sp held fuel t cs = some (strData zs, p)) : cs = zs.map fun z => Value.string ⟨z.toArray⟩ := by
  cases fuel with
  | zero => simp [DataW.trod] at h
  | succ fuel =>
    simp only [DataW.trod, ht, hce, hct, Nat.mul_one] at h
    split at h
    · rename_i hl
      obtain ⟨xs, hm, hx⟩ := Option.map_eq_some_iff.1 h
      have hxs : xs.map (·.1) = zs.map fun z => (DataW.lit (.string z) : DataW H) := by
        have := congrArg Prod.fst hx
        simpa [strData] using this
      have hxl : xs.length = n := by simpa using Lib.mapM_length hm
      have hzl : zs.length = n := by
        have := congrArg List.length hxs
        simp at this
        omega
      apply List.ext_getElem?
      intro i
      by_cases hi : i < n
      · obtain ⟨b, hb, hf⟩ := Lib.mapM_at hm i i (by simp [hi])
        obtain ⟨s, hc, rfl, _⟩ := DataW.trod_string he hf
        have h1 : cs[i]? = some (.string s) := by
          have := congrArg (·[0]?) hc
          simpa [List.getElem?_take, List.getElem?_drop] using this
        have h2 : (xs.map (·.1))[i]? = some (DataW.lit (.string s.data.toList) : DataW H) := by simp [hb]
        rw [hxs] at h2
        simp only [List.getElem?_map, Option.map_eq_some_iff, DataW.lit.injEq, Lit.string.injEq] at h2
        obtain ⟨z', hz', rfl⟩ := h2
        simp [h1, hz']
      · rw [List.getElem?_eq_none (by omega), List.getElem?_eq_none (by simp; omega)]
    · cases h
theorem lfr {P : Program} {W : World} {name : String} {zs : List (List UInt8)} {rest : List (String × DataW Unit)} {g : Nat} {t e : TypeId} {n : Nat}
    (hg : P.globalNamed name = some g) (hty : (P.globals[g]?).map (·.type) = some t) (ht : P.underlying t = some (.array n e)) (he : P.underlying e = some .string) (hce : P.cellsOf e = 1) (hct : P.cellsOf t = n)
    (h : laidMet P ((name, strData zs) :: rest) W) : W.var? P name = some (zs.map fun z => Value.string ⟨z.toArray⟩).toArray := by
  obtain ⟨ps, ⟨g', t', cs, fuel, p, q, hg', ht', hvar, hd, _, _⟩, _⟩ := h
  obtain rfl := Option.some.inj (hg.symm.trans hg')
  obtain rfl := Option.some.inj (hty.symm.trans ht')
  rw [hvar, ← cells_of_strs ht he hce hct hd]
theorem lcu {P : Program} {W : World} {name : String} {g : Nat} {cs : Array Value} (hg : P.globalNamed name = some g) (h : W.var? P name = some cs) : ∃ t fz, W.heap[g]? = some (.cells cs t fz) := by
  unfold World.var? at h
  rw [hg] at h
  simp only [Option.bind_some] at h
  split at h
  · rename_i hh; cases h; exact ⟨_, _, hh⟩
  · cases h
theorem lfd {P : Program} {W : World} {name : String} {g : Nat} {cs : Array Value} {l : List C} (hg : P.globalNamed name = some g) (h : W.var? P name = some cs) (hr : All2 (relK (Old W) W) l cs.toList) (h0 : 0 < l.length) : relK (Old W) W (fpo l 0) (.pointer (some ⟨g, 0, none⟩)) := by
  obtain ⟨t, fz, hh⟩ := lcu hg h
  refine ⟨g, 0, rfl, (Array.getElem?_eq_some_iff.1 hh).1, fun j hj => ?_⟩
  have hj : j < l.length := by simpa using hj
  obtain ⟨u, hu, hk⟩ := hr.get j l[j] (List.getElem?_eq_getElem hj)
  refine ⟨u, ?_, ?_⟩
  · have := World.var?_cell hg h j
    rw [Nat.zero_add, this]; simpa using hu
  · simp only [rowF, Nat.zero_add, List.getD_eq_getElem?_getD, List.getElem?_eq_getElem hj, Option.getD_some]; exact hk
abbrev laidT : List (String × DataW Unit) := Rows.termParsesUptoRow.laid
theorem hArr : Tryz.prog.cellsOf 97 = 10 := by kernel_rfl
theorem hArrS : Tryz.prog.cellsOf 95 = 10 := by kernel_rfl
theorem hArrK : Tryz.prog.cellsOf 137 = 4 := by kernel_rfl
theorem hArrP : Tryz.prog.cellsOf 215 = 20 := by kernel_rfl
theorem hU64 : Tryz.prog.cellsOf 196 = 1 := by kernel_rfl
theorem hStr : Tryz.prog.cellsOf 9 = 1 := by kernel_rfl
theorem hErr : Tryz.prog.cellsOf 213 = 1 := by kernel_rfl
theorem gAr : Tryz.prog.globalNamed "chaperone/term.arity" = some 1 := by kernel_rfl
theorem gWo : Tryz.prog.globalNamed "chaperone/term.words" = some 0 := by kernel_rfl
theorem gKi : Tryz.prog.globalNamed "chaperone/term.kinds" = some 2 := by kernel_rfl
theorem gPo : Tryz.prog.globalNamed "internal/strconv.uint64pow10" = some 10 := by kernel_rfl
theorem gSp : Tryz.prog.globalNamed "strings.asciiSpace" = some 3 := by kernel_rfl
theorem hArrSp : Tryz.prog.cellsOf 148 = 256 := by kernel_rfl
theorem hU8 : Tryz.prog.cellsOf 5 = 1 := by kernel_rfl
theorem gES : Tryz.prog.globalNamed "strconv.ErrSyntax" = some 8 := by kernel_rfl
theorem gER : Tryz.prog.globalNamed "strconv.ErrRange" = some 9 := by kernel_rfl
theorem star : "*" ++ "errors.errorString" = "*errors.errorString" := by decide
theorem rowErr (u : TypeId) (h : Tryz.prog.typeName? 3 u = some "*errors.errorString") : u = 211 :=
  typeName_ptr_named (nm := "errors.errorString") (by rw [star]; kernel_rfl) (by kernel_rfl) (by decide) u (by rw [star]; exact h)
theorem max_in {W : World} (hsh : W.ShapedOpen Tryz.prog) : ∃ cs t fz, (∃ m, cs = #[.int .i64 m]) ∧ W.heap[5]? = some (.cells cs t fz) := by
  obtain ⟨cs, hh, hs, _⟩ := hsh.1 5 #[.int .i64 0] 3 (of_decide_eq_true (by kernel_rfl)) (by kernel_rfl)
  obtain ⟨m, hm⟩ := cell_of_shapedOpen_int (zero := #[.int .i64 0]) (t := 3) (g := 5) hsh (of_decide_eq_true (by kernel_rfl)) (by kernel_rfl) rfl (by kernel_rfl) (by kernel_rfl) Tryz.underlying3
  have hm0 : cs[0]? = some (.int .i64 m) := by simpa [World.cell?, hh] using hm
  refine ⟨cs, _, _, ⟨m, ?_⟩, hh⟩
  have hs : cs.size = 1 := hs
  apply Array.ext_getElem?
  intro i
  match i with
  | 0 => simpa using hm0
  | i + 1 => rw [Array.getElem?_eq_none (by omega), Array.getElem?_eq_none (by simp)]
set_option maxRecDepth 100000 in
theorem glob_in {W : World} (hL : laidMetH Tryz.prog laidT W) (hsh : W.ShapedOpen Tryz.prog) : GlobIn W := by
  have h0 : laidMet Tryz.prog laidT W := hL
  have h2 := h0.tail.tail
  have h4 := h2.tail.tail
  have h5 := h4.tail
  have h6 := h5.tail
  have h7 := h6.tail
  have h8 := h7.tail
  have h9 := h8.tail
  have h10 := h9.tail
  have h7' : laidMet Tryz.prog (("strings.asciiSpace", Lib.tabData .u8 Lib.asciiSpaceTab) :: laidT.drop 8) W := by
    rw [show (("strings.asciiSpace", Lib.tabData .u8 Lib.asciiSpaceTab) :: laidT.drop 8 : List (String × DataW Unit)) = laidT.drop 7 by kernel_rfl]
    exact h7
  have vS0 := Lib.tabIs_of_head gSp (t := 148) (by kernel_rfl) Tryz.underlying148 Tryz.underlying5 hU8 hArrSp h7'
  have vS : W.var? Tryz.prog "strings.asciiSpace" = some spaceV := by
    unfold Lib.TabIs at vS0
    rw [vS0, space_tab]
  have vP0 := Lib.tabIs_of_head (k := .u64) (zs := [1, 10, 100, 1000, 10000, 100000, 1000000, 10000000, 100000000, 1000000000, 10000000000, 100000000000, 1000000000000, 10000000000000, 100000000000000, 1000000000000000, 10000000000000000, 100000000000000000, 1000000000000000000, 10000000000000000000]) gPo (t := 215) (by kernel_rfl) Tryz.underlying215 Tryz.underlying196 hU64 hArrP h2
  have vP : W.var? Tryz.prog "internal/strconv.uint64pow10" = some pow10V := by
    unfold Lib.TabIs at vP0
    rw [vP0]
    simp [pow10V]
  obtain ⟨a4, s4, v4, _⟩ := laid_sentinel h4 gER (ti := 131) (by kernel_rfl) Tryz.underlying131 rowErr Tryz.underlying211 Tryz.underlying213 rfl rfl Tryz.underlying9 hErr hStr
  obtain ⟨a5, s5, v5, _⟩ := laid_sentinel h5 gES (ti := 131) (by kernel_rfl) Tryz.underlying131 rowErr Tryz.underlying211 Tryz.underlying213 rfl rfl Tryz.underlying9 hErr hStr
  have vA : W.var? Tryz.prog "chaperone/term.arity" = some #[.int .i64 0, .int .i64 0, .int .i64 0, .int .i64 0, .int .i64 2, .int .i64 2, .int .i64 3, .int .i64 1, .int .i64 2, .int .i64 1] := Lib.tabIs_of_head (zs := [0, 0, 0, 0, 2, 2, 3, 1, 2, 1]) gAr (t := 97) (by kernel_rfl) Tryz.underlying97 Tryz.underlying3 cells_int hArr h8
  have vW := lfr (zs := [[], [], [], [], [97, 100, 100], [108, 101, 115, 115], [105, 102], [102, 117, 110], [99, 97, 108, 108], [97, 115]]) gWo (t := 95) (by kernel_rfl) Tryz.underlying95 Tryz.underlying9 hStr hArrS h9
  have vK := lfr (zs := [[97, 110, 121], [110, 117, 109], [116, 114, 117, 116, 104], [116, 111]]) gKi (t := 137) (by kernel_rfl) Tryz.underlying137 Tryz.underlying9 hStr hArrK h10
  refine ⟨fun g c hgc => ?_, fun g p hgp => ?_⟩
  · unfold glob at hgc
    cases hb : Nat.beq g 1 with
    | true =>
      rw [hb] at hgc; cases hgc
      rw [Nat.eq_of_beq_eq_true hb]
      exact lfd gAr vA ⟨rfl, rfl, rfl, rfl, rfl, rfl, rfl, rfl, rfl, rfl, zo⟩ (by decide)
    | false =>
    rw [hb] at hgc
    cases hb1 : Nat.beq g 0 with
    | true =>
      rw [hb1] at hgc; cases hgc
      rw [Nat.eq_of_beq_eq_true hb1]
      exact lfd gWo vW ⟨rfl, rfl, rfl, rfl, rfl, rfl, rfl, rfl, rfl, rfl, zo⟩ (by decide)
    | false =>
    rw [hb1] at hgc
    cases hb2 : Nat.beq g 2 with
    | true =>
      rw [hb2] at hgc; cases hgc
      rw [Nat.eq_of_beq_eq_true hb2]
      exact lfd gKi vK ⟨rfl, rfl, rfl, rfl, zo⟩ (by decide)
    | false => rw [hb2] at hgc; cases hgc
  · unfold globX at hgp
    cases hb : Nat.beq g 5 with
    | true =>
      rw [hb] at hgp; cases hgp
      rw [Nat.eq_of_beq_eq_true hb]
      exact max_in hsh
    | false =>
    rw [hb] at hgp
    cases hb1 : Nat.beq g 8 with
    | true =>
      rw [hb1] at hgp; cases hgp
      rw [Nat.eq_of_beq_eq_true hb1]
      obtain ⟨t, fz, hh⟩ := lcu gES v5
      exact ⟨_, t, fz, ⟨_, _, rfl⟩, hh⟩
    | false =>
    rw [hb1] at hgp
    cases hb2 : Nat.beq g 9 with
    | true =>
      rw [hb2] at hgp; cases hgp
      rw [Nat.eq_of_beq_eq_true hb2]
      obtain ⟨t, fz, hh⟩ := lcu gER v4
      exact ⟨_, t, fz, ⟨_, _, rfl⟩, hh⟩
    | false =>
    rw [hb2] at hgp
    cases hb3 : Nat.beq g 10 with
    | true =>
      rw [hb3] at hgp; cases hgp
      rw [Nat.eq_of_beq_eq_true hb3]
      obtain ⟨t, fz, hh⟩ := lcu gPo vP
      exact ⟨_, t, fz, rfl, hh⟩
    | false =>
    rw [hb3] at hgp
    cases hb4 : Nat.beq g 3 with
    | true =>
      rw [hb4] at hgp; cases hgp
      rw [Nat.eq_of_beq_eq_true hb4]
      obtain ⟨t, fz, hh⟩ := lcu gSp vS
      exact ⟨_, t, fz, rfl, hh⟩
    | false => rw [hb4] at hgp; cases hgp
set_option maxRecDepth 100000 in
theorem open_Str {H : Type} {enc : TypeId × Value → H} {W : World} {r : Reach} {b0 : Nat} {v : Value} {d : DataW H} {p : List MemPlace} (hv : Value.okWide Tryz.prog W r b0 9 v)
    (h : DataW.Trod enc Tryz.prog W 0 (fun _ => true) true 9 v d p) (hb : Rows.uptoBulk d ≤ 1048576) : ∃ s : ByteArray, v = .string s ∧ s.size ≤ 1048576 := by
  obtain ⟨s, rfl, rfl, _, _⟩ := Go.ChangeMaps.open_string Tryz.underlying9 hv h
  refine ⟨s, rfl, ?_⟩
  simp only [Rows.uptoBulk] at hb
  have : s.data.toList.length = s.size := Array.length_toList
  omega
theorem readable_Str : Tryz.prog.readableRec 9 = true := by kernel_rfl
theorem rowed_Str : 9 < Tryz.prog.types.size := of_decide_eq_true (by kernel_rfl)
theorem again_Str {H : Type} {enc : TypeId × Value → H} {W W' : World} {v : Value} {d : DataW H} {p : List MemPlace} (hx : Below W.heap.size W W') (h : DataW.Trod enc Tryz.prog W 0 (fun _ => true) true 9 v d p) (hlt : ∀ x ∈ p, x.block < W.heap.size) :
    DataW.Trod enc Tryz.prog W' 0 (fun b => decide (b < W.heap.size)) true 9 v d p := Below.trod laidOutP readable_Str rowed_Str h hx hlt
noncomputable def laidWorld (os : Os) : World := World.laidAll Tryz.prog os laidT
theorem laid_met (os : Os) (args : Array Value) : laidMet Tryz.prog laidT ((laidWorld os).forCall (fun _ _ => 0) ⟨#[], args, []⟩).memory := laidMet_laidAll args (by kernel_rfl) (by kernel_rfl)
end Go.Proofs.YtnflnbdlgdjfmabGreatDoor
