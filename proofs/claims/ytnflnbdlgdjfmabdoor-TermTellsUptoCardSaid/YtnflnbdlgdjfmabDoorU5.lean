/-
  The walk of term. Conditions: the words are not too long.
  The walks of typed, show, Print. Conditions: those typed in each theorem.
  The walks of the reference's text of a term. Conditions: those typed in each theorem.
  The walks of Parse and Text. Conditions: those typed in each theorem.
  The walks of PrintTerm, terms, TermTells. Conditions: those typed in each theorem.
  Arguments that are types, as they lie in memory; what a law's row asks behind the call. Conditions: those typed in each theorem.
  Arguments that are terms, as they lie in memory. Conditions: those typed in each theorem.
  What is not large is not deep. Conditions: those typed in each theorem.
  A law's contract, as its row asks for it: arguments that are read, a table that is listed. Conditions: those typed in each theorem.
  The row's listed variables. Conditions: those typed in each theorem.
-/
import Derived.Test.YtnflnbdlgdjfmabDoorU4
import Derived.Lib.SplitLaws
import Derived.Test.YtnflnbdlgdjfmabDoorRows
import Derived.ProofKit
import Derived.OpenShut
import Derived.Lib.SmallJoins
import Derived.Deep.Slices
import Derived.Deep.DeepHandedRow
import Derived.Lib.LaidTab
import Derived.Lay
import Derived.Stop.LaidErr
import Derived.Shelf.Vars
import Derived.Deep.DeepWitnessRowRef
import Derived.LaidLaws
namespace Go.Proofs.YtnflnbdlgdjfmabDoor
open Go.RowKit
set_option linter.unusedVariables false
set_option linter.unusedSimpArgs false
set_option maxRecDepth 100000
attribute [local irreducible] RunL AW LocOp ACalls Gh
/-- No word is too long. -/
def RdOk (r : Rd) : Prop := ∀ w ∈ r.ws, w.size ≤ 4294967296
theorem next_okR {r : Rd} (h : RdOk r) : RdOk r.next.2 ∧ r.next.1.size ≤ 4294967296 := by
  unfold Rd.next
  split
  · exact ⟨fun w hw => (by cases hw), by show (0 : Nat) ≤ _; decide⟩
  · rename_i w ws e
    exact ⟨fun x hx => h x (by rw [e]; exact List.mem_cons_of_mem _ hx), h w (by rw [e]; exact List.mem_cons_self ..)⟩
theorem close_okR {r : Rd} (h : RdOk r) : RdOk r.close := (next_okR h).1
theorem readK_okR : ∀ (d : Nat) (r : Rd), RdOk r → RdOk (readK d r).2
  | 0, r, h => by
    simp only [readK]
    split
    · exact (next_okR (next_okR h).1).1
    · exact (next_okR h).1
  | d + 1, r, h => by
    have hq : RdOk (if sEq r.next.1 sLp = true then r.next.2.next else r.next).2 := by
      split
      · exact (next_okR (next_okR h).1).1
      · exact (next_okR h).1
    simp only [readK]
    generalize (if sEq r.next.1 sLp = true then r.next.2.next else r.next) = q at hq
    cases kFrom q.1 (sEq r.next.1 sLp) 4 with
    | none => exact hq
    | some k =>
      simp only
      split
      · exact close_okR (readK_okR d _ (readK_okR d _ hq))
      · exact hq
theorem number_okR {r : Rd} {s : ByteArray} (h : RdOk r) : RdOk (r.number s).2 := by
  unfold Rd.number; split <;> exact h
theorem readN_okR {f : Rd → Tm × Rd} (hf : ∀ r, RdOk r → RdOk (f r).2) : ∀ (n : Nat) (r : Rd), RdOk r → RdOk (readN f n r).2
  | 0, r, h => h
  | n + 1, r, h => readN_okR hf n _ (hf r h)
theorem readT_okR : ∀ (n : Nat) (r : Rd), RdOk r → RdOk (readT n r).2
  | 0, r, h => (next_okR h).1
  | n + 1, r, h => by
    have h1 := (next_okR h).1
    simp only [readT]
    split
    · exact h1
    split
    · exact h1
    split
    · exact number_okR h1
    split
    · exact number_okR h1
    split
    · exact (next_okR h1).1
    · simp only [readB]
      refine close_okR (readN_okR (readT_okR n) _ _ ?_)
      split
      · exact readK_okR 4 _ (next_okR h1).1
      · exact (next_okR h1).1
theorem readN_snoc (f : Rd → Tm × Rd) : ∀ (n : Nat) (r : Rd), readN f (n + 1) r = ((readN f n r).1 ++ [(f (readN f n r).2).1], (f (readN f n r).2).2)
  | 0, r => rfl
  | n + 1, r => by
    show ((f r).1 :: (readN f (n + 1) (f r).2).1, (readN f (n + 1) (f r).2).2) = _
    rw [readN_snoc f n (f r).2]; rfl
theorem words_get {i : Nat} (h : i < 10) : wordsC[i]? = some (.str (wordsL.getD i sNil)) := by
  match i, h with
  | 0, _ | 1, _ | 2, _ | 3, _ | 4, _ | 5, _ | 6, _ | 7, _ | 8, _ | 9, _ => rfl
theorem arity_get {i : Nat} (h : i < 10) : arityC[((i : Nat) : Int).toNat * 1]? = some (.int .i64 (arity i)) := by
  match i, h with
  | 0, _ | 1, _ | 2, _ | 3, _ | 4, _ | 5, _ | 6, _ | 7, _ | 8, _ | 9, _ => rfl
theorem arity_le {i : Nat} (h : i < 10) : ∃ a : Nat, arity i = a ∧ a ≤ 3 := by
  match i, h with
  | 0, _ | 1, _ | 2, _ | 3, _ | 4, _ | 5, _ | 6, _ | 7, _ | 8, _ | 9, _ => exact ⟨_, rfl, by decide⟩
theorem wFrom_step {s : ByteArray} {i : Nat} (h : i < 10) : wFrom s (10 - i) = if wAt s i then some i else wFrom s (10 - (i + 1)) := by
  obtain ⟨n, hn⟩ : ∃ n, 10 - i = n + 1 := ⟨9 - i, by omega⟩
  rw [hn, show 10 - (i + 1) = n by omega]
  simp only [wFrom]
  rw [show 9 - n = i by omega]
theorem hash_size {s : ByteArray} (h : Lib.hasPrefix s.data.toList sHash.data.toList = true) : 1 ≤ s.size := by
  unfold Lib.hasPrefix at h
  have := List.IsPrefix.length_le (List.isPrefixOf_iff_prefix.1 h)
  rw [Array.length_toList] at this
  exact this
/-- One term is answered, the reader as it is. -/
theorem ret_tm {P : Program} {x : Tmp} {tx : TypeId} {bx : Nat} {e : Exit} {t : Nat → U} {h : Nat → Option Blk} {r : Rd} {a : Tm} {l k : List C} {fz : List Nat} [T : TAgg P tx 7] (he : e = .normal ∨ e = .ret) (hx : t x = .one (.ptr bx 0)) (hbx : h bx = some (.obj k)) (hfz : AllP (ClosedAt h) fz) (hd : disj fz [1000] = true) (hk : All2 (WkC h fz []) k a.c) (hb : h 1000 = some (.obj l)) (hl : All2 (WkC h fz []) l r.c) : RetQ P #[.cell x tx] a.u [(1000, .obj r.c)] e t h := by
  have hlen : k.length = 7 := hk.length
  exact ⟨he, [.agg k], ⟨⟨bx, k, hx, hbx, .inl ⟨7, T, hlen, rfl⟩⟩, trivial⟩, ⟨trivial, trivial⟩, .agg k, rfl, fz, hfz, hk, ⟨⟨_, hb, hl⟩, trivial⟩, hd, ⟨trivial, trivial, trivial, trivial, trivial, trivial, trivial, trivial⟩, ⟨⟨trivial, trivial, trivial⟩, trivial⟩⟩
theorem tleaf {h : Nat → Option Blk} {k n : Int} : All2 (WkC h [] []) [.int .i64 k, .int .i64 n, .int .i64 0, .nilsl, .int .i64 0, .nilsl, .nilsl] (Tm.mk k n .any .any []).c := ⟨.le (.refl _), .le (.refl _), .le (.refl _), .le (.nil _), .le (.refl _), .le (.nil _), .le (.nil _), trivial⟩
set_option maxHeartbeats 40000000 in
theorem term_a : ∀ (n : Nat), n ≤ 40 → ∀ (r : Rd), RdOk r → ACalls Tryd.prog 31 [.one (.ptr 1000 0), .one (.int .i64 (n : Int))] [(1000, .obj (Rd.c (r)))] (readT n r).1.u [(1000, .obj (Rd.c ((readT n r).2)))] := by
  intro n
  induction n with
  | zero =>
    intro hn r hr
    refine acalls_of_body Tryd.func31 rfl (by kernel_rfl) (Nat.le_of_ble_eq_true rfl) (by exact ⟨⟨rfl, trivial⟩, trivial⟩) (by simp [namesL]) ?_
    refine AW.seq ?_; refine AW.region (by kernel_rfl) ?_; refine RunL.mem (by exact rfl) (loc_allocD rfl rfl) ?_; refine RunL.nil ?_; refine AW.seq ?_; refine AW.region (by kernel_rfl) ?_; refine RunL.val (by exact rfl) (loc_moveC rfl) ?_
    refine RunL.many (by exact rfl) (loc_funE (next_a (r)) rfl (by refine ⟨_, _, rfl, (by exact LeU.of_eq rfl trivial), (by exact Exists.intro _ rfl), ?_⟩; exact rfl) (by exact ⟨rfl, trivial⟩) (by exact rfl) (by simp [namesL]) (by exact ⟨⟨trivial, trivial, trivial⟩, trivial⟩)) ?_
    cases hb : r.next.2.bad with
    | true =>
      refine RunL.val (by exact rfl) (loc_assignC rfl) ?_; refine RunL.nil ?_; refine AW.seq ?_; refine AW.block ?_; refine AW.seq ?_; refine AW.region (by kernel_rfl) ?_; refine RunL.val (by exact rfl) (loc_moveC rfl) ?_; refine RunL.val (by exact rfl) (loc_nilCheck rfl rfl) ?_; refine RunL.val (by exact rfl) (loc_fieldAddr rfl) ?_; refine RunL.val (by exact rfl) (loc_load rfl rfl rfl) ?_; refine RunL.val (by exact rfl) (loc_moveC rfl) ?_; refine RunL.skip (.inl ⟨_, _, rfl, rfl, guard_eq true (by assumption) rfl⟩) ?_; refine RunL.skip (.inl ⟨_, _, rfl, rfl, guard_eq true (by assumption) rfl⟩) ?_; refine RunL.val (by exact rfl) (loc_pickI true (by assumption) rfl rfl) ?_; refine RunL.val (by exact rfl) (loc_assignC rfl) ?_; refine RunL.nil ?_; refine AW.condT (by exact rfl) ?_; refine AW.seq ?_; refine AW.region (by kernel_rfl) ?_; refine RunL.val (by exact rfl) (loc_moveC rfl) ?_; refine RunL.val (by exact rfl) (loc_nilCheck rfl rfl) ?_; refine RunL.val (by exact rfl) (loc_fieldAddr rfl) ?_; refine RunL.eff (by exact rfl) (loc_store (by exact rfl) (by exact rfl) (by exact rfl) (by exact rfl) (by exact rfl) (by exact Nat.le_of_ble_eq_true rfl) (by exact rfl)) ?_; refine RunL.nil ?_; refine AW.seq ?_; refine AW.region (by kernel_rfl) ?_; refine RunL.val (by exact rfl) (loc_build (by exact rfl) (by exact Cut.all (by exact rfl)) (by exact rfl)) ?_; refine RunL.eff (by exact rfl) (loc_storeW rfl rfl rfl rfl (by exact rfl) (by exact rfl)) ?_; refine RunL.nil ?_; refine AW.ret ?_
      refine rq ?_
      exact ret_tm (by exact .inr rfl) (by exact rfl) (by exact rfl) (fz := []) trivial rfl tleaf (by exact rfl) (by exact wkRow_refl _)
    | false =>
      refine RunL.val (by exact rfl) (loc_assignC rfl) ?_; refine RunL.nil ?_; refine AW.seq ?_; refine AW.block ?_; refine AW.seq ?_; refine AW.region (by kernel_rfl) ?_; refine RunL.val (by exact rfl) (loc_moveC rfl) ?_; refine RunL.val (by exact rfl) (loc_nilCheck rfl rfl) ?_; refine RunL.val (by exact rfl) (loc_fieldAddr rfl) ?_; refine RunL.val (by exact rfl) (loc_load rfl rfl rfl) ?_; refine RunL.val (by exact rfl) (loc_moveC rfl) ?_; refine RunL.val (by exact .inl ⟨_, _, rfl, rfl, guard_eq false (by assumption) rfl⟩) (loc_moveC rfl) ?_; refine RunL.val (by exact .inl ⟨_, _, rfl, rfl, guard_eq false (by assumption) rfl⟩) (loc_binInt rfl rfl rfl) ?_; refine RunL.val (by exact rfl) (loc_pickI false (by assumption) rfl rfl) ?_; refine RunL.val (by exact rfl) (loc_assignC rfl) ?_; refine RunL.nil ?_; refine AW.condT (by exact rfl) ?_; refine AW.seq ?_; refine AW.region (by kernel_rfl) ?_; refine RunL.val (by exact rfl) (loc_moveC rfl) ?_; refine RunL.val (by exact rfl) (loc_nilCheck rfl rfl) ?_; refine RunL.val (by exact rfl) (loc_fieldAddr rfl) ?_; refine RunL.eff (by exact rfl) (loc_store (by exact rfl) (by exact rfl) (by exact rfl) (by exact rfl) (by exact rfl) (by exact Nat.le_of_ble_eq_true rfl) (by exact rfl)) ?_; refine RunL.nil ?_; refine AW.seq ?_; refine AW.region (by kernel_rfl) ?_; refine RunL.val (by exact rfl) (loc_build (by exact rfl) (by exact Cut.all (by exact rfl)) (by exact rfl)) ?_; refine RunL.eff (by exact rfl) (loc_storeW rfl rfl rfl rfl (by exact rfl) (by exact rfl)) ?_; refine RunL.nil ?_; refine AW.ret ?_
      refine rq ?_
      exact ret_tm (by exact .inr rfl) (by exact rfl) (by exact rfl) (fz := []) trivial rfl tleaf (by exact rfl) (by exact wkRow_refl _)
  | succ n ih =>
    intro hn r hr
    have ih := ih (by omega)
    have ih2 : ∀ (r : Rd), RdOk r → ACalls Tryd.prog 31 [.one (.ptr 1000 0), .one (.int .i64 (((n + 1 : Nat) : Int) - 1))] [(1000, .obj (Rd.c (r)))] (readT n r).1.u [(1000, .obj (Rd.c ((readT n r).2)))] := fun r hr => by
      rw [show (((n + 1 : Nat) : Int) - 1) = (n : Int) by omega]; exact ih r hr
    have hz : ((((n + 1 : Nat)) : Int) == 0) = false := by rw [beq_eq_false_iff_ne]; omega
    obtain ⟨hr1, hs1⟩ := next_okR hr
    obtain ⟨hr2, hs2⟩ := next_okR hr1
    refine acalls_of_body Tryd.func31 rfl (by kernel_rfl) (Nat.le_of_ble_eq_true rfl) (by exact ⟨⟨rfl, trivial⟩, trivial⟩) (by simp [namesL]) ?_
    refine AW.seq ?_; refine AW.region (by kernel_rfl) ?_; refine RunL.mem (by exact rfl) (loc_allocD rfl rfl) ?_; refine RunL.nil ?_; refine AW.seq ?_; refine AW.region (by kernel_rfl) ?_; refine RunL.val (by exact rfl) (loc_moveC rfl) ?_
    refine RunL.many (by exact rfl) (loc_funE (next_a (r)) rfl (by refine ⟨_, _, rfl, (by exact LeU.of_eq rfl trivial), (by exact Exists.intro _ rfl), ?_⟩; exact rfl) (by exact ⟨rfl, trivial⟩) (by exact rfl) (by simp [namesL]) (by exact ⟨⟨trivial, trivial, trivial⟩, trivial⟩)) ?_
    cases hb : r.next.2.bad with
    | true =>
      rw [show readT (n + 1) r = (Tm.zero, r.next.2.fail) by simp only [readT]; rw [hb]; rfl]
      refine RunL.val (by exact rfl) (loc_assignC rfl) ?_; refine RunL.nil ?_; refine AW.seq ?_; refine AW.block ?_; refine AW.seq ?_; refine AW.region (by kernel_rfl) ?_; refine RunL.val (by exact rfl) (loc_moveC rfl) ?_; refine RunL.val (by exact rfl) (loc_nilCheck rfl rfl) ?_; refine RunL.val (by exact rfl) (loc_fieldAddr rfl) ?_; refine RunL.val (by exact rfl) (loc_load rfl rfl rfl) ?_; refine RunL.val (by exact rfl) (loc_moveC rfl) ?_; refine RunL.skip (.inl ⟨_, _, rfl, rfl, guard_eq true (by assumption) rfl⟩) ?_; refine RunL.skip (.inl ⟨_, _, rfl, rfl, guard_eq true (by assumption) rfl⟩) ?_; refine RunL.val (by exact rfl) (loc_pickI true (by assumption) rfl rfl) ?_; refine RunL.val (by exact rfl) (loc_assignC rfl) ?_; refine RunL.nil ?_; refine AW.condT (by exact rfl) ?_; refine AW.seq ?_; refine AW.region (by kernel_rfl) ?_; refine RunL.val (by exact rfl) (loc_moveC rfl) ?_; refine RunL.val (by exact rfl) (loc_nilCheck rfl rfl) ?_; refine RunL.val (by exact rfl) (loc_fieldAddr rfl) ?_; refine RunL.eff (by exact rfl) (loc_store (by exact rfl) (by exact rfl) (by exact rfl) (by exact rfl) (by exact rfl) (by exact Nat.le_of_ble_eq_true rfl) (by exact rfl)) ?_; refine RunL.nil ?_; refine AW.seq ?_; refine AW.region (by kernel_rfl) ?_; refine RunL.val (by exact rfl) (loc_build (by exact rfl) (by exact Cut.all (by exact rfl)) (by exact rfl)) ?_; refine RunL.eff (by exact rfl) (loc_storeW rfl rfl rfl rfl (by exact rfl) (by exact rfl)) ?_; refine RunL.nil ?_; refine AW.ret ?_
      refine rq ?_
      exact ret_tm (by exact .inr rfl) (by exact rfl) (by exact rfl) (fz := []) trivial rfl tleaf (by exact rfl) (by exact wkRow_refl _)
    | false =>
    refine RunL.val (by exact rfl) (loc_assignC rfl) ?_; refine RunL.nil ?_; refine AW.seq ?_; refine AW.block ?_; refine AW.seq ?_; refine AW.region (by kernel_rfl) ?_; refine RunL.val (by exact rfl) (loc_moveC rfl) ?_; refine RunL.val (by exact rfl) (loc_nilCheck rfl rfl) ?_; refine RunL.val (by exact rfl) (loc_fieldAddr rfl) ?_; refine RunL.val (by exact rfl) (loc_load rfl rfl rfl) ?_; refine RunL.val (by exact rfl) (loc_moveC rfl) ?_; refine RunL.val (by exact .inl ⟨_, _, rfl, rfl, guard_eq false (by assumption) rfl⟩) (loc_moveC rfl) ?_; refine RunL.val (by exact .inl ⟨_, _, rfl, rfl, guard_eq false (by assumption) rfl⟩) (loc_binInt rfl rfl rfl) ?_; refine RunL.val (by exact rfl) (loc_pickI false (by assumption) rfl rfl) ?_; refine RunL.val (by exact rfl) (loc_assignC rfl) ?_; refine RunL.nil ?_; refine AW.condF (by exact rfl) ?_; refine AW.seq ?_; refine AW.region (by kernel_rfl) ?_; refine RunL.val (by exact rfl) (loc_moveC rfl) ?_
    refine RunL.val (by exact rfl) (loc_eqStr (b := sYes) (by exact rfl) (by exact rfl)) ?_
    cases hy : sEq r.next.1 sYes with
    | true =>
      rw [show readT (n + 1) r = (.mk 3 1 .any .any [], r.next.2) by simp only [readT]; rw [hb, hy]; rfl]
      refine RunL.val (by exact rfl) (loc_moveC rfl) ?_; refine RunL.skip (.inl ⟨_, _, rfl, rfl, rfl⟩) ?_; refine RunL.skip (.inl ⟨_, _, rfl, rfl, rfl⟩) ?_; refine RunL.val (by exact rfl) (loc_pickT rfl rfl) ?_; refine RunL.val (by exact rfl) (loc_assignC rfl) ?_; refine RunL.nil ?_; refine AW.condT (by exact rfl) ?_; refine AW.seq ?_; refine AW.region (by kernel_rfl) ?_; refine RunL.val (by exact rfl) (loc_build (by exact rfl) (by exact Cut.all (by exact rfl)) (by exact rfl)) ?_; refine RunL.mem (by exact rfl) (loc_allocD rfl rfl) ?_; refine RunL.eff (by exact rfl) (loc_storeW rfl rfl rfl rfl (by exact rfl) (by exact rfl)) ?_; refine RunL.nil ?_; refine AW.seq ?_; refine AW.seq ?_; refine AW.region (by kernel_rfl) ?_; refine RunL.val (by exact rfl) (loc_moveC rfl) ?_
      refine RunL.val (by exact rfl) (loc_eqStr (b := sYes) (by exact rfl) (by exact rfl)) ?_
      rw [hy]
      refine RunL.nil ?_; refine AW.condT (by exact rfl) ?_; refine AW.region (by kernel_rfl) ?_; refine RunL.val (by exact rfl) (loc_fieldAddr rfl) ?_; refine RunL.eff (by exact rfl) (loc_store (by exact rfl) (by exact rfl) (by exact rfl) (by exact rfl) (by exact rfl) (by exact Nat.le_of_ble_eq_true rfl) (by exact rfl)) ?_; refine RunL.nil ?_; refine AW.seq ?_; refine AW.region (by kernel_rfl) ?_; refine RunL.val (by exact rfl) (loc_loadA rfl rfl (by exact Cut.all (by exact rfl))) ?_; refine RunL.eff (by exact rfl) (loc_storeW rfl rfl rfl rfl (by exact rfl) (by exact rfl)) ?_; refine RunL.nil ?_; refine AW.ret ?_
      refine rq ?_
      exact ret_tm (by exact .inr rfl) (by exact rfl) (by exact rfl) (fz := []) trivial rfl tleaf (by exact rfl) (by exact wkRow_refl _)
    | false =>
    refine RunL.val (by exact rfl) (loc_moveC rfl) ?_; refine RunL.val (by exact .inl ⟨_, _, rfl, rfl, rfl⟩) (loc_moveC rfl) ?_
    refine RunL.val (by exact .inl ⟨_, _, rfl, rfl, rfl⟩) (loc_eqStr (b := sNo) (by exact rfl) (by exact rfl)) ?_
    cases hno : sEq r.next.1 sNo with
    | true =>
      rw [show readT (n + 1) r = (.mk 3 0 .any .any [], r.next.2) by simp only [readT]; rw [hb, hy, hno]; rfl]
      refine RunL.val (by exact rfl) (loc_pickF rfl rfl) ?_; refine RunL.val (by exact rfl) (loc_assignC rfl) ?_; refine RunL.nil ?_; refine AW.condT (by exact rfl) ?_; refine AW.seq ?_; refine AW.region (by kernel_rfl) ?_; refine RunL.val (by exact rfl) (loc_build (by exact rfl) (by exact Cut.all (by exact rfl)) (by exact rfl)) ?_; refine RunL.mem (by exact rfl) (loc_allocD rfl rfl) ?_; refine RunL.eff (by exact rfl) (loc_storeW rfl rfl rfl rfl (by exact rfl) (by exact rfl)) ?_; refine RunL.nil ?_; refine AW.seq ?_; refine AW.seq ?_; refine AW.region (by kernel_rfl) ?_; refine RunL.val (by exact rfl) (loc_moveC rfl) ?_
      refine RunL.val (by exact rfl) (loc_eqStr (b := sYes) (by exact rfl) (by exact rfl)) ?_
      rw [hy]
      refine RunL.nil ?_; refine AW.condF (by exact rfl) ?_; refine AW.skip ?_; refine AW.seq ?_; refine AW.region (by kernel_rfl) ?_; refine RunL.val (by exact rfl) (loc_loadA rfl rfl (by exact Cut.all (by exact rfl))) ?_; refine RunL.eff (by exact rfl) (loc_storeW rfl rfl rfl rfl (by exact rfl) (by exact rfl)) ?_; refine RunL.nil ?_; refine AW.ret ?_
      refine rq ?_
      exact ret_tm (by exact .inr rfl) (by exact rfl) (by exact rfl) (fz := []) trivial rfl tleaf (by exact rfl) (by exact wkRow_refl _)
    | false =>
    refine RunL.val (by exact rfl) (loc_pickF rfl rfl) ?_; refine RunL.val (by exact rfl) (loc_assignC rfl) ?_; refine RunL.nil ?_; refine AW.condF (by exact rfl) ?_; refine AW.seq ?_; refine AW.region (by kernel_rfl) ?_; refine RunL.val (by exact rfl) (loc_moveC rfl) ?_
    refine RunL.val (by exact rfl) (loc_fun (hasPrefix_a r.next.1 sHash) rfl (by refine ⟨_, _, rfl, (by exact LeU.of_eq rfl trivial), (by exact trivial), ?_⟩; refine ⟨_, _, rfl, (by exact LeU.of_eq rfl trivial), (by exact trivial), ?_⟩; exact rfl)) ?_
    cases hh : Lib.hasPrefix r.next.1.data.toList sHash.data.toList with
    | true =>
      have hsz := hash_size hh
      rw [show readT (n + 1) r = (.mk 1 (r.next.2.number (r.next.1.extract 1 r.next.1.size)).1 .any .any [], (r.next.2.number (r.next.1.extract 1 r.next.1.size)).2) by simp only [readT]; rw [hb, hy, hno, hh]; rfl]
      refine RunL.val (by exact rfl) (loc_assignC rfl) ?_; refine RunL.nil ?_; refine AW.condT (by exact rfl) ?_; refine AW.seq ?_; refine AW.region (by kernel_rfl) ?_; refine RunL.val (by exact rfl) (loc_moveC rfl) ?_; refine RunL.val (by exact rfl) (loc_moveC rfl) ?_
      refine RunL.val (by exact rfl) (loc_sliceStr1 (by exact rfl) hsz) ?_
      refine RunL.many (by exact rfl) (loc_funE (number_a (r.next.2) (r.next.1.extract 1 r.next.1.size) (by rw [ByteArray.size_extract]; omega)) rfl (by refine ⟨_, _, rfl, (by exact LeU.of_eq rfl trivial), (by exact Exists.intro _ rfl), ?_⟩; refine ⟨_, _, rfl, (by exact LeU.of_eq rfl trivial), (by exact trivial), ?_⟩; exact rfl) (by exact ⟨rfl, trivial⟩) (by exact rfl) (by simp [namesL]) (by exact ⟨⟨trivial, trivial, trivial⟩, trivial⟩)) ?_
      refine RunL.val (by exact rfl) (loc_build (by exact rfl) (by exact Cut.all (by exact rfl)) (by exact rfl)) ?_; refine RunL.eff (by exact rfl) (loc_storeW rfl rfl rfl rfl (by exact rfl) (by exact rfl)) ?_; refine RunL.nil ?_; refine AW.ret ?_
      refine rq ?_
      exact ret_tm (by exact .inr rfl) (by exact rfl) (by exact rfl) (fz := []) trivial rfl tleaf (by exact rfl) (by exact wkRow_refl _)
    | false =>
    refine RunL.val (by exact rfl) (loc_assignC rfl) ?_; refine RunL.nil ?_; refine AW.condF (by exact rfl) ?_; refine AW.seq ?_; refine AW.region (by kernel_rfl) ?_; refine RunL.val (by exact rfl) (loc_moveC rfl) ?_
    refine RunL.val (by exact rfl) (loc_neStr (b := sLp) (by exact rfl) (by exact rfl)) ?_
    cases hp : sEq r.next.1 sLp with
    | false =>
      rw [show readT (n + 1) r = (.mk 2 (r.next.2.number r.next.1).1 .any .any [], (r.next.2.number r.next.1).2) by simp only [readT]; rw [hb, hy, hno, hh, hp]; rfl]
      refine RunL.val (by exact rfl) (loc_assignC rfl) ?_; refine RunL.nil ?_; refine AW.condT (by exact rfl) ?_; refine AW.seq ?_; refine AW.region (by kernel_rfl) ?_; refine RunL.val (by exact rfl) (loc_moveC rfl) ?_; refine RunL.val (by exact rfl) (loc_moveC rfl) ?_
      refine RunL.many (by exact rfl) (loc_funE (number_a (r.next.2) (r.next.1) (by omega)) rfl (by refine ⟨_, _, rfl, (by exact LeU.of_eq rfl trivial), (by exact Exists.intro _ rfl), ?_⟩; refine ⟨_, _, rfl, (by exact LeU.of_eq rfl trivial), (by exact trivial), ?_⟩; exact rfl) (by exact ⟨rfl, trivial⟩) (by exact rfl) (by simp [namesL]) (by exact ⟨⟨trivial, trivial, trivial⟩, trivial⟩)) ?_
      refine RunL.val (by exact rfl) (loc_build (by exact rfl) (by exact Cut.all (by exact rfl)) (by exact rfl)) ?_; refine RunL.eff (by exact rfl) (loc_storeW rfl rfl rfl rfl (by exact rfl) (by exact rfl)) ?_; refine RunL.nil ?_; refine AW.ret ?_
      refine rq ?_
      exact ret_tm (by exact .inr rfl) (by exact rfl) (by exact rfl) (fz := []) trivial rfl tleaf (by exact rfl) (by exact wkRow_refl _)
    | true =>
    have hrd : readT (n + 1) r = match wFrom r.next.2.next.1 10 with | none => (Tm.zero, r.next.2.next.2.fail) | some k => readB (readT n) k r.next.2.next.2 := by
      simp only [readT]; rw [hb, hy, hno, hh, hp]; rfl
    rw [hrd]
    refine RunL.val (by exact rfl) (loc_assignC rfl) ?_; refine RunL.nil ?_; refine AW.condF (by exact rfl) ?_; refine AW.skip ?_; refine AW.seq ?_; refine AW.region (by kernel_rfl) ?_; refine RunL.val (by exact rfl) (loc_moveC rfl) ?_
    refine RunL.many (by exact rfl) (loc_funE (next_a (r.next.2)) rfl (by refine ⟨_, _, rfl, (by exact LeU.of_eq rfl trivial), (by exact Exists.intro _ rfl), ?_⟩; exact rfl) (by exact ⟨rfl, trivial⟩) (by exact rfl) (by simp [namesL]) (by exact ⟨⟨trivial, trivial, trivial⟩, trivial⟩)) ?_
    refine RunL.val (by exact rfl) (loc_assignC rfl) ?_; refine RunL.nil ?_; refine AW.seq ?_; refine AW.seq ?_; refine AW.region (by kernel_rfl) ?_; refine RunL.val (by exact rfl) (loc_loadFA rfl (by exact Cut.all (by exact rfl))) ?_; refine RunL.val (by exact rfl) (loc_moveC rfl) ?_; refine RunL.nil ?_; refine AW.block ?_
    refine AW.gh (gh_lit [(0, .one (.ptr 1000 0)), (1, .one (.int .i64 ((n + 1 : Nat) : Int))), (4, .one (.ptr 4 0)), (5, .one (.str r.next.2.next.1)), (54, .agg wordsC), (55, .one (.int .i64 ((0 : Nat) : Int)))] [(1000, .obj (Rd.c r.next.2.next.2)), (4, .obj [.int .i64 0, .int .i64 0, .int .i64 0, .nilsl, .int .i64 0, .nilsl, .nilsl])] [] [] ⟨(WkU.of_eq rfl trivial), (WkU.of_eq rfl trivial), (WkU.of_eq rfl trivial), (by exact WkU.of_eq rfl trivial), (by exact WkU.of_eq rfl trivial), (WkU.of_eq rfl trivial), trivial⟩ ⟨(by exact Or.inl ⟨_, rfl, WkBlk.refl _⟩), (by exact Or.inl ⟨_, rfl, WkBlk.refl _⟩), trivial⟩ trivial trivial rfl rfl ⟨⟨_, rfl⟩, trivial, ⟨_, rfl⟩, trivial, (by refine And.intro ?_ ?_; exact trivial; refine And.intro ?_ ?_; exact trivial; refine And.intro ?_ ?_; exact trivial; refine And.intro ?_ ?_; exact trivial; refine And.intro ?_ ?_; exact trivial; refine And.intro ?_ ?_; exact trivial; refine And.intro ?_ ?_; exact trivial; refine And.intro ?_ ?_; exact trivial; refine And.intro ?_ ?_; exact trivial; refine And.intro ?_ ?_; exact trivial; exact trivial), trivial, trivial⟩ ⟨(by refine And.intro ?_ ?_; exact trivial; refine And.intro ?_ ?_; exact trivial; exact trivial), (by refine And.intro ?_ ?_; exact trivial; refine And.intro ?_ ?_; exact trivial; refine And.intro ?_ ?_; exact trivial; refine And.intro ?_ ?_; exact trivial; refine And.intro ?_ ?_; exact trivial; refine And.intro ?_ ?_; exact trivial; refine And.intro ?_ ?_; exact trivial; exact trivial), trivial⟩) ?_
    refine AW.loop (fun m t' h => ∃ i : Nat, i ≤ 10 ∧ m = 10 - i ∧ wFrom r.next.2.next.1 10 = wFrom r.next.2.next.1 (10 - i) ∧ t' = tOfL [(0, .one (.ptr 1000 0)), (1, .one (.int .i64 ((n + 1 : Nat) : Int))), (4, .one (.ptr 4 0)), (5, .one (.str r.next.2.next.1)), (54, .agg wordsC), (55, .one (.int .i64 ((i : Nat) : Int)))] ∧ h = ofL [(1000, .obj (Rd.c r.next.2.next.2)), (4, .obj [.int .i64 0, .int .i64 0, .int .i64 0, .nilsl, .int .i64 0, .nilsl, .nilsl])]) 10 ⟨0, by omega, rfl, rfl, rfl, rfl⟩ ?_
    rintro m t' h ⟨i, hi, rfl, hinv, rfl, rfl⟩
    cases hlt : decide ((i : Int) < 10) with
    | false =>
      have hi4 : i = 10 := by have := of_decide_eq_false hlt; omega
      subst hi4
      rw [show wFrom r.next.2.next.1 10 = none by rw [hinv]; rfl]
      refine AW.seq ?_; refine AW.region (by kernel_rfl) ?_; refine RunL.val (by exact rfl) (loc_binInt rfl rfl rfl) ?_; refine RunL.nil ?_; refine AW.seq ?_; refine AW.condF (by exact rfl) ?_; refine AW.exit ?_; refine AW.seq ?_; refine AW.region (by kernel_rfl) ?_; refine RunL.val (by exact rfl) (loc_moveC rfl) ?_; refine RunL.val (by exact rfl) (loc_nilCheck rfl rfl) ?_; refine RunL.val (by exact rfl) (loc_fieldAddr rfl) ?_; refine RunL.eff (by exact rfl) (loc_store (by exact rfl) (by exact rfl) (by exact rfl) (by exact rfl) (by exact rfl) (by exact Nat.le_of_ble_eq_true rfl) (by exact rfl)) ?_; refine RunL.nil ?_; refine AW.seq ?_; refine AW.region (by kernel_rfl) ?_; refine RunL.val (by exact rfl) (loc_build (by exact rfl) (by exact Cut.all (by exact rfl)) (by exact rfl)) ?_; refine RunL.eff (by exact rfl) (loc_storeW rfl rfl rfl rfl (by exact rfl) (by exact rfl)) ?_; refine RunL.nil ?_; refine AW.ret ?_
      refine rq ?_
      exact ret_tm (by exact .inr rfl) (by exact rfl) (by exact rfl) (fz := []) trivial rfl tleaf (by exact rfl) (by exact wkRow_refl _)
    | true =>
    have hi4 : i < 10 := by have := of_decide_eq_true hlt; omega
    have hg := words_get hi4
    refine AW.seq ?_; refine AW.region (by kernel_rfl) ?_; refine RunL.val (by exact rfl) (loc_binInt rfl rfl rfl) ?_; refine RunL.nil ?_; refine AW.seq ?_; refine AW.condTa (by exact rfl) (by assumption) ?_; refine AW.skip ?_; refine AW.seq ?_; refine AW.block ?_; refine AW.seq ?_; refine AW.region (by kernel_rfl) ?_; refine RunL.val (by exact rfl) (loc_moveC rfl) ?_
    refine RunL.val (by exact rfl) (loc_indexA (by exact rfl) (by exact rfl) hi4 hg) ?_
    refine RunL.val (by exact rfl) (loc_assignC rfl) ?_; refine RunL.val (by exact rfl) (loc_assignC rfl) ?_; refine RunL.nil ?_; refine AW.seq ?_; refine AW.seq ?_; refine AW.region (by kernel_rfl) ?_; refine RunL.val (by exact rfl) (loc_moveC rfl) ?_
    refine RunL.val (by exact rfl) (loc_eqStr (b := sNil) (by exact rfl) (by exact rfl)) ?_
    cases h1 : sEq (wordsL.getD i sNil) sNil with
    | true =>
      have hk : wAt r.next.2.next.1 i = false := by unfold wAt; rw [h1]; rfl
      refine RunL.val (by exact rfl) (loc_moveC rfl) ?_; refine RunL.skip (.inl ⟨_, _, rfl, rfl, rfl⟩) ?_; refine RunL.skip (.inl ⟨_, _, rfl, rfl, rfl⟩) ?_; refine RunL.skip (.inl ⟨_, _, rfl, rfl, rfl⟩) ?_; refine RunL.val (by exact rfl) (loc_pickT rfl rfl) ?_; refine RunL.nil ?_; refine AW.condT (by exact rfl) ?_; refine AW.exit ?_; refine AW.region (by kernel_rfl) ?_; refine RunL.val (by exact rfl) (loc_inc rfl rfl (by omega)) ?_; refine RunL.val (by exact rfl) (loc_moveC rfl) ?_; refine RunL.nil ?_
      exact ⟨10 - (i + 1), _, _, by omega, (gh_lit [(0, .one (.ptr 1000 0)), (1, .one (.int .i64 ((n + 1 : Nat) : Int))), (4, .one (.ptr 4 0)), (5, .one (.str r.next.2.next.1)), (54, .agg wordsC), (55, .one (.int .i64 (((i + 1) : Nat) : Int)))] [(1000, .obj (Rd.c r.next.2.next.2)), (4, .obj [.int .i64 0, .int .i64 0, .int .i64 0, .nilsl, .int .i64 0, .nilsl, .nilsl])] [] [] ⟨(WkU.of_eq rfl trivial), (WkU.of_eq rfl trivial), (WkU.of_eq rfl trivial), (by exact WkU.of_eq rfl trivial), (by exact WkU.of_eq rfl trivial), (WkU.of_eq rfl trivial), trivial⟩ ⟨(by exact Or.inl ⟨_, rfl, WkBlk.refl _⟩), (by exact Or.inl ⟨_, rfl, WkBlk.refl _⟩), trivial⟩ trivial trivial rfl rfl ⟨⟨_, rfl⟩, trivial, ⟨_, rfl⟩, trivial, (by refine And.intro ?_ ?_; exact trivial; refine And.intro ?_ ?_; exact trivial; refine And.intro ?_ ?_; exact trivial; refine And.intro ?_ ?_; exact trivial; refine And.intro ?_ ?_; exact trivial; refine And.intro ?_ ?_; exact trivial; refine And.intro ?_ ?_; exact trivial; refine And.intro ?_ ?_; exact trivial; refine And.intro ?_ ?_; exact trivial; refine And.intro ?_ ?_; exact trivial; exact trivial), trivial, trivial⟩ ⟨(by refine And.intro ?_ ?_; exact trivial; refine And.intro ?_ ?_; exact trivial; exact trivial), (by refine And.intro ?_ ?_; exact trivial; refine And.intro ?_ ?_; exact trivial; refine And.intro ?_ ?_; exact trivial; refine And.intro ?_ ?_; exact trivial; refine And.intro ?_ ?_; exact trivial; refine And.intro ?_ ?_; exact trivial; refine And.intro ?_ ?_; exact trivial; exact trivial), trivial⟩), i + 1, by omega, by omega, by rw [hinv, wFrom_step hi4, hk]; rfl, rfl, rfl⟩
    | false =>
    refine RunL.val (by exact rfl) (loc_moveC rfl) ?_; refine RunL.val (by exact .inl ⟨_, _, rfl, rfl, rfl⟩) (loc_moveC rfl) ?_; refine RunL.val (by exact .inl ⟨_, _, rfl, rfl, rfl⟩) (loc_moveC rfl) ?_
    refine RunL.val (by exact .inl ⟨_, _, rfl, rfl, rfl⟩) (loc_neStr (by exact rfl) (by exact rfl)) ?_
    cases h2 : sEq (wordsL.getD i sNil) r.next.2.next.1 with
    | false =>
      have hk : wAt r.next.2.next.1 i = false := by unfold wAt; rw [h1, h2]; rfl
      refine RunL.val (by exact rfl) (loc_pickF rfl rfl) ?_; refine RunL.nil ?_; refine AW.condT (by exact rfl) ?_; refine AW.exit ?_; refine AW.region (by kernel_rfl) ?_; refine RunL.val (by exact rfl) (loc_inc rfl rfl (by omega)) ?_; refine RunL.val (by exact rfl) (loc_moveC rfl) ?_; refine RunL.nil ?_
      exact ⟨10 - (i + 1), _, _, by omega, (gh_lit [(0, .one (.ptr 1000 0)), (1, .one (.int .i64 ((n + 1 : Nat) : Int))), (4, .one (.ptr 4 0)), (5, .one (.str r.next.2.next.1)), (54, .agg wordsC), (55, .one (.int .i64 (((i + 1) : Nat) : Int)))] [(1000, .obj (Rd.c r.next.2.next.2)), (4, .obj [.int .i64 0, .int .i64 0, .int .i64 0, .nilsl, .int .i64 0, .nilsl, .nilsl])] [] [] ⟨(WkU.of_eq rfl trivial), (WkU.of_eq rfl trivial), (WkU.of_eq rfl trivial), (by exact WkU.of_eq rfl trivial), (by exact WkU.of_eq rfl trivial), (WkU.of_eq rfl trivial), trivial⟩ ⟨(by exact Or.inl ⟨_, rfl, WkBlk.refl _⟩), (by exact Or.inl ⟨_, rfl, WkBlk.refl _⟩), trivial⟩ trivial trivial rfl rfl ⟨⟨_, rfl⟩, trivial, ⟨_, rfl⟩, trivial, (by refine And.intro ?_ ?_; exact trivial; refine And.intro ?_ ?_; exact trivial; refine And.intro ?_ ?_; exact trivial; refine And.intro ?_ ?_; exact trivial; refine And.intro ?_ ?_; exact trivial; refine And.intro ?_ ?_; exact trivial; refine And.intro ?_ ?_; exact trivial; refine And.intro ?_ ?_; exact trivial; refine And.intro ?_ ?_; exact trivial; refine And.intro ?_ ?_; exact trivial; exact trivial), trivial, trivial⟩ ⟨(by refine And.intro ?_ ?_; exact trivial; refine And.intro ?_ ?_; exact trivial; exact trivial), (by refine And.intro ?_ ?_; exact trivial; refine And.intro ?_ ?_; exact trivial; refine And.intro ?_ ?_; exact trivial; refine And.intro ?_ ?_; exact trivial; refine And.intro ?_ ?_; exact trivial; refine And.intro ?_ ?_; exact trivial; refine And.intro ?_ ?_; exact trivial; exact trivial), trivial⟩), i + 1, by omega, by omega, by rw [hinv, wFrom_step hi4, hk]; rfl, rfl, rfl⟩
    | true =>
    have hk : wAt r.next.2.next.1 i = true := by unfold wAt; rw [h1, h2]; rfl
    rw [show wFrom r.next.2.next.1 10 = some i by rw [hinv, wFrom_step hi4, hk]; rfl]
    simp only
    have hk1 : ACalls Tryd.prog 50 [.one (.ptr 1000 0), .one (.int .i64 1)] [(1000, .obj (Rd.c (r.next.2.next.2)))] (readK 4 r.next.2.next.2).1.u [(1000, .obj (Rd.c ((readK 4 r.next.2.next.2).2)))] := kind_a 4 (by decide) r.next.2.next.2
    refine RunL.val (by exact rfl) (loc_pickF rfl rfl) ?_; refine RunL.nil ?_; refine AW.condF (by exact rfl) ?_; refine AW.skip ?_; refine AW.seq ?_; refine AW.region (by kernel_rfl) ?_; refine RunL.val (by exact rfl) (loc_moveC rfl) ?_; refine RunL.val (by exact rfl) (loc_build (by exact rfl) (by exact Cut.all (by exact rfl)) (by exact rfl)) ?_
    refine RunL.mem (by exact rfl) (loc_allocD rfl rfl) ?_
    refine RunL.eff (by exact rfl) (loc_storeW rfl rfl rfl rfl (by exact rfl) (by exact rfl)) ?_; refine RunL.nil ?_
    refine AW.seq ?_
    refine AW.midB (fun t h => ∃ ty rd, (ty, rd) = (if ((i : Nat) : Int) == 7 || ((i : Nat) : Int) == 9 then readK 4 r.next.2.next.2 else (.any, r.next.2.next.2)) ∧ t = tOfL [(0, .one (.ptr 1000 0)), (1, .one (.int .i64 ((n + 1 : Nat) : Int))), (4, .one (.ptr 4 0)), (7, .one (.int .i64 ((i : Nat) : Int))), (9, .one (.ptr 9 0))] ∧ h = ofL [(1000, .obj (Rd.c rd)), (4, .obj [.int .i64 0, .int .i64 0, .int .i64 0, .nilsl, .int .i64 0, .nilsl, .nilsl]), (9, .obj [.int .i64 ((i : Nat) : Int), .int .i64 0, .int .i64 (Ty.k (ty)), slOf 2 (tyRows (Ty.l (ty))), .int .i64 0, .nilsl, .nilsl])]) ?_ ?_
    · cases h7 : (((i : Nat) : Int) == 7) with
      | true =>
        refine AW.seq ?_; refine AW.region (by kernel_rfl) ?_; refine RunL.val (by exact rfl) (loc_moveC rfl) ?_; refine RunL.val (by exact rfl) (loc_binInt rfl rfl rfl) ?_; refine RunL.val (by exact rfl) (loc_moveC rfl) ?_; refine RunL.skip (.inl ⟨_, _, rfl, rfl, guard_eq true (by assumption) rfl⟩) ?_; refine RunL.skip (.inl ⟨_, _, rfl, rfl, guard_eq true (by assumption) rfl⟩) ?_; refine RunL.val (by exact rfl) (loc_pickI true (by assumption) rfl rfl) ?_; refine RunL.nil ?_; refine AW.condT (by exact rfl) ?_; refine AW.region (by kernel_rfl) ?_; refine RunL.val (by exact rfl) (loc_moveC rfl) ?_
        refine RunL.many (by exact rfl) (loc_funE (hk1) rfl (by refine ⟨_, _, rfl, (by exact LeU.of_eq rfl trivial), (by exact Exists.intro _ rfl), ?_⟩; refine ⟨_, _, rfl, (by exact LeU.of_eq rfl trivial), (by exact trivial), ?_⟩; exact rfl) (by exact ⟨rfl, trivial⟩) (by exact rfl) (by simp [namesL]) (by exact ⟨⟨trivial, trivial, trivial⟩, trivial⟩)) ?_
        refine RunL.val (by exact rfl) (loc_fieldAddr rfl) ?_; refine RunL.eff (by exact rfl) (loc_store (by exact rfl) (by exact rfl) (by exact rfl) (by exact rfl) (by exact rfl) (by exact Nat.le_of_ble_eq_true rfl) (by exact rfl)) ?_; refine RunL.nil ?_
        exact ⟨_, _, (gh_lit [(0, .one (.ptr 1000 0)), (1, .one (.int .i64 ((n + 1 : Nat) : Int))), (4, .one (.ptr 4 0)), (7, .one (.int .i64 ((i : Nat) : Int))), (9, .one (.ptr 9 0))] [(1000, .obj (Rd.c (readK 4 r.next.2.next.2).2)), (4, .obj [.int .i64 0, .int .i64 0, .int .i64 0, .nilsl, .int .i64 0, .nilsl, .nilsl]), (9, .obj [.int .i64 ((i : Nat) : Int), .int .i64 0, .int .i64 (Ty.k ((readK 4 r.next.2.next.2).1)), slOf 2 (tyRows (Ty.l ((readK 4 r.next.2.next.2).1))), .int .i64 0, .nilsl, .nilsl])] [] [] ⟨(WkU.of_eq rfl trivial), (WkU.of_eq rfl trivial), (WkU.of_eq rfl trivial), (WkU.of_eq rfl trivial), (WkU.of_eq rfl trivial), trivial⟩ ⟨(by exact Or.inl ⟨_, rfl, WkBlk.refl _⟩), (by exact Or.inl ⟨_, rfl, WkBlk.refl _⟩), (by exact Or.inl ⟨_, rfl, WkBlk.refl _⟩), trivial⟩ trivial trivial rfl rfl ⟨⟨_, rfl⟩, trivial, ⟨_, rfl⟩, trivial, ⟨_, rfl⟩, trivial⟩ ⟨(by refine And.intro ?_ ?_; exact trivial; refine And.intro ?_ ?_; exact trivial; exact trivial), (by refine And.intro ?_ ?_; exact trivial; refine And.intro ?_ ?_; exact trivial; refine And.intro ?_ ?_; exact trivial; refine And.intro ?_ ?_; exact trivial; refine And.intro ?_ ?_; exact trivial; refine And.intro ?_ ?_; exact trivial; refine And.intro ?_ ?_; exact trivial; exact trivial), (by refine And.intro ?_ ?_; exact trivial; refine And.intro ?_ ?_; exact trivial; refine And.intro ?_ ?_; exact trivial; refine And.intro ?_ ?_; exact trivial; refine And.intro ?_ ?_; exact trivial; refine And.intro ?_ ?_; exact trivial; refine And.intro ?_ ?_; exact trivial; exact trivial), trivial⟩), (readK 4 r.next.2.next.2).1, (readK 4 r.next.2.next.2).2, rfl, rfl, rfl⟩
      | false =>
      cases h9 : (((i : Nat) : Int) == 9) with
      | true =>
        refine AW.seq ?_; refine AW.region (by kernel_rfl) ?_; refine RunL.val (by exact rfl) (loc_moveC rfl) ?_; refine RunL.val (by exact rfl) (loc_binInt rfl rfl rfl) ?_; refine RunL.val (by exact rfl) (loc_moveC rfl) ?_; refine RunL.val (by exact .inl ⟨_, _, rfl, rfl, guard_eq false (by assumption) rfl⟩) (loc_moveC rfl) ?_; refine RunL.val (by exact .inl ⟨_, _, rfl, rfl, guard_eq false (by assumption) rfl⟩) (loc_binInt rfl rfl rfl) ?_; refine RunL.val (by exact rfl) (loc_pickI false (by assumption) rfl rfl) ?_; refine RunL.nil ?_; refine AW.condTa (by exact rfl) (by assumption) ?_; refine AW.region (by kernel_rfl) ?_; refine RunL.val (by exact rfl) (loc_moveC rfl) ?_
        refine RunL.many (by exact rfl) (loc_funE (hk1) rfl (by refine ⟨_, _, rfl, (by exact LeU.of_eq rfl trivial), (by exact Exists.intro _ rfl), ?_⟩; refine ⟨_, _, rfl, (by exact LeU.of_eq rfl trivial), (by exact trivial), ?_⟩; exact rfl) (by exact ⟨rfl, trivial⟩) (by exact rfl) (by simp [namesL]) (by exact ⟨⟨trivial, trivial, trivial⟩, trivial⟩)) ?_
        refine RunL.val (by exact rfl) (loc_fieldAddr rfl) ?_; refine RunL.eff (by exact rfl) (loc_store (by exact rfl) (by exact rfl) (by exact rfl) (by exact rfl) (by exact rfl) (by exact Nat.le_of_ble_eq_true rfl) (by exact rfl)) ?_; refine RunL.nil ?_
        exact ⟨_, _, (gh_lit [(0, .one (.ptr 1000 0)), (1, .one (.int .i64 ((n + 1 : Nat) : Int))), (4, .one (.ptr 4 0)), (7, .one (.int .i64 ((i : Nat) : Int))), (9, .one (.ptr 9 0))] [(1000, .obj (Rd.c (readK 4 r.next.2.next.2).2)), (4, .obj [.int .i64 0, .int .i64 0, .int .i64 0, .nilsl, .int .i64 0, .nilsl, .nilsl]), (9, .obj [.int .i64 ((i : Nat) : Int), .int .i64 0, .int .i64 (Ty.k ((readK 4 r.next.2.next.2).1)), slOf 2 (tyRows (Ty.l ((readK 4 r.next.2.next.2).1))), .int .i64 0, .nilsl, .nilsl])] [] [] ⟨(WkU.of_eq rfl trivial), (WkU.of_eq rfl trivial), (WkU.of_eq rfl trivial), (WkU.of_eq rfl trivial), (WkU.of_eq rfl trivial), trivial⟩ ⟨(by exact Or.inl ⟨_, rfl, WkBlk.refl _⟩), (by exact Or.inl ⟨_, rfl, WkBlk.refl _⟩), (by exact Or.inl ⟨_, rfl, WkBlk.refl _⟩), trivial⟩ trivial trivial rfl rfl ⟨⟨_, rfl⟩, trivial, ⟨_, rfl⟩, trivial, ⟨_, rfl⟩, trivial⟩ ⟨(by refine And.intro ?_ ?_; exact trivial; refine And.intro ?_ ?_; exact trivial; exact trivial), (by refine And.intro ?_ ?_; exact trivial; refine And.intro ?_ ?_; exact trivial; refine And.intro ?_ ?_; exact trivial; refine And.intro ?_ ?_; exact trivial; refine And.intro ?_ ?_; exact trivial; refine And.intro ?_ ?_; exact trivial; refine And.intro ?_ ?_; exact trivial; exact trivial), (by refine And.intro ?_ ?_; exact trivial; refine And.intro ?_ ?_; exact trivial; refine And.intro ?_ ?_; exact trivial; refine And.intro ?_ ?_; exact trivial; refine And.intro ?_ ?_; exact trivial; refine And.intro ?_ ?_; exact trivial; refine And.intro ?_ ?_; exact trivial; exact trivial), trivial⟩), (readK 4 r.next.2.next.2).1, (readK 4 r.next.2.next.2).2, rfl, rfl, rfl⟩
      | false =>
        refine AW.seq ?_; refine AW.region (by kernel_rfl) ?_; refine RunL.val (by exact rfl) (loc_moveC rfl) ?_; refine RunL.val (by exact rfl) (loc_binInt rfl rfl rfl) ?_; refine RunL.val (by exact rfl) (loc_moveC rfl) ?_; refine RunL.val (by exact .inl ⟨_, _, rfl, rfl, guard_eq false (by assumption) rfl⟩) (loc_moveC rfl) ?_; refine RunL.val (by exact .inl ⟨_, _, rfl, rfl, guard_eq false (by assumption) rfl⟩) (loc_binInt rfl rfl rfl) ?_; refine RunL.val (by exact rfl) (loc_pickI false (by assumption) rfl rfl) ?_; refine RunL.nil ?_; refine AW.condFa (by exact rfl) (by assumption) ?_; refine AW.skip ?_
        exact ⟨_, _, (gh_lit [(0, .one (.ptr 1000 0)), (1, .one (.int .i64 ((n + 1 : Nat) : Int))), (4, .one (.ptr 4 0)), (7, .one (.int .i64 ((i : Nat) : Int))), (9, .one (.ptr 9 0))] [(1000, .obj (Rd.c r.next.2.next.2)), (4, .obj [.int .i64 0, .int .i64 0, .int .i64 0, .nilsl, .int .i64 0, .nilsl, .nilsl]), (9, .obj [.int .i64 ((i : Nat) : Int), .int .i64 0, .int .i64 (Ty.k (.any)), slOf 2 (tyRows (Ty.l (.any))), .int .i64 0, .nilsl, .nilsl])] [] [] ⟨(WkU.of_eq rfl trivial), (WkU.of_eq rfl trivial), (WkU.of_eq rfl trivial), (WkU.of_eq rfl trivial), (WkU.of_eq rfl trivial), trivial⟩ ⟨(by exact Or.inl ⟨_, rfl, WkBlk.refl _⟩), (by exact Or.inl ⟨_, rfl, WkBlk.refl _⟩), (by (refine Or.inl ⟨_, rfl, ?_⟩; show All2 _ _ _; refine And.intro ?_ ?_; exact WkC.le (LeC.refl _); refine And.intro ?_ ?_; exact WkC.le (LeC.refl _); refine And.intro ?_ ?_; exact WkC.le (LeC.refl _); refine And.intro ?_ ?_; exact WkC.le (LeC.nil _); refine And.intro ?_ ?_; exact WkC.le (LeC.refl _); refine And.intro ?_ ?_; exact WkC.le (LeC.refl _); refine And.intro ?_ ?_; exact WkC.le (LeC.refl _); exact trivial)), trivial⟩ trivial trivial rfl rfl ⟨⟨_, rfl⟩, trivial, ⟨_, rfl⟩, trivial, ⟨_, rfl⟩, trivial⟩ ⟨(by refine And.intro ?_ ?_; exact trivial; refine And.intro ?_ ?_; exact trivial; exact trivial), (by refine And.intro ?_ ?_; exact trivial; refine And.intro ?_ ?_; exact trivial; refine And.intro ?_ ?_; exact trivial; refine And.intro ?_ ?_; exact trivial; refine And.intro ?_ ?_; exact trivial; refine And.intro ?_ ?_; exact trivial; refine And.intro ?_ ?_; exact trivial; exact trivial), (by refine And.intro ?_ ?_; exact trivial; refine And.intro ?_ ?_; exact trivial; refine And.intro ?_ ?_; exact trivial; refine And.intro ?_ ?_; exact trivial; refine And.intro ?_ ?_; exact trivial; refine And.intro ?_ ?_; exact trivial; refine And.intro ?_ ?_; exact trivial; exact trivial), trivial⟩), .any, r.next.2.next.2, rfl, rfl, rfl⟩
    · rintro t h ⟨ty, rd, htr, rfl, rfl⟩
      have hrb : readB (readT n) i r.next.2.next.2 = (.mk i 0 ty .any (readN (readT n) (arity i).toNat rd).1, (readN (readT n) (arity i).toNat rd).2.close) := by
        unfold readB; rw [← htr]
      have hrd : RdOk rd := by
        have : RdOk (ty, rd).2 := by
          rw [htr]
          split
          · exact readK_okR 4 _ hr2
          · exact hr2
        exact this
      obtain ⟨ar, har, ha3⟩ := arity_le hi4
      have har2 : (arity i).toNat = ar := by omega
      rw [hrb, har2]
      have hag := arity_get hi4
      rw [har] at hag
      refine AW.seq ?_; refine AW.seq ?_; refine AW.region (by kernel_rfl) ?_; refine RunL.val (by exact rfl) (loc_moveC rfl) ?_; refine RunL.val (by exact rfl) (loc_indexArrI rfl rfl (by omega) (by omega)) ?_; refine RunL.val (by exact rfl) (loc_loadF rfl (by assumption)) ?_; refine RunL.val (by exact rfl) (loc_moveC rfl) ?_; refine RunL.nil ?_; refine AW.block ?_
      refine AW.gh (gh_lit [(0, .one (.ptr 1000 0)), (1, .one (.int .i64 ((n + 1 : Nat) : Int))), (4, .one (.ptr 4 0)), (9, .one (.ptr 9 0)), (79, .one (.int .i64 ((ar : Nat) : Int))), (80, .one (.int .i64 ((0 : Nat) : Int)))] [(1000, .obj (Rd.c (readN (readT n) (0) rd).2)), (4, .obj [.int .i64 0, .int .i64 0, .int .i64 0, .nilsl, .int .i64 0, .nilsl, .nilsl]), (9, .obj [.int .i64 ((i : Nat) : Int), .int .i64 0, .int .i64 (Ty.k (ty)), slOf 2 (tyRows (Ty.l (ty))), .int .i64 0, .nilsl, .own 89 (0) (0)]), (89, .row 27 7 (0) (tmRows (readN (readT n) (0) rd).1))] [] [89] ⟨(WkU.of_eq rfl trivial), (WkU.of_eq rfl trivial), (WkU.of_eq rfl trivial), (WkU.of_eq rfl trivial), (WkU.of_eq rfl trivial), (WkU.of_eq rfl trivial), trivial⟩ ⟨(by exact Or.inl ⟨_, rfl, WkBlk.refl _⟩), (by exact Or.inl ⟨_, rfl, WkBlk.refl _⟩), (by (refine Or.inl ⟨_, rfl, ?_⟩; show All2 _ _ _; refine And.intro ?_ ?_; exact WkC.le (LeC.refl _); refine And.intro ?_ ?_; exact WkC.le (LeC.refl _); refine And.intro ?_ ?_; exact WkC.le (LeC.refl _); refine And.intro ?_ ?_; exact WkC.le (LeC.refl _); refine And.intro ?_ ?_; exact WkC.le (LeC.refl _); refine And.intro ?_ ?_; exact WkC.le (LeC.refl _); refine And.intro ?_ ?_; exact WkC.nil (List.mem_cons_self ..); exact trivial)), (by exact Or.inr ⟨rfl, List.mem_cons_self .., _, _, by decide, rfl⟩), trivial⟩ trivial ⟨rfl, trivial⟩ rfl rfl ⟨⟨_, rfl⟩, trivial, ⟨_, rfl⟩, ⟨_, rfl⟩, trivial, trivial, trivial⟩ ⟨(by refine And.intro ?_ ?_; exact trivial; refine And.intro ?_ ?_; exact trivial; exact trivial), (by refine And.intro ?_ ?_; exact trivial; refine And.intro ?_ ?_; exact trivial; refine And.intro ?_ ?_; exact trivial; refine And.intro ?_ ?_; exact trivial; refine And.intro ?_ ?_; exact trivial; refine And.intro ?_ ?_; exact trivial; refine And.intro ?_ ?_; exact trivial; exact trivial), (by refine And.intro ?_ ?_; exact trivial; refine And.intro ?_ ?_; exact trivial; refine And.intro ?_ ?_; exact trivial; refine And.intro ?_ ?_; exact trivial; refine And.intro ?_ ?_; exact trivial; refine And.intro ?_ ?_; exact trivial; refine And.intro ?_ ?_; exact ⟨_, _, _, _, rfl, Nat.le_refl _⟩; exact trivial), (okRows_closed (by exact rfl)), trivial⟩) ?_
      refine AW.loop (fun m t h => ∃ j : Nat, j ≤ ar ∧ m = ar - j ∧ t = tOfL [(0, .one (.ptr 1000 0)), (1, .one (.int .i64 ((n + 1 : Nat) : Int))), (4, .one (.ptr 4 0)), (9, .one (.ptr 9 0)), (79, .one (.int .i64 ((ar : Nat) : Int))), (80, .one (.int .i64 ((j : Nat) : Int)))] ∧ h = ofL [(1000, .obj (Rd.c (readN (readT n) (j) rd).2)), (4, .obj [.int .i64 0, .int .i64 0, .int .i64 0, .nilsl, .int .i64 0, .nilsl, .nilsl]), (9, .obj [.int .i64 ((i : Nat) : Int), .int .i64 0, .int .i64 (Ty.k (ty)), slOf 2 (tyRows (Ty.l (ty))), .int .i64 0, .nilsl, .own 89 (j) (j)]), (89, .row 27 7 (j) (tmRows (readN (readT n) (j) rd).1))]) ar ⟨0, Nat.zero_le _, rfl, rfl, rfl⟩ ?_
      rintro m t h ⟨j, hj, rfl, rfl, rfl⟩
      have htk : (tmRows (readN (readT n) j rd).1).length = j := by rw [tmRows_length, (readN_ok (readT_ok n) j rd).2.1]
      cases hlt2 : decide ((j : Int) < ((ar : Nat) : Int)) with
      | false =>
        have hja : j = ar := by have := of_decide_eq_false hlt2; omega
        subst hja
        refine AW.seq ?_; refine AW.region (by kernel_rfl) ?_; refine RunL.val (by exact rfl) (loc_binInt rfl rfl rfl) ?_; refine RunL.nil ?_; refine AW.seq ?_; refine AW.condFa (by exact rfl) (by assumption) ?_; refine AW.exit ?_; refine AW.seq ?_; refine AW.region (by kernel_rfl) ?_; refine RunL.val (by exact rfl) (loc_moveC rfl) ?_; refine RunL.val (by exact rfl) (loc_moveC rfl) ?_
        refine RunL.many (by exact rfl) (loc_funE (next_a ((readN (readT n) j rd).2)) rfl (by refine ⟨_, _, rfl, (by exact LeU.of_eq rfl trivial), (by exact Exists.intro _ rfl), ?_⟩; exact rfl) (by exact ⟨rfl, trivial⟩) (by exact rfl) (by simp [namesL]) (by exact ⟨⟨trivial, trivial, trivial⟩, trivial⟩)) ?_
        skip
        refine RunL.val (by exact rfl) (loc_neStr (b := sRp) (by exact rfl) (by exact rfl)) ?_
        cases hc : sEq (readN (readT n) j rd).2.next.1 sRp with
        | false =>
          refine RunL.val (by exact rfl) (loc_moveC rfl) ?_; refine RunL.skip (.inl ⟨_, _, rfl, rfl, rfl⟩) ?_; refine RunL.skip (.inl ⟨_, _, rfl, rfl, rfl⟩) ?_; refine RunL.skip (.inl ⟨_, _, rfl, rfl, rfl⟩) ?_; refine RunL.skip (.inl ⟨_, _, rfl, rfl, rfl⟩) ?_; refine RunL.val (by exact rfl) (loc_pickT rfl rfl) ?_; refine RunL.val (by exact rfl) (loc_nilCheck rfl rfl) ?_; refine RunL.val (by exact rfl) (loc_fieldAddr rfl) ?_; refine RunL.eff (by exact rfl) (loc_store (by exact rfl) (by exact rfl) (by exact rfl) (by exact rfl) (by exact rfl) (by exact Nat.le_of_ble_eq_true rfl) (by exact rfl)) ?_; refine RunL.nil ?_; refine AW.seq ?_; refine AW.region (by kernel_rfl) ?_; refine RunL.val (by exact rfl) (loc_loadA rfl rfl (by exact Cut.all (by exact rfl))) ?_; refine RunL.eff (by exact rfl) (loc_storeW rfl rfl rfl rfl (by exact rfl) (by exact rfl)) ?_; refine RunL.nil ?_; refine AW.ret ?_
          refine rq ?_
          exact ret_tm (fz := [89]) (by exact .inr rfl) (by exact rfl) (by exact rfl) (by exact ⟨⟨_, rfl, closed_tmRows _⟩, trivial⟩) rfl (by exact ⟨.le (.refl _), .le (.refl _), .le (.refl _), .le (.refl _), .le (.refl _), .le (.nil _), .row (List.mem_cons_self ..) rfl htk (LeRows.refl _), trivial⟩) (by exact rfl) (by unfold Rd.close; rw [hc]; exact wkRow_refl _)
        | true =>
          refine RunL.val (by exact rfl) (loc_moveC rfl) ?_; refine RunL.val (by exact .inl ⟨_, _, rfl, rfl, rfl⟩) (loc_moveC rfl) ?_; refine RunL.val (by exact .inl ⟨_, _, rfl, rfl, rfl⟩) (loc_nilCheck rfl rfl) ?_; refine RunL.val (by exact .inl ⟨_, _, rfl, rfl, rfl⟩) (loc_fieldAddr rfl) ?_; refine RunL.val (by exact .inl ⟨_, _, rfl, rfl, rfl⟩) (loc_load rfl rfl rfl) ?_; refine RunL.val (by exact rfl) (loc_pickF rfl rfl) ?_; refine RunL.val (by exact rfl) (loc_nilCheck rfl rfl) ?_; refine RunL.val (by exact rfl) (loc_fieldAddr rfl) ?_; refine RunL.eff (by exact rfl) (loc_store (by exact rfl) (by exact rfl) (by exact rfl) (by exact rfl) (by exact rfl) (by exact Nat.le_of_ble_eq_true rfl) (by exact rfl)) ?_; refine RunL.nil ?_; refine AW.seq ?_; refine AW.region (by kernel_rfl) ?_; refine RunL.val (by exact rfl) (loc_loadA rfl rfl (by exact Cut.all (by exact rfl))) ?_; refine RunL.eff (by exact rfl) (loc_storeW rfl rfl rfl rfl (by exact rfl) (by exact rfl)) ?_; refine RunL.nil ?_; refine AW.ret ?_
          refine rq ?_
          exact ret_tm (fz := [89]) (by exact .inr rfl) (by exact rfl) (by exact rfl) (by exact ⟨⟨_, rfl, closed_tmRows _⟩, trivial⟩) rfl (by exact ⟨.le (.refl _), .le (.refl _), .le (.refl _), .le (.refl _), .le (.refl _), .le (.nil _), .row (List.mem_cons_self ..) rfl htk (LeRows.refl _), trivial⟩) (by exact rfl) (by unfold Rd.close; rw [hc]; exact wkRow_refl _)
      | true =>
        have hja : j < ar := by have := of_decide_eq_true hlt2; omega
        have hsn := readN_snoc (readT n) j rd
        refine AW.seq ?_; refine AW.region (by kernel_rfl) ?_; refine RunL.val (by exact rfl) (loc_binInt rfl rfl rfl) ?_; refine RunL.nil ?_; refine AW.seq ?_; refine AW.condTa (by exact rfl) (by assumption) ?_; refine AW.skip ?_; refine AW.seq ?_; refine AW.block ?_; refine AW.regionD (by kernel_rfl) (by kernel_rfl) (by kernel_rfl) ?_; refine RunL.val (by exact rfl) (loc_fieldAddr rfl) ?_; refine RunL.val (by exact rfl) (loc_load rfl rfl rfl) ?_; refine RunL.val (by exact rfl) (loc_moveC rfl) ?_; refine RunL.val (by exact rfl) (loc_moveC rfl) ?_; refine RunL.val (by exact rfl) (loc_subB rfl rfl (by omega)) ?_
        refine RunL.many (by exact rfl) (loc_funE (ih2 (readN (readT n) j rd).2 (readN_okR (readT_okR n) j rd hrd)) rfl (by refine ⟨_, _, rfl, (by exact LeU.of_eq rfl trivial), (by exact Exists.intro _ rfl), ?_⟩; refine ⟨_, _, rfl, (by exact LeU.of_eq rfl trivial), (by exact trivial), ?_⟩; exact rfl) (by exact ⟨rfl, trivial⟩) (by exact rfl) (by simp [namesL]) (by exact ⟨⟨trivial, trivial, trivial⟩, trivial⟩)) ?_
        refine RunL.val (by exact rfl) (loc_sliceLit (by exact rfl) (by exact rfl) (by decide) (by decide) (by exact RowsOf.cons (by exact rfl) RowsOf.nil) (by exact AllP.cons (by exact rfl) AllP.nil) (by exact rfl)) ?_
        refine RunL.mem (by exact rfl) (loc_appendAll (by exact rfl) (by exact rfl) (by exact rfl) (by exact .inl rfl) (by exact htk) (by exact ⟨rfl, trivial⟩) (by simp only [List.length_cons, List.length_nil]; omega) (by decide)) ?_
        have hrows : tmRows (readN (readT n) j rd).1 ++ [(readT n (readN (readT n) j rd).2).1.c] = tmRows (readN (readT n) (j + 1) rd).1 := by
          rw [hsn, tmRows_append]; simp [tmRows, Tm.cells_c]
        have he : (readT n (readN (readT n) j rd).2).2 = (readN (readT n) (j + 1) rd).2 := by rw [hsn]
        rw [hrows, he]
        refine RunL.val (by exact rfl) (loc_fieldAddr rfl) ?_; refine RunL.eff (by exact rfl) (loc_store (by exact rfl) (by exact rfl) (by exact rfl) (by exact rfl) (by exact rfl) (by exact Nat.le_of_ble_eq_true rfl) (by exact rfl)) ?_; refine RunL.nilD (by kernel_rfl) ?_; refine AW.region (by kernel_rfl) ?_; refine RunL.val (by exact rfl) (loc_inc rfl rfl (by omega)) ?_; refine RunL.val (by exact rfl) (loc_moveC rfl) ?_; refine RunL.nil ?_
        exact ⟨ar - (j + 1), _, _, by omega, (gh_lit [(0, .one (.ptr 1000 0)), (1, .one (.int .i64 ((n + 1 : Nat) : Int))), (4, .one (.ptr 4 0)), (9, .one (.ptr 9 0)), (79, .one (.int .i64 ((ar : Nat) : Int))), (80, .one (.int .i64 (((j + 1) : Nat) : Int)))] [(1000, .obj (Rd.c (readN (readT n) ((j + 1)) rd).2)), (4, .obj [.int .i64 0, .int .i64 0, .int .i64 0, .nilsl, .int .i64 0, .nilsl, .nilsl]), (9, .obj [.int .i64 ((i : Nat) : Int), .int .i64 0, .int .i64 (Ty.k (ty)), slOf 2 (tyRows (Ty.l (ty))), .int .i64 0, .nilsl, .own 89 ((j + 1)) ((j + 1))]), (89, .row 27 7 ((j + 1)) (tmRows (readN (readT n) ((j + 1)) rd).1))] [] [] ⟨(WkU.of_eq rfl trivial), (WkU.of_eq rfl trivial), (WkU.of_eq rfl trivial), (WkU.of_eq rfl trivial), (WkU.of_eq rfl trivial), (WkU.of_eq rfl trivial), trivial⟩ ⟨(by exact Or.inl ⟨_, rfl, WkBlk.refl _⟩), (by exact Or.inl ⟨_, rfl, WkBlk.refl _⟩), (by exact Or.inl ⟨_, rfl, WkBlk.refl _⟩), (by exact Or.inl ⟨_, rfl, WkBlk.refl _⟩), trivial⟩ trivial trivial rfl rfl ⟨⟨_, rfl⟩, trivial, ⟨_, rfl⟩, ⟨_, rfl⟩, trivial, trivial, trivial⟩ ⟨(by refine And.intro ?_ ?_; exact trivial; refine And.intro ?_ ?_; exact trivial; exact trivial), (by refine And.intro ?_ ?_; exact trivial; refine And.intro ?_ ?_; exact trivial; refine And.intro ?_ ?_; exact trivial; refine And.intro ?_ ?_; exact trivial; refine And.intro ?_ ?_; exact trivial; refine And.intro ?_ ?_; exact trivial; refine And.intro ?_ ?_; exact trivial; exact trivial), (by refine And.intro ?_ ?_; exact trivial; refine And.intro ?_ ?_; exact trivial; refine And.intro ?_ ?_; exact trivial; refine And.intro ?_ ?_; exact trivial; refine And.intro ?_ ?_; exact trivial; refine And.intro ?_ ?_; exact trivial; refine And.intro ?_ ?_; exact ⟨_, _, _, _, rfl, Nat.le_refl _⟩; exact trivial), (okRows_closed (by exact closed_tmRows _)), trivial⟩), j + 1, by omega, rfl, rfl, rfl⟩
end Go.Proofs.YtnflnbdlgdjfmabDoor
namespace Go.Proofs.YtnflnbdlgdjfmabDoor
open Go.RowKit
set_option linter.unusedVariables false
set_option linter.unusedSimpArgs false
set_option maxRecDepth 100000
attribute [local irreducible] RunL AW LocOp ACalls Gh
instance : TArr Tryd.prog 69 10 1 := ⟨by kernel_rfl⟩
instance : TArr Tryd.prog 95 4 1 := ⟨by kernel_rfl⟩
theorem mkB_size (l : List UInt8) : (mkB l).size = l.length := by simp [mkB, ByteArray.size]
theorem mkB_app (a b : List UInt8) : mkB a ++ mkB b = mkB (a ++ b) := by
  apply ByteArray.ext
  simp [mkB]
theorem kTxt_len {k : Int} (h : k = 0 ∨ k = 1 ∨ k = 2 ∨ k = 3) : (kTxt k).length ≤ 5 := by rcases h with rfl | rfl | rfl | rfl <;> decide
theorem wTxt_len {k : Int} (h : k = 4 ∨ k = 5 ∨ k = 6 ∨ k = 7 ∨ k = 8 ∨ k = 9) : (wTxt k).length ≤ 4 := by rcases h with rfl | rfl | rfl | rfl | rfl | rfl <;> decide
theorem tyTxt_len : ∀ (d : Nat) (a : Ty), a.good d = true → (tyTxt a).length + 10 ≤ 20 * 2 ^ d
  | 0, a, h => by simp [Ty.good] at h
  | d + 1, .mk k l, h => by
    have hp : 1 ≤ 2 ^ d := Nat.one_le_two_pow
    have h1 := good_right h
    cases h1 with
    | base hk =>
      have h3 : (k == 3) = false := by rw [beq_eq_false_iff_ne]; omega
      have := kTxt_len (k := k) (by omega)
      simp only [tyTxt, tyTxtL, h3, List.append_nil, Bool.false_eq_true, if_false, Nat.pow_succ]
      omega
    | @fn x y hx hy =>
      simp only [Ty.good, bne_self_eq_false, Bool.false_eq_true, if_false, Bool.and_eq_true] at h
      have i1 := tyTxt_len d x h.2.1
      have i2 := tyTxt_len d y h.2.2
      have := kTxt_len (k := 3) (by simp)
      simp only [tyTxt, tyTxtL, beq_self_eq_true, if_true, List.length_cons, List.length_append, List.length_nil, Nat.pow_succ]
      omega
theorem tyTxtL_take {l : List Ty} {i : Nat} (h : i < l.length) : tyTxtL (l.take (i + 1)) = tyTxtL (l.take i) ++ (32 :: tyTxt l[i]) := by
  have hap : ∀ a b : List Ty, tyTxtL (a ++ b) = tyTxtL a ++ tyTxtL b := by
    intro a b
    induction a with
    | nil => simp [tyTxtL]
    | cons x a ih => simp [tyTxtL, ih]
  rw [List.take_add_one, List.getElem?_eq_getElem h, Option.toList_some, hap]
  simp [tyTxtL]
theorem tmTxtL_take {l : List Tm} {i : Nat} (h : i < l.length) : tmTxtL (l.take (i + 1)) = tmTxtL (l.take i) ++ (32 :: tmTxt l[i]) := by
  have hap : ∀ a b : List Tm, tmTxtL (a ++ b) = tmTxtL a ++ tmTxtL b := by
    intro a b
    induction a with
    | nil => simp [tmTxtL]
    | cons x a ih => simp [tmTxtL, ih]
  rw [List.take_add_one, List.getElem?_eq_getElem h, Option.toList_some, hap]
  simp [tmTxtL]
theorem tyTxtL_le {d : Nat} {l : List Ty} (h : ∀ x ∈ l, x.good d = true) (hd : d ≤ 4) : ∀ {i : Nat}, i ≤ l.length → (tyTxtL (l.take i)).length ≤ i * 400
  | 0, _ => by simp [tyTxtL]
  | i + 1, hi => by
    have hil : i < l.length := by omega
    have h1 := tyTxtL_le h hd (i := i) (by omega)
    have h2 := tyTxt_len d l[i] (h _ (List.getElem_mem hil))
    have hpow : 2 ^ d ≤ 2 ^ 4 := Nat.pow_le_pow_right (by decide) hd
    rw [tyTxtL_take hil, List.length_append, List.length_cons]
    omega
theorem kinds_txt {k : Int} (h0 : 0 ≤ k) (h3 : k ≤ 3) : kindsC[k.toNat * 1]? = some (.str (mkB (kTxt k))) := by
  have : k = 0 ∨ k = 1 ∨ k = 2 ∨ k = 3 := by omega
  rcases this with rfl | rfl | rfl | rfl <;> rfl
theorem words_txt {k : Int} (h0 : 4 ≤ k) (h3 : k ≤ 9) : wordsC[k.toNat * 1]? = some (.str (mkB (wTxt k))) := by
  have : k = 4 ∨ k = 5 ∨ k = 6 ∨ k = 7 ∨ k = 8 ∨ k = 9 := by omega
  rcases this with rfl | rfl | rfl | rfl | rfl | rfl <;> rfl
theorem tmTxtL_le (l : List Tm) (i : Nat) : (tmTxtL (l.take i)).length ≤ (tmTxtL l).length := by
  have hap : ∀ a b : List Tm, tmTxtL (a ++ b) = tmTxtL a ++ tmTxtL b := by
    intro a b
    induction a with
    | nil => simp [tmTxtL]
    | cons x a ih => simp [tmTxtL, ih]
  have := congrArg List.length (hap (l.take i) (l.drop i))
  rw [List.take_append_drop, List.length_append] at this
  omega
theorem dec_len (u : Nat) : (Lib.decDigits u).length ≤ u + 1 := by
  induction u using Nat.strongRecOn with
  | _ u ih =>
    rw [Lib.decDigits]
    split
    · simp
    · have := ih (u / 10) (by omega)
      simp only [List.length_append, List.length_cons, List.length_nil]
      omega
theorem itoa_len {n : Int} (h : -1000000 ≤ n ∧ n ≤ 1000000) : (Lib.itoa n).length ≤ 1000002 := by
  unfold Lib.itoa
  split
  · have := dec_len n.natAbs; simp only [List.length_cons]; omega
  · have := dec_len n.toNat; omega
theorem tmTxt_len : ∀ (a : Tm) (ar ow : Int), a.good ar ow = true → ar + ow + a.nodes ≤ 1000000 → (tmTxt a).length ≤ a.nodes * 2000000 := by
  intro a
  induction a using Tm.ind' with
  | h a ih =>
  intro ar ow hg hb
  have hne := nodes_eta a
  rw [tmTxt_eta, hne]
  rcases good_cases hg with ⟨e, el, n0, n1, _⟩ | ⟨e, el, en, _⟩ | ⟨e, el, en, _⟩ | ⟨e, _, _, x, y, el, h1, h2⟩ | ⟨e, _, _, x, y, z, el, h1, h2, h3⟩ | ⟨e, _, ht, x, el, h1⟩ | ⟨e, _, ht, x, el, h1⟩
  · have := itoa_len (n := a.n) (by omega)
    rw [if_pos (by simpa using e)]; simp only [List.length_cons]; omega
  · have := itoa_len (n := a.n) (inB_iff.1 en)
    rw [if_neg (by simp [e]), if_pos (by simpa using e)]; omega
  · rw [if_neg (by simp [e]), if_neg (by simp [e]), if_pos (by simpa using e)]
    have h1 : sYes.data.toList.length = 3 := rfl
    have h2 : sNo.data.toList.length = 2 := rfl
    split <;> omega
  · have := wTxt_len (k := a.k) (by omega)
    have i1 := ih x (by rw [el]; simp) _ _ h1 (by rw [el] at hne; simp only [nodesL] at hne; omega)
    have i2 := ih y (by rw [el]; simp) _ _ h2 (by rw [el] at hne; simp only [nodesL] at hne; omega)
    rw [if_neg (by simp; omega), if_neg (by simp; omega), if_neg (by simp; omega), if_neg (by simp; omega), el]
    simp only [tmTxtL, nodesL, List.length_cons, List.length_append, List.length_nil, List.nil_append]
    omega
  · have := wTxt_len (k := a.k) (by omega)
    have i1 := ih x (by rw [el]; simp) _ _ h1 (by rw [el] at hne; simp only [nodesL] at hne; omega)
    have i2 := ih y (by rw [el]; simp) _ _ h2 (by rw [el] at hne; simp only [nodesL] at hne; omega)
    have i3 := ih z (by rw [el]; simp) _ _ h3 (by rw [el] at hne; simp only [nodesL] at hne; omega)
    rw [if_neg (by simp; omega), if_neg (by simp; omega), if_neg (by simp; omega), if_neg (by simp; omega), el]
    simp only [tmTxtL, nodesL, List.length_cons, List.length_append, List.length_nil, List.nil_append]
    omega
  · have := wTxt_len (k := a.k) (by omega)
    have hty := tyTxt_len 4 a.t ht
    have i1 := ih x (by rw [el]; simp) _ _ h1 (by rw [el] at hne; simp only [nodesL] at hne; omega)
    rw [if_neg (by simp; omega), if_neg (by simp; omega), if_neg (by simp; omega), if_pos (by simp; omega), el]
    simp only [tmTxtL, nodesL, List.length_cons, List.length_append, List.length_nil, List.nil_append]
    omega
  · have := wTxt_len (k := a.k) (by omega)
    have hty := tyTxt_len 4 a.t ht
    have i1 := ih x (by rw [el]; simp) _ _ h1 (by rw [el] at hne; simp only [nodesL] at hne; omega)
    rw [if_neg (by simp; omega), if_neg (by simp; omega), if_neg (by simp; omega), if_pos (by simp; omega), el]
    simp only [tmTxtL, nodesL, List.length_cons, List.length_append, List.length_nil, List.nil_append]
    omega
set_option maxHeartbeats 4000000 in
theorem typed_a : ∀ (d : Nat), d ≤ 5 → ∀ (a : Ty), a.good d = true → ACalls Tryd.prog 45 [a.u] [] (.one (.str (mkB (tyTxt a)))) [] := by
  intro d
  induction d with
  | zero => intro _ a h; simp [Ty.good] at h
  | succ d ih =>
  intro hd a hg
  have hr := good_right hg
  have hk : 0 ≤ a.k ∧ a.k ≤ 3 := by cases hr with | base h => simp; omega | fn _ _ => simp
  have hpow : 2 ^ d ≤ 2 ^ 4 := Nat.pow_le_pow_right (by decide) (by omega)
  have hparts : ∀ x ∈ a.l, x.good d = true := by
    cases hr with
    | base h => intro x hx; cases hx
    | @fn x y hx hy =>
      simp only [Ty.good, bne_self_eq_false, Bool.false_eq_true, if_false, Bool.and_eq_true] at hg
      intro z hz
      simp at hz
      rcases hz with rfl | rfl
      · exact hg.2.1
      · exact hg.2.2
  have hlen : a.l.length ≤ 2 := hr.len
  have hL := tyRows_length a.l
  have k0 : decide (a.k < 0) = false := by simp; omega
  have k3 : decide (a.k > 3) = false := by simp; omega
  have hkk := kinds_txt hk.1 hk.2
  refine acalls_of_body Tryd.func45 rfl (by kernel_rfl) (Nat.le_of_ble_eq_true rfl) trivial (by simp [namesL]) ?_
  refine AW.seq ?_; refine AW.region (by kernel_rfl) ?_; refine RunL.mem (by exact rfl) (loc_boxD rfl rfl rfl) ?_; refine RunL.val (by exact rfl) (loc_assignC rfl) ?_; refine RunL.nil ?_; refine AW.seq ?_; refine AW.seq ?_; refine AW.region (by kernel_rfl) ?_; refine RunL.val (by exact rfl) (loc_fieldAddr rfl) ?_; refine RunL.val (by exact rfl) (loc_load rfl rfl rfl) ?_; refine RunL.val (by exact rfl) (loc_binInt rfl rfl rfl) ?_; refine RunL.val (by exact rfl) (loc_moveC rfl) ?_; refine RunL.val (by exact .inl ⟨_, _, rfl, rfl, guard_eq false (by assumption) rfl⟩) (loc_fieldAddr rfl) ?_; refine RunL.val (by exact .inl ⟨_, _, rfl, rfl, guard_eq false (by assumption) rfl⟩) (loc_load rfl rfl rfl) ?_; refine RunL.val (by exact .inl ⟨_, _, rfl, rfl, guard_eq false (by assumption) rfl⟩) (loc_binInt rfl rfl rfl) ?_; refine RunL.val (by exact rfl) (loc_pickI false (by assumption) rfl rfl) ?_; refine RunL.nil ?_; refine AW.condFa (by exact rfl) (by assumption) ?_; refine AW.skip ?_; refine AW.seq ?_; refine AW.region (by kernel_rfl) ?_; refine RunL.val (by exact rfl) (loc_fieldAddr rfl) ?_; refine RunL.val (by exact rfl) (loc_load rfl rfl rfl) ?_; refine RunL.val (by exact rfl) (loc_indexArrI rfl rfl (by omega) (by omega)) ?_; refine RunL.val (by exact rfl) (loc_loadF rfl (by assumption)) ?_; refine RunL.val (by exact rfl) (loc_assignC rfl) ?_; refine RunL.nil ?_; refine AW.seq ?_; refine AW.seq ?_; refine AW.region (by kernel_rfl) ?_; refine RunL.val (by exact rfl) (loc_fieldAddr rfl) ?_; refine RunL.val (by exact rfl) (loc_load rfl rfl rfl) ?_; refine RunL.val (by exact rfl) (loc_lenSl rfl) ?_; refine RunL.val (by exact rfl) (loc_moveC rfl) ?_; refine RunL.nil ?_; refine AW.block ?_
  refine AW.gh (gh_lit [(1, .one (.ptr 1 0)), (3, .one (.str (mkB (kTxt a.k)))), (19, .one (slOf 2 (tyRows a.l))), (20, .one (.int .i64 ((tyRows a.l).length : Nat))), (21, .one (.int .i64 ((0 : Nat) : Int)))] [(1, .obj a.c)] [] [] ⟨(WkU.of_eq rfl trivial), (by exact WkU.of_eq rfl trivial), (by exact WkU.of_eq rfl trivial), (WkU.of_eq rfl trivial), (WkU.of_eq rfl trivial), trivial⟩ ⟨(by exact Or.inl ⟨_, rfl, WkBlk.refl _⟩), trivial⟩ trivial trivial rfl rfl ⟨⟨_, rfl⟩, trivial, trivial, trivial, trivial, trivial⟩ ⟨(by refine And.intro ?_ ?_; exact trivial; refine And.intro ?_ ?_; exact trivial; exact trivial), trivial⟩) ?_
  refine AW.lenSl 19 rfl fun hmax => ?_
  refine AW.loop (fun m t h => ∃ i : Nat, i ≤ a.l.length ∧ m = a.l.length - i ∧ t = tOfL [(1, .one (.ptr 1 0)), (3, .one (.str (mkB (kTxt a.k ++ tyTxtL (a.l.take (i)))))), (19, .one (slOf 2 (tyRows a.l))), (20, .one (.int .i64 ((tyRows a.l).length : Nat))), (21, .one (.int .i64 ((i : Nat) : Int)))] ∧ h = ofL [(1, .obj a.c)]) a.l.length ⟨0, Nat.zero_le _, rfl, by simp [tyTxtL], rfl⟩ ?_
  rintro m t h ⟨i, hi, rfl, rfl, rfl⟩
  have hk5 := kTxt_len (k := a.k) (by omega)
  have hsz : (tyTxtL (a.l.take i)).length ≤ i * 400 := tyTxtL_le hparts (by omega) hi
  cases hlt : decide ((i : Int) < ((tyRows a.l).length : Nat)) with
  | false =>
    have hil : i = a.l.length := by simp at hlt; omega
    rw [show a.l.take i = a.l by rw [hil, List.take_length]]
    rw [show a.l.take i = a.l by rw [hil, List.take_length]] at hsz
    cases k3' : (a.k == 3) with
    | true =>
      refine AW.seq ?_; refine AW.region (by kernel_rfl) ?_; refine RunL.val (by exact rfl) (loc_binInt rfl rfl rfl) ?_; refine RunL.nil ?_; refine AW.seq ?_; refine AW.condFa (by exact rfl) (by assumption) ?_; refine AW.exit ?_; refine AW.seq ?_; refine AW.seq ?_; refine AW.region (by kernel_rfl) ?_; refine RunL.val (by exact rfl) (loc_fieldAddr rfl) ?_; refine RunL.val (by exact rfl) (loc_load rfl rfl rfl) ?_; refine RunL.val (by exact rfl) (loc_binInt rfl rfl rfl) ?_; refine RunL.nil ?_; refine AW.condTa (by exact rfl) (by assumption) ?_; refine AW.seq ?_; refine AW.region (by kernel_rfl) ?_; refine RunL.val (by exact rfl) (loc_moveC rfl) ?_
      refine RunL.val (by exact rfl) (loc_addStr (a := mkB [40]) (by exact rfl) (by exact rfl) (by simp only [mkB_size, List.length_cons, List.length_nil, List.length_append]; omega) (mkB_app _ _)) ?_
      refine RunL.val (by exact rfl) (loc_addStr (b := mkB [41]) (by exact rfl) (by exact rfl) (by simp only [mkB_size, List.length_cons, List.length_nil, List.length_append]; omega) (mkB_app _ _)) ?_
      refine RunL.val (by exact rfl) (loc_assignC rfl) ?_; refine RunL.nil ?_; refine AW.ret ?_
      rw [show tyTxt a = [40] ++ (kTxt a.k ++ tyTxtL a.l) ++ [41] by rw [tyTxt_eta, k3']; rfl]
      exact ret_same (.inr rfl) rfl trivial
    | false =>
      refine AW.seq ?_; refine AW.region (by kernel_rfl) ?_; refine RunL.val (by exact rfl) (loc_binInt rfl rfl rfl) ?_; refine RunL.nil ?_; refine AW.seq ?_; refine AW.condFa (by exact rfl) (by assumption) ?_; refine AW.exit ?_; refine AW.seq ?_; refine AW.seq ?_; refine AW.region (by kernel_rfl) ?_; refine RunL.val (by exact rfl) (loc_fieldAddr rfl) ?_; refine RunL.val (by exact rfl) (loc_load rfl rfl rfl) ?_; refine RunL.val (by exact rfl) (loc_binInt rfl rfl rfl) ?_; refine RunL.nil ?_; refine AW.condFa (by exact rfl) (by assumption) ?_; refine AW.skip ?_; refine AW.seq ?_; refine AW.region (by kernel_rfl) ?_; refine RunL.val (by exact rfl) (loc_moveC rfl) ?_; refine RunL.val (by exact rfl) (loc_assignC rfl) ?_; refine RunL.nil ?_; refine AW.ret ?_
      rw [show tyTxt a = kTxt a.k ++ tyTxtL a.l by rw [tyTxt_eta, k3']; rfl]
      exact ret_same (.inr rfl) rfl trivial
  | true =>
    have hil : i < a.l.length := by simp at hlt; omega
    have hr1 := tyRows_get hil
    have hmem : a.l[i] ∈ a.l := List.getElem_mem hil
    have hc := ih (by omega) a.l[i] (hparts _ hmem)
    have hl1 := tyTxt_len d a.l[i] (hparts _ hmem)
    refine AW.seq ?_; refine AW.region (by kernel_rfl) ?_; refine RunL.val (by exact rfl) (loc_binInt rfl rfl rfl) ?_; refine RunL.nil ?_; refine AW.seq ?_; refine AW.condTa (by exact rfl) (by assumption) ?_; refine AW.skip ?_; refine AW.seq ?_; refine AW.block ?_; refine AW.seq ?_; refine AW.region (by kernel_rfl) ?_; refine RunL.val (by exact rfl) (loc_indexSl _ rfl rfl rfl (by assumption) rfl) ?_; refine RunL.val (by exact rfl) (loc_loadFA rfl (by exact Cut.all (by exact rfl))) ?_; refine RunL.mem (by exact rfl) (loc_allocD rfl rfl) ?_; refine RunL.eff (by exact rfl) (loc_storeW rfl rfl rfl rfl (by exact rfl) (by exact rfl)) ?_; refine RunL.nil ?_; refine AW.region (by kernel_rfl) ?_; refine RunL.val (by exact rfl) (loc_moveC rfl) ?_; refine RunL.val (by exact rfl) (loc_loadA rfl rfl (by exact Cut.all (by exact rfl))) ?_
    refine RunL.val (by exact rfl) (loc_fun hc rfl (by refine ⟨_, _, rfl, (by exact LeU.of_eq rfl trivial), (by (refine And.intro ?_ ?_; exact trivial; refine And.intro ?_ ?_; exact trivial; exact trivial; done)), ?_⟩; exact rfl)) ?_
    refine RunL.val (by exact rfl) (loc_addStr (a := mkB [32]) (by exact rfl) (by exact rfl) (by simp only [mkB_size, List.length_cons, List.length_nil, List.length_append]; omega) (mkB_app _ _)) ?_
    refine RunL.val (by exact rfl) (loc_addStr (by exact rfl) (by exact rfl) (by simp only [mkB_size, List.length_cons, List.length_nil, List.length_append]; omega) (mkB_app _ _)) ?_
    rw [show kTxt a.k ++ tyTxtL (a.l.take i) ++ ([32] ++ tyTxt a.l[i]) = kTxt a.k ++ tyTxtL (a.l.take (i + 1)) by rw [tyTxtL_take hil, List.append_assoc]; rfl]
    refine RunL.val (by exact rfl) (loc_assignC rfl) ?_; refine RunL.nil ?_; refine AW.region (by kernel_rfl) ?_; refine RunL.val (by exact rfl) (loc_inc rfl rfl (by omega)) ?_; refine RunL.val (by exact rfl) (loc_moveC rfl) ?_; refine RunL.nil ?_
    exact ⟨a.l.length - (i + 1), _, _, by omega, (gh_lit [(1, .one (.ptr 1 0)), (3, .one (.str (mkB (kTxt a.k ++ tyTxtL (a.l.take (i + 1)))))), (19, .one (slOf 2 (tyRows a.l))), (20, .one (.int .i64 ((tyRows a.l).length : Nat))), (21, .one (.int .i64 (((i + 1) : Nat) : Int)))] [(1, .obj a.c)] [] [] ⟨(WkU.of_eq rfl trivial), (by exact WkU.of_eq rfl trivial), (by exact WkU.of_eq rfl trivial), (WkU.of_eq rfl trivial), (WkU.of_eq rfl trivial), trivial⟩ ⟨(by exact Or.inl ⟨_, rfl, WkBlk.refl _⟩), trivial⟩ trivial trivial rfl rfl ⟨⟨_, rfl⟩, trivial, trivial, trivial, trivial, trivial⟩ ⟨(by refine And.intro ?_ ?_; exact trivial; refine And.intro ?_ ?_; exact trivial; exact trivial), trivial⟩), i + 1, by omega, rfl, rfl, rfl⟩
/-- What stands ahead of the parts. -/
def headTxt (a : Tm) : List UInt8 := 40 :: (wTxt a.k ++ (if a.k == 7 || a.k == 9 then 32 :: tyTxt a.t else []))
theorem tmTxt_head {a : Tm} (h1 : (a.k == 1) = false) (h2 : (a.k == 2) = false) (h3 : (a.k == 3) = false) : tmTxt a = headTxt a ++ tmTxtL a.l ++ [41] := by
  rw [tmTxt_eta, h1, h2, h3]; simp [headTxt]
set_option maxHeartbeats 8000000 in
theorem show_a : ∀ (a : Tm) (ar ow : Int), a.good ar ow = true → 0 ≤ ar + ow → ar + ow + a.nodes ≤ 1000000 → ACalls Tryd.prog 27 [a.u] [] (.one (.str (mkB (tmTxt a)))) [] := by
  intro a
  induction a using Tm.ind' with
  | h a ih =>
  intro ar ow hg hb0 hb
  have hne := nodes_eta a
  have hL := tmRows_length a.l
  have hnn := nodesL_len a.l
  refine acalls_of_body Tryd.func27 rfl (by kernel_rfl) (Nat.le_of_ble_eq_true rfl) trivial (by simp [namesL]) ?_
  cases k1 : (a.k == 1) with
  | true =>
    have e : a.k = 1 := by simpa using k1
    have hn : -1000000 ≤ a.n ∧ a.n ≤ 1000000 := by
      rcases good_cases hg with ⟨_, _, n0, n1, _⟩ | ⟨e', _⟩ | ⟨e', _⟩ | ⟨e', _⟩ | ⟨e', _⟩ | ⟨e', _⟩ | ⟨e', _⟩ <;> omega
    have hl := itoa_len hn
    refine AW.seq ?_; refine AW.region (by kernel_rfl) ?_; refine RunL.mem (by exact rfl) (loc_boxD rfl rfl rfl) ?_; refine RunL.val (by exact rfl) (loc_assignC rfl) ?_; refine RunL.nil ?_; refine AW.seq ?_; refine AW.seq ?_; refine AW.region (by kernel_rfl) ?_; refine RunL.val (by exact rfl) (loc_fieldAddr rfl) ?_; refine RunL.val (by exact rfl) (loc_load rfl rfl rfl) ?_; refine RunL.nil ?_; refine AW.block ?_; refine AW.seq ?_; refine AW.region (by kernel_rfl) ?_; refine RunL.val (by exact rfl) (loc_binInt rfl rfl rfl) ?_; refine RunL.val (by exact rfl) (loc_assignC rfl) ?_; refine RunL.nil ?_; refine AW.condTa (by exact rfl) (by assumption) ?_; refine AW.seq ?_; refine AW.region (by kernel_rfl) ?_; refine RunL.val (by exact rfl) (loc_fieldAddr rfl) ?_; refine RunL.val (by exact rfl) (loc_load rfl rfl rfl) ?_
    refine RunL.val (by exact rfl) (loc_fun (itoa_a a.n (by omega) (by omega)) rfl (by refine ⟨_, _, rfl, (by exact LeU.of_eq rfl trivial), (by exact trivial), ?_⟩; exact rfl)) ?_
    refine RunL.val (by exact rfl) (loc_addStr (a := mkB [35]) (b := mkB (Lib.itoa a.n)) (by exact rfl) (by exact rfl) (by simp only [mkB_size, List.length_cons, List.length_nil, List.length_append]; omega) (mkB_app _ _)) ?_
    refine RunL.val (by exact rfl) (loc_assignC rfl) ?_; refine RunL.nil ?_; refine AW.ret ?_
    rw [show tmTxt a = [35] ++ Lib.itoa a.n by rw [tmTxt_eta, k1]; rfl]
    exact ret_same (.inr rfl) rfl trivial
  | false =>
  cases k2 : (a.k == 2) with
  | true =>
    have e : a.k = 2 := by simpa using k2
    have hn : -1000000 ≤ a.n ∧ a.n ≤ 1000000 := by
      rcases good_cases hg with ⟨e', _⟩ | ⟨_, _, en, _⟩ | ⟨e', _⟩ | ⟨e', _⟩ | ⟨e', _⟩ | ⟨e', _⟩ | ⟨e', _⟩ <;> first | exact inB_iff.1 en | omega
    refine AW.seq ?_; refine AW.region (by kernel_rfl) ?_; refine RunL.mem (by exact rfl) (loc_boxD rfl rfl rfl) ?_; refine RunL.val (by exact rfl) (loc_assignC rfl) ?_; refine RunL.nil ?_; refine AW.seq ?_; refine AW.seq ?_; refine AW.region (by kernel_rfl) ?_; refine RunL.val (by exact rfl) (loc_fieldAddr rfl) ?_; refine RunL.val (by exact rfl) (loc_load rfl rfl rfl) ?_; refine RunL.nil ?_; refine AW.block ?_; refine AW.seq ?_; refine AW.region (by kernel_rfl) ?_; refine RunL.val (by exact rfl) (loc_binInt rfl rfl rfl) ?_; refine RunL.val (by exact rfl) (loc_assignC rfl) ?_; refine RunL.nil ?_; refine AW.condFa (by exact rfl) (by assumption) ?_; refine AW.seq ?_; refine AW.region (by kernel_rfl) ?_; refine RunL.val (by exact rfl) (loc_binInt rfl rfl rfl) ?_; refine RunL.val (by exact rfl) (loc_assignC rfl) ?_; refine RunL.nil ?_; refine AW.condTa (by exact rfl) (by assumption) ?_; refine AW.seq ?_; refine AW.region (by kernel_rfl) ?_; refine RunL.val (by exact rfl) (loc_fieldAddr rfl) ?_; refine RunL.val (by exact rfl) (loc_load rfl rfl rfl) ?_
    refine RunL.val (by exact rfl) (loc_fun (itoa_a a.n (by omega) (by omega)) rfl (by refine ⟨_, _, rfl, (by exact LeU.of_eq rfl trivial), (by exact trivial), ?_⟩; exact rfl)) ?_
    refine RunL.val (by exact rfl) (loc_assignC rfl) ?_; refine RunL.nil ?_; refine AW.ret ?_
    rw [show tmTxt a = Lib.itoa a.n by rw [tmTxt_eta, k1, k2]; rfl]
    exact ret_same (.inr rfl) rfl trivial
  | false =>
  cases k3 : (a.k == 3) with
  | true =>
    have e : a.k = 3 := by simpa using k3
    have hn : a.n = 0 ∨ a.n = 1 := by
      rcases good_cases hg with ⟨e', _⟩ | ⟨e', _⟩ | ⟨_, _, en, _⟩ | ⟨e', _⟩ | ⟨e', _⟩ | ⟨e', _⟩ | ⟨e', _⟩ <;> first | exact en | omega
    rcases hn with hn | hn
    · refine AW.seq ?_; refine AW.region (by kernel_rfl) ?_; refine RunL.mem (by exact rfl) (loc_boxD rfl rfl rfl) ?_; refine RunL.val (by exact rfl) (loc_assignC rfl) ?_; refine RunL.nil ?_; refine AW.seq ?_; refine AW.seq ?_; refine AW.region (by kernel_rfl) ?_; refine RunL.val (by exact rfl) (loc_fieldAddr rfl) ?_; refine RunL.val (by exact rfl) (loc_load rfl rfl rfl) ?_; refine RunL.nil ?_; refine AW.block ?_; refine AW.seq ?_; refine AW.region (by kernel_rfl) ?_; refine RunL.val (by exact rfl) (loc_binInt rfl rfl rfl) ?_; refine RunL.val (by exact rfl) (loc_assignC rfl) ?_; refine RunL.nil ?_; refine AW.condFa (by exact rfl) (by assumption) ?_; refine AW.seq ?_; refine AW.region (by kernel_rfl) ?_; refine RunL.val (by exact rfl) (loc_binInt rfl rfl rfl) ?_; refine RunL.val (by exact rfl) (loc_assignC rfl) ?_; refine RunL.nil ?_; refine AW.condFa (by exact rfl) (by assumption) ?_; refine AW.seq ?_; refine AW.region (by kernel_rfl) ?_; refine RunL.val (by exact rfl) (loc_binInt rfl rfl rfl) ?_; refine RunL.val (by exact rfl) (loc_assignC rfl) ?_; refine RunL.nil ?_; refine AW.condTa (by exact rfl) (by assumption) ?_; refine AW.seq ?_; refine AW.region (by kernel_rfl) ?_; refine RunL.val (by exact rfl) (loc_sliceLit (by exact rfl) (by exact rfl) (by decide) (by decide) (by exact RowsOf.cons (by exact rfl) (RowsOf.cons (by exact rfl) RowsOf.nil)) (by exact AllP.cons (by exact rfl) (AllP.cons (by exact rfl) AllP.nil)) (by exact rfl)) ?_; refine RunL.val (by exact rfl) (loc_fieldAddr rfl) ?_; refine RunL.val (by exact rfl) (loc_load rfl rfl rfl) ?_
      refine RunL.val (by exact rfl) (loc_andB (b := 1) (r := 0) (by exact rfl) (by exact rfl) (by rw [hn]; exact and00)) ?_
      refine RunL.val (by exact rfl) (loc_indexSlF 0 (by exact rfl) (by exact rfl) (by exact rfl) (by exact rfl) (by exact rfl)) ?_
      refine RunL.val (by exact rfl) (loc_loadF rfl (by exact rfl)) ?_; refine RunL.val (by exact rfl) (loc_assignC rfl) ?_; refine RunL.nil ?_; refine AW.ret ?_
      rw [show tmTxt a = [110, 111] by rw [tmTxt_eta, k1, k2, k3, hn]; rfl]
      exact ret_same (.inr rfl) rfl trivial
    · refine AW.seq ?_; refine AW.region (by kernel_rfl) ?_; refine RunL.mem (by exact rfl) (loc_boxD rfl rfl rfl) ?_; refine RunL.val (by exact rfl) (loc_assignC rfl) ?_; refine RunL.nil ?_; refine AW.seq ?_; refine AW.seq ?_; refine AW.region (by kernel_rfl) ?_; refine RunL.val (by exact rfl) (loc_fieldAddr rfl) ?_; refine RunL.val (by exact rfl) (loc_load rfl rfl rfl) ?_; refine RunL.nil ?_; refine AW.block ?_; refine AW.seq ?_; refine AW.region (by kernel_rfl) ?_; refine RunL.val (by exact rfl) (loc_binInt rfl rfl rfl) ?_; refine RunL.val (by exact rfl) (loc_assignC rfl) ?_; refine RunL.nil ?_; refine AW.condFa (by exact rfl) (by assumption) ?_; refine AW.seq ?_; refine AW.region (by kernel_rfl) ?_; refine RunL.val (by exact rfl) (loc_binInt rfl rfl rfl) ?_; refine RunL.val (by exact rfl) (loc_assignC rfl) ?_; refine RunL.nil ?_; refine AW.condFa (by exact rfl) (by assumption) ?_; refine AW.seq ?_; refine AW.region (by kernel_rfl) ?_; refine RunL.val (by exact rfl) (loc_binInt rfl rfl rfl) ?_; refine RunL.val (by exact rfl) (loc_assignC rfl) ?_; refine RunL.nil ?_; refine AW.condTa (by exact rfl) (by assumption) ?_; refine AW.seq ?_; refine AW.region (by kernel_rfl) ?_; refine RunL.val (by exact rfl) (loc_sliceLit (by exact rfl) (by exact rfl) (by decide) (by decide) (by exact RowsOf.cons (by exact rfl) (RowsOf.cons (by exact rfl) RowsOf.nil)) (by exact AllP.cons (by exact rfl) (AllP.cons (by exact rfl) AllP.nil)) (by exact rfl)) ?_; refine RunL.val (by exact rfl) (loc_fieldAddr rfl) ?_; refine RunL.val (by exact rfl) (loc_load rfl rfl rfl) ?_
      refine RunL.val (by exact rfl) (loc_andB (b := 1) (r := 1) (by exact rfl) (by exact rfl) (by rw [hn]; exact and11)) ?_
      refine RunL.val (by exact rfl) (loc_indexSlF 1 (by exact rfl) (by exact rfl) (by exact rfl) (by exact rfl) (by exact rfl)) ?_
      refine RunL.val (by exact rfl) (loc_loadF rfl (by exact rfl)) ?_; refine RunL.val (by exact rfl) (loc_assignC rfl) ?_; refine RunL.nil ?_; refine AW.ret ?_
      rw [show tmTxt a = [121, 101, 115] by rw [tmTxt_eta, k1, k2, k3, hn]; rfl]
      exact ret_same (.inr rfl) rfl trivial
  | false =>
  have hk49 : 4 ≤ a.k ∧ a.k ≤ 9 := by
    simp only [beq_eq_false_iff_ne] at k1 k2 k3
    rcases good_cases hg with ⟨e', _⟩ | ⟨e', _⟩ | ⟨e', _⟩ | ⟨e', _⟩ | ⟨e', _⟩ | ⟨e', _⟩ | ⟨e', _⟩ <;> omega
  have hww := words_txt hk49.1 hk49.2
  have hwl := wTxt_len (k := a.k) (by omega)
  have htot := tmTxt_len a ar ow hg hb
  rw [tmTxt_head k1 k2 k3] at htot ⊢
  refine AW.seq ?_; refine AW.region (by kernel_rfl) ?_; refine RunL.mem (by exact rfl) (loc_boxD rfl rfl rfl) ?_; refine RunL.val (by exact rfl) (loc_assignC rfl) ?_; refine RunL.nil ?_; refine AW.seq ?_; refine AW.seq ?_; refine AW.region (by kernel_rfl) ?_; refine RunL.val (by exact rfl) (loc_fieldAddr rfl) ?_; refine RunL.val (by exact rfl) (loc_load rfl rfl rfl) ?_; refine RunL.nil ?_; refine AW.block ?_; refine AW.seq ?_; refine AW.region (by kernel_rfl) ?_; refine RunL.val (by exact rfl) (loc_binInt rfl rfl rfl) ?_; refine RunL.val (by exact rfl) (loc_assignC rfl) ?_; refine RunL.nil ?_; refine AW.condFa (by exact rfl) (by assumption) ?_; refine AW.seq ?_; refine AW.region (by kernel_rfl) ?_; refine RunL.val (by exact rfl) (loc_binInt rfl rfl rfl) ?_; refine RunL.val (by exact rfl) (loc_assignC rfl) ?_; refine RunL.nil ?_; refine AW.condFa (by exact rfl) (by assumption) ?_; refine AW.seq ?_; refine AW.region (by kernel_rfl) ?_; refine RunL.val (by exact rfl) (loc_binInt rfl rfl rfl) ?_; refine RunL.val (by exact rfl) (loc_assignC rfl) ?_; refine RunL.nil ?_; refine AW.condFa (by exact rfl) (by assumption) ?_; refine AW.skip ?_; refine AW.seq ?_; refine AW.region (by kernel_rfl) ?_; refine RunL.val (by exact rfl) (loc_fieldAddr rfl) ?_; refine RunL.val (by exact rfl) (loc_load rfl rfl rfl) ?_; refine RunL.val (by exact rfl) (loc_indexArrI rfl rfl (by omega) (by omega)) ?_; refine RunL.val (by exact rfl) (loc_loadF rfl (by assumption)) ?_
  refine RunL.val (by exact rfl) (loc_addStr (a := mkB [40]) (by exact rfl) (by exact rfl) (by simp only [mkB_size, List.length_cons, List.length_nil, List.length_append]; omega) (mkB_app _ _)) ?_
  refine RunL.val (by exact rfl) (loc_assignC rfl) ?_; refine RunL.nil ?_
  refine AW.seq ?_
  refine AW.midB (fun t h => t = tOfL [(1, .one (.ptr 1 0)), (3, .one (.str (mkB (headTxt a))))] ∧ h = ofL [(1, .obj a.c)]) ?_ ?_
  · cases k7 : (a.k == 7 || a.k == 9) with
    | false =>
      have hh : headTxt a = [40] ++ wTxt a.k := by unfold headTxt; rw [k7]; simp
      rw [Bool.or_eq_false_iff] at k7
      obtain ⟨k7, k9⟩ := k7
      refine AW.seq ?_; refine AW.region (by kernel_rfl) ?_; refine RunL.val (by exact rfl) (loc_fieldAddr rfl) ?_; refine RunL.val (by exact rfl) (loc_load rfl rfl rfl) ?_; refine RunL.val (by exact rfl) (loc_binInt rfl rfl rfl) ?_; refine RunL.val (by exact rfl) (loc_moveC rfl) ?_; refine RunL.val (by exact .inl ⟨_, _, rfl, rfl, guard_eq false (by assumption) rfl⟩) (loc_fieldAddr rfl) ?_; refine RunL.val (by exact .inl ⟨_, _, rfl, rfl, guard_eq false (by assumption) rfl⟩) (loc_load rfl rfl rfl) ?_; refine RunL.val (by exact .inl ⟨_, _, rfl, rfl, guard_eq false (by assumption) rfl⟩) (loc_binInt rfl rfl rfl) ?_; refine RunL.val (by exact rfl) (loc_pickI false (by assumption) rfl rfl) ?_; refine RunL.nil ?_; refine AW.condFa (by exact rfl) (by assumption) ?_; refine AW.skip ?_
      rw [hh]
      exact ⟨_, _, (gh_lit [(1, .one (.ptr 1 0)), (3, .one (.str (mkB ([40] ++ wTxt a.k))))] [(1, .obj a.c)] [] [] ⟨(WkU.of_eq rfl trivial), (by exact WkU.of_eq rfl trivial), trivial⟩ ⟨(by exact Or.inl ⟨_, rfl, WkBlk.refl _⟩), trivial⟩ trivial trivial rfl rfl ⟨⟨_, rfl⟩, trivial, trivial⟩ ⟨(by refine And.intro ?_ ?_; exact trivial; refine And.intro ?_ ?_; exact trivial; refine And.intro ?_ ?_; exact trivial; refine And.intro ?_ ?_; exact trivial; refine And.intro ?_ ?_; exact trivial; refine And.intro ?_ ?_; exact trivial; refine And.intro ?_ ?_; exact trivial; exact trivial), trivial⟩), rfl, rfl⟩
    | true =>
      have hh : headTxt a = [40] ++ wTxt a.k ++ ([32] ++ tyTxt a.t) := by unfold headTxt; rw [k7]; simp
      have hgt : a.t.good 4 = true := by
        rw [goodT_eta, Bool.and_eq_true] at hg
        have h := hg.1
        simp only [Tm.fit, Bool.and_eq_true] at h
        have h := h.1.2
        rw [if_pos k7] at h
        exact h
      have hty := typed_a 4 (by omega) a.t hgt
      have htl := tyTxt_len 4 a.t hgt
      cases k7' : (a.k == 7) with
      | true =>
        refine AW.seq ?_; refine AW.region (by kernel_rfl) ?_; refine RunL.val (by exact rfl) (loc_fieldAddr rfl) ?_; refine RunL.val (by exact rfl) (loc_load rfl rfl rfl) ?_; refine RunL.val (by exact rfl) (loc_binInt rfl rfl rfl) ?_; refine RunL.val (by exact rfl) (loc_moveC rfl) ?_; refine RunL.skip (.inl ⟨_, _, rfl, rfl, guard_eq true (by assumption) rfl⟩) ?_; refine RunL.skip (.inl ⟨_, _, rfl, rfl, guard_eq true (by assumption) rfl⟩) ?_; refine RunL.skip (.inl ⟨_, _, rfl, rfl, guard_eq true (by assumption) rfl⟩) ?_; refine RunL.val (by exact rfl) (loc_pickI true (by assumption) rfl rfl) ?_; refine RunL.nil ?_; refine AW.condT (by exact rfl) ?_; refine AW.region (by kernel_rfl) ?_; refine RunL.val (by exact rfl) (loc_moveC rfl) ?_; refine RunL.val (by exact rfl) (loc_fieldAddr rfl) ?_; refine RunL.val (by exact rfl) (loc_loadA rfl rfl (by exact Cut.cons (by exact rfl) (Cut.cons (by exact rfl) Cut.nil))) ?_
        refine RunL.val (by exact rfl) (loc_fun hty rfl (by refine ⟨_, _, rfl, (by exact LeU.of_eq rfl trivial), (by (refine And.intro ?_ ?_; exact trivial; refine And.intro ?_ ?_; exact trivial; exact trivial; done)), ?_⟩; exact rfl)) ?_
        refine RunL.val (by exact rfl) (loc_addStr (a := mkB [32]) (by exact rfl) (by exact rfl) (by simp only [mkB_size, List.length_cons, List.length_nil, List.length_append]; omega) (mkB_app _ _)) ?_
        refine RunL.val (by exact rfl) (loc_addStr (by exact rfl) (by exact rfl) (by simp only [mkB_size, List.length_cons, List.length_nil, List.length_append]; omega) (mkB_app _ _)) ?_
        refine RunL.val (by exact rfl) (loc_assignC rfl) ?_; refine RunL.nil ?_
        rw [hh]
        exact ⟨_, _, (gh_lit [(1, .one (.ptr 1 0)), (3, .one (.str (mkB ([40] ++ wTxt a.k ++ ([32] ++ tyTxt a.t)))))] [(1, .obj a.c)] [] [] ⟨(WkU.of_eq rfl trivial), (by exact WkU.of_eq rfl trivial), trivial⟩ ⟨(by exact Or.inl ⟨_, rfl, WkBlk.refl _⟩), trivial⟩ trivial trivial rfl rfl ⟨⟨_, rfl⟩, trivial, trivial⟩ ⟨(by refine And.intro ?_ ?_; exact trivial; refine And.intro ?_ ?_; exact trivial; refine And.intro ?_ ?_; exact trivial; refine And.intro ?_ ?_; exact trivial; refine And.intro ?_ ?_; exact trivial; refine And.intro ?_ ?_; exact trivial; refine And.intro ?_ ?_; exact trivial; exact trivial), trivial⟩), rfl, rfl⟩
      | false =>
        have k9 : (a.k == 9) = true := by rw [k7'] at k7; simpa using k7
        refine AW.seq ?_; refine AW.region (by kernel_rfl) ?_; refine RunL.val (by exact rfl) (loc_fieldAddr rfl) ?_; refine RunL.val (by exact rfl) (loc_load rfl rfl rfl) ?_; refine RunL.val (by exact rfl) (loc_binInt rfl rfl rfl) ?_; refine RunL.val (by exact rfl) (loc_moveC rfl) ?_; refine RunL.val (by exact .inl ⟨_, _, rfl, rfl, guard_eq false (by assumption) rfl⟩) (loc_fieldAddr rfl) ?_; refine RunL.val (by exact .inl ⟨_, _, rfl, rfl, guard_eq false (by assumption) rfl⟩) (loc_load rfl rfl rfl) ?_; refine RunL.val (by exact .inl ⟨_, _, rfl, rfl, guard_eq false (by assumption) rfl⟩) (loc_binInt rfl rfl rfl) ?_; refine RunL.val (by exact rfl) (loc_pickI false (by assumption) rfl rfl) ?_; refine RunL.nil ?_; refine AW.condTa (by exact rfl) (by assumption) ?_; refine AW.region (by kernel_rfl) ?_; refine RunL.val (by exact rfl) (loc_moveC rfl) ?_; refine RunL.val (by exact rfl) (loc_fieldAddr rfl) ?_; refine RunL.val (by exact rfl) (loc_loadA rfl rfl (by exact Cut.cons (by exact rfl) (Cut.cons (by exact rfl) Cut.nil))) ?_
        refine RunL.val (by exact rfl) (loc_fun hty rfl (by refine ⟨_, _, rfl, (by exact LeU.of_eq rfl trivial), (by (refine And.intro ?_ ?_; exact trivial; refine And.intro ?_ ?_; exact trivial; exact trivial; done)), ?_⟩; exact rfl)) ?_
        refine RunL.val (by exact rfl) (loc_addStr (a := mkB [32]) (by exact rfl) (by exact rfl) (by simp only [mkB_size, List.length_cons, List.length_nil, List.length_append]; omega) (mkB_app _ _)) ?_
        refine RunL.val (by exact rfl) (loc_addStr (by exact rfl) (by exact rfl) (by simp only [mkB_size, List.length_cons, List.length_nil, List.length_append]; omega) (mkB_app _ _)) ?_
        refine RunL.val (by exact rfl) (loc_assignC rfl) ?_; refine RunL.nil ?_
        rw [hh]
        exact ⟨_, _, (gh_lit [(1, .one (.ptr 1 0)), (3, .one (.str (mkB ([40] ++ wTxt a.k ++ ([32] ++ tyTxt a.t)))))] [(1, .obj a.c)] [] [] ⟨(WkU.of_eq rfl trivial), (by exact WkU.of_eq rfl trivial), trivial⟩ ⟨(by exact Or.inl ⟨_, rfl, WkBlk.refl _⟩), trivial⟩ trivial trivial rfl rfl ⟨⟨_, rfl⟩, trivial, trivial⟩ ⟨(by refine And.intro ?_ ?_; exact trivial; refine And.intro ?_ ?_; exact trivial; refine And.intro ?_ ?_; exact trivial; refine And.intro ?_ ?_; exact trivial; refine And.intro ?_ ?_; exact trivial; refine And.intro ?_ ?_; exact trivial; refine And.intro ?_ ?_; exact trivial; exact trivial), trivial⟩), rfl, rfl⟩
  · rintro t h ⟨rfl, rfl⟩
    generalize headTxt a = hd at *
    refine AW.seq ?_; refine AW.seq ?_; refine AW.region (by kernel_rfl) ?_; refine RunL.val (by exact rfl) (loc_fieldAddr rfl) ?_; refine RunL.val (by exact rfl) (loc_load rfl rfl rfl) ?_; refine RunL.val (by exact rfl) (loc_lenSl rfl) ?_; refine RunL.val (by exact rfl) (loc_moveC rfl) ?_; refine RunL.nil ?_; refine AW.block ?_
    refine AW.gh (gh_lit [(1, .one (.ptr 1 0)), (3, .one (.str (mkB (hd)))), (47, .one (slOf 7 (tmRows a.l))), (48, .one (.int .i64 ((tmRows a.l).length : Nat))), (49, .one (.int .i64 ((0 : Nat) : Int)))] [(1, .obj a.c)] [] [] ⟨(WkU.of_eq rfl trivial), (by exact WkU.of_eq rfl trivial), (by exact WkU.of_eq rfl trivial), (WkU.of_eq rfl trivial), (WkU.of_eq rfl trivial), trivial⟩ ⟨(by exact Or.inl ⟨_, rfl, WkBlk.refl _⟩), trivial⟩ trivial trivial rfl rfl ⟨⟨_, rfl⟩, trivial, trivial, trivial, trivial, trivial⟩ ⟨(by refine And.intro ?_ ?_; exact trivial; refine And.intro ?_ ?_; exact trivial; refine And.intro ?_ ?_; exact trivial; refine And.intro ?_ ?_; exact trivial; refine And.intro ?_ ?_; exact trivial; refine And.intro ?_ ?_; exact trivial; refine And.intro ?_ ?_; exact trivial; exact trivial), trivial⟩) ?_
    refine AW.lenSl 47 rfl fun hmax => ?_
    refine AW.loop (fun m t h => ∃ i : Nat, i ≤ a.l.length ∧ m = a.l.length - i ∧ t = tOfL [(1, .one (.ptr 1 0)), (3, .one (.str (mkB (hd ++ tmTxtL (a.l.take (i)))))), (47, .one (slOf 7 (tmRows a.l))), (48, .one (.int .i64 ((tmRows a.l).length : Nat))), (49, .one (.int .i64 ((i : Nat) : Int)))] ∧ h = ofL [(1, .obj a.c)]) a.l.length ⟨0, Nat.zero_le _, rfl, by simp [tmTxtL], rfl⟩ ?_
    rintro m t h ⟨i, hi, rfl, rfl, rfl⟩
    have hsz := tmTxtL_le a.l i
    simp only [List.length_append, List.length_cons, List.length_nil] at htot
    cases hlt : decide ((i : Int) < ((tmRows a.l).length : Nat)) with
    | false =>
      have hil : i = a.l.length := by simp at hlt; omega
      refine AW.seq ?_; refine AW.region (by kernel_rfl) ?_; refine RunL.val (by exact rfl) (loc_binInt rfl rfl rfl) ?_; refine RunL.nil ?_; refine AW.seq ?_; refine AW.condFa (by exact rfl) (by assumption) ?_; refine AW.exit ?_; refine AW.seq ?_; refine AW.region (by kernel_rfl) ?_; refine RunL.val (by exact rfl) (loc_moveC rfl) ?_
      rw [show a.l.take i = a.l by rw [hil, List.take_length]]
      refine RunL.val (by exact rfl) (loc_addStr (b := mkB [41]) (by exact rfl) (by exact rfl) (by simp only [mkB_size, List.length_cons, List.length_nil, List.length_append]; omega) (mkB_app _ _)) ?_
      refine RunL.val (by exact rfl) (loc_assignC rfl) ?_; refine RunL.nil ?_; refine AW.ret ?_
      exact ret_same (.inr rfl) rfl trivial
    | true =>
      have hil : i < a.l.length := by simp at hlt; omega
      have hr1 := tmRows_get hil
      have hmem : a.l[i] ∈ a.l := List.getElem_mem hil
      have hn3 := nodes_mem hmem
      have hgi := goodL_mem (by rw [goodT_eta, Bool.and_eq_true] at hg; exact hg.2) _ hmem
      have hif : ow ≤ (if a.k == 7 then ow + 1 else ow) ∧ (if a.k == 7 then ow + 1 else ow) ≤ ow + 1 := by split <;> omega
      have hc := ih a.l[i] hmem _ _ hgi (by omega) (by omega)
      have hl1 := tmTxt_len a.l[i] _ _ hgi (by omega)
      refine AW.seq ?_; refine AW.region (by kernel_rfl) ?_; refine RunL.val (by exact rfl) (loc_binInt rfl rfl rfl) ?_; refine RunL.nil ?_; refine AW.seq ?_; refine AW.condTa (by exact rfl) (by assumption) ?_; refine AW.skip ?_; refine AW.seq ?_; refine AW.block ?_; refine AW.seq ?_; refine AW.region (by kernel_rfl) ?_; refine RunL.val (by exact rfl) (loc_indexSl _ rfl rfl rfl (by assumption) rfl) ?_; refine RunL.val (by exact rfl) (loc_loadFA rfl (by exact Cut.all (by exact rfl))) ?_; refine RunL.mem (by exact rfl) (loc_allocD rfl rfl) ?_; refine RunL.eff (by exact rfl) (loc_storeW rfl rfl rfl rfl (by exact rfl) (by exact rfl)) ?_; refine RunL.nil ?_; refine AW.region (by kernel_rfl) ?_; refine RunL.val (by exact rfl) (loc_moveC rfl) ?_; refine RunL.val (by exact rfl) (loc_loadA rfl rfl (by exact Cut.all (by exact rfl))) ?_
      refine RunL.val (by exact rfl) (loc_fun hc rfl (by refine ⟨_, _, rfl, (by exact LeU.of_eq rfl trivial), (by (refine And.intro ?_ ?_; exact trivial; refine And.intro ?_ ?_; exact trivial; refine And.intro ?_ ?_; exact trivial; refine And.intro ?_ ?_; exact trivial; refine And.intro ?_ ?_; exact trivial; refine And.intro ?_ ?_; exact trivial; refine And.intro ?_ ?_; exact trivial; exact trivial; done)), ?_⟩; exact rfl)) ?_
      refine RunL.val (by exact rfl) (loc_addStr (a := mkB [32]) (by exact rfl) (by exact rfl) (by simp only [mkB_size, List.length_cons, List.length_nil, List.length_append]; omega) (mkB_app _ _)) ?_
      refine RunL.val (by exact rfl) (loc_addStr (by exact rfl) (by exact rfl) (by simp only [mkB_size, List.length_cons, List.length_nil, List.length_append]; omega) (mkB_app _ _)) ?_
      rw [show hd ++ tmTxtL (a.l.take i) ++ ([32] ++ tmTxt a.l[i]) = hd ++ tmTxtL (a.l.take (i + 1)) by rw [tmTxtL_take hil, List.append_assoc]; rfl]
      refine RunL.val (by exact rfl) (loc_assignC rfl) ?_; refine RunL.nil ?_; refine AW.region (by kernel_rfl) ?_; refine RunL.val (by exact rfl) (loc_inc rfl rfl (by omega)) ?_; refine RunL.val (by exact rfl) (loc_moveC rfl) ?_; refine RunL.nil ?_
      exact ⟨a.l.length - (i + 1), _, _, by omega, (gh_lit [(1, .one (.ptr 1 0)), (3, .one (.str (mkB (hd ++ tmTxtL (a.l.take (i + 1)))))), (47, .one (slOf 7 (tmRows a.l))), (48, .one (.int .i64 ((tmRows a.l).length : Nat))), (49, .one (.int .i64 (((i + 1) : Nat) : Int)))] [(1, .obj a.c)] [] [] ⟨(WkU.of_eq rfl trivial), (by exact WkU.of_eq rfl trivial), (by exact WkU.of_eq rfl trivial), (WkU.of_eq rfl trivial), (WkU.of_eq rfl trivial), trivial⟩ ⟨(by exact Or.inl ⟨_, rfl, WkBlk.refl _⟩), trivial⟩ trivial trivial rfl rfl ⟨⟨_, rfl⟩, trivial, trivial, trivial, trivial, trivial⟩ ⟨(by refine And.intro ?_ ?_; exact trivial; refine And.intro ?_ ?_; exact trivial; refine And.intro ?_ ?_; exact trivial; refine And.intro ?_ ?_; exact trivial; refine And.intro ?_ ?_; exact trivial; refine And.intro ?_ ?_; exact trivial; refine And.intro ?_ ?_; exact trivial; exact trivial), trivial⟩), i + 1, by omega, rfl, rfl, rfl⟩
def printU (a : Tm) : U := .tup [.one (.str (print a).1), .one (.int .i64 (print a).2)]
set_option maxHeartbeats 2000000 in
theorem print_a (a : Tm) (hok : TmOk a) (hsz : a.nodes ≤ 1048576) : ACalls Tryd.prog 9 [a.u] [] (printU a) [] := by
  refine acalls_of_body Tryd.func9 rfl (by kernel_rfl) (Nat.le_of_ble_eq_true rfl) trivial (by simp [namesL]) ?_
  refine AW.seq ?_; refine AW.region (by kernel_rfl) ?_; refine RunL.mem (by exact rfl) (loc_boxD rfl rfl rfl) ?_; refine RunL.val (by exact rfl) (loc_assignC rfl) ?_; refine RunL.val (by exact rfl) (loc_assignC rfl) ?_; refine RunL.nil ?_; refine AW.seq ?_; refine AW.seq ?_; refine AW.region (by kernel_rfl) ?_; refine RunL.val (by exact rfl) (loc_loadA rfl rfl (by exact Cut.all (by exact rfl))) ?_
  refine RunL.val (by exact rfl) (loc_fun (tGood_a a 0 hok hsz) rfl (by refine ⟨_, _, rfl, (by exact LeU.of_eq rfl trivial), (by (refine And.intro ?_ ?_; exact trivial; refine And.intro ?_ ?_; exact trivial; refine And.intro ?_ ?_; exact trivial; refine And.intro ?_ ?_; exact trivial; refine And.intro ?_ ?_; exact trivial; refine And.intro ?_ ?_; exact trivial; refine And.intro ?_ ?_; exact trivial; exact trivial; done)), ?_⟩; refine ⟨_, _, rfl, (by exact LeU.of_eq rfl trivial), (by exact trivial), ?_⟩; exact rfl)) ?_
  cases hg : a.Good 0 with
  | false =>
    refine RunL.val (by exact rfl) (loc_not rfl) ?_; refine RunL.nil ?_; refine AW.condT (by exact rfl) ?_; refine AW.seq ?_; refine AW.region (by kernel_rfl) ?_; refine RunL.val (by exact rfl) (loc_assignC rfl) ?_; refine RunL.val (by exact rfl) (loc_assignC rfl) ?_; refine RunL.nil ?_; refine AW.ret ?_
    rw [show printU a = .tup [.one (.str sNil), .one (.int .i64 1)] by unfold printU print; rw [hg]; rfl]
    exact ret_tt (.inr rfl) rfl rfl trivial trivial
  | true =>
    have hg' := hg
    unfold Tm.Good at hg'
    simp only [Bool.and_eq_true, decide_eq_true_eq] at hg'
    have htl := tmTxt_len a 0 0 hg'.2 (by omega)
    cases hl : decide ((((mkB (tmTxt a)).size : Nat) : Int) > 1000) with
    | true =>
      have hl' : 1000 < (tmTxt a).length := by simp [mkB_size] at hl; omega
      refine RunL.val (by exact rfl) (loc_not rfl) ?_; refine RunL.nil ?_; refine AW.condF (by exact rfl) ?_; refine AW.skip ?_; refine AW.seq ?_; refine AW.region (by kernel_rfl) ?_; refine RunL.val (by exact rfl) (loc_loadA rfl rfl (by exact Cut.all (by exact rfl))) ?_
      refine RunL.val (by exact rfl) (loc_fun (show_a a 0 0 hg'.2 (by omega) (by omega)) rfl (by refine ⟨_, _, rfl, (by exact LeU.of_eq rfl trivial), (by (refine And.intro ?_ ?_; exact trivial; refine And.intro ?_ ?_; exact trivial; refine And.intro ?_ ?_; exact trivial; refine And.intro ?_ ?_; exact trivial; refine And.intro ?_ ?_; exact trivial; refine And.intro ?_ ?_; exact trivial; refine And.intro ?_ ?_; exact trivial; exact trivial; done)), ?_⟩; exact rfl)) ?_
      refine RunL.val (by exact rfl) (loc_assignC rfl) ?_; refine RunL.nil ?_; refine AW.seq ?_; refine AW.seq ?_; refine AW.region (by kernel_rfl) ?_; refine RunL.val (by exact rfl) (loc_moveC rfl) ?_; refine RunL.val (by exact rfl) (loc_lenStr rfl) ?_; refine RunL.val (by exact rfl) (loc_binInt rfl rfl rfl) ?_; refine RunL.nil ?_; refine AW.condTa (by exact rfl) (by assumption) ?_; refine AW.seq ?_; refine AW.region (by kernel_rfl) ?_; refine RunL.val (by exact rfl) (loc_assignC rfl) ?_; refine RunL.val (by exact rfl) (loc_assignC rfl) ?_; refine RunL.nil ?_; refine AW.ret ?_
      rw [show printU a = .tup [.one (.str sNil), .one (.int .i64 4)] by unfold printU print; rw [hg, if_pos rfl, if_pos hl']]
      exact ret_tt (.inr rfl) rfl rfl trivial trivial
    | false =>
      have hl' : ¬ 1000 < (tmTxt a).length := by simp [mkB_size] at hl; omega
      refine RunL.val (by exact rfl) (loc_not rfl) ?_; refine RunL.nil ?_; refine AW.condF (by exact rfl) ?_; refine AW.skip ?_; refine AW.seq ?_; refine AW.region (by kernel_rfl) ?_; refine RunL.val (by exact rfl) (loc_loadA rfl rfl (by exact Cut.all (by exact rfl))) ?_
      refine RunL.val (by exact rfl) (loc_fun (show_a a 0 0 hg'.2 (by omega) (by omega)) rfl (by refine ⟨_, _, rfl, (by exact LeU.of_eq rfl trivial), (by (refine And.intro ?_ ?_; exact trivial; refine And.intro ?_ ?_; exact trivial; refine And.intro ?_ ?_; exact trivial; refine And.intro ?_ ?_; exact trivial; refine And.intro ?_ ?_; exact trivial; refine And.intro ?_ ?_; exact trivial; refine And.intro ?_ ?_; exact trivial; exact trivial; done)), ?_⟩; exact rfl)) ?_
      refine RunL.val (by exact rfl) (loc_assignC rfl) ?_; refine RunL.nil ?_; refine AW.seq ?_; refine AW.seq ?_; refine AW.region (by kernel_rfl) ?_; refine RunL.val (by exact rfl) (loc_moveC rfl) ?_; refine RunL.val (by exact rfl) (loc_lenStr rfl) ?_; refine RunL.val (by exact rfl) (loc_binInt rfl rfl rfl) ?_; refine RunL.nil ?_; refine AW.condFa (by exact rfl) (by assumption) ?_; refine AW.skip ?_; refine AW.seq ?_; refine AW.region (by kernel_rfl) ?_; refine RunL.val (by exact rfl) (loc_moveC rfl) ?_; refine RunL.val (by exact rfl) (loc_assignC rfl) ?_; refine RunL.val (by exact rfl) (loc_assignC rfl) ?_; refine RunL.nil ?_; refine AW.ret ?_
      rw [show printU a = .tup [.one (.str (mkB (tmTxt a))), .one (.int .i64 0)] by unfold printU print; rw [hg, if_pos rfl, if_neg hl']]
      exact ret_tt (.inr rfl) rfl rfl trivial trivial
end Go.Proofs.YtnflnbdlgdjfmabDoor
namespace Go.Proofs.YtnflnbdlgdjfmabDoor
open Go.RowKit
set_option linter.unusedVariables false
set_option linter.unusedSimpArgs false
set_option maxRecDepth 100000
attribute [local irreducible] RunL AW LocOp ACalls Gh
instance : TElem Tryd.prog 98 5 1 1 := ⟨by kernel_rfl⟩
set_option maxHeartbeats 2000000 in
theorem dec_a : ∀ (u : Nat), u ≤ 1000000 → ACalls Tryd.prog 51 [.one (.int .i64 (u : Nat))] [] (.one (.str (mkB (Lib.decDigits u)))) [] := by
  intro u
  induction u using Nat.strongRecOn with
  | _ u ih =>
  intro hu
  have k0 : decide (((u : Nat) : Int) < 0) = false := by simp
  refine acalls_of_body Tryd.func51 rfl (by kernel_rfl) (Nat.le_of_ble_eq_true rfl) trivial (by simp [namesL]) ?_
  cases h9 : decide (((u : Nat) : Int) > 9) with
  | true =>
    have hu9 : ¬ u < 10 := by simp at h9; omega
    have l1 := dec_len (u / 10)
    have l2 := dec_len (u % 10)
    have i1 := ih (u / 10) (by omega) (by omega)
    have i2 := ih (u % 10) (by omega) (by omega)
    have h2 : Lib.decDigits (u % 10) = [UInt8.ofNat (48 + u % 10)] := by rw [Lib.decDigits, dif_pos (by omega)]
    have h1 : Lib.decDigits u = Lib.decDigits (u / 10) ++ Lib.decDigits (u % 10) := by rw [h2, Lib.decDigits, dif_neg hu9]
    refine AW.seq ?_; refine AW.region (by kernel_rfl) ?_; refine RunL.val (by exact rfl) (loc_assignC rfl) ?_; refine RunL.nil ?_; refine AW.seq ?_; refine AW.seq ?_; refine AW.region (by kernel_rfl) ?_; refine RunL.val (by exact rfl) (loc_moveC rfl) ?_; refine RunL.val (by exact rfl) (loc_binInt rfl rfl rfl) ?_; refine RunL.nil ?_; refine AW.condF (by exact rfl) ?_; refine AW.skip ?_; refine AW.seq ?_; refine AW.seq ?_; refine AW.region (by kernel_rfl) ?_; refine RunL.val (by exact rfl) (loc_moveC rfl) ?_; refine RunL.val (by exact rfl) (loc_binInt rfl rfl rfl) ?_; refine RunL.nil ?_; refine AW.condTa (by exact rfl) (by assumption) ?_; refine AW.seq ?_; refine AW.region (by kernel_rfl) ?_; refine RunL.val (by exact rfl) (loc_moveC rfl) ?_
    refine RunL.val (by exact rfl) (loc_quo (by exact rfl) (by exact rfl) (quo10 u (by omega))) ?_
    refine RunL.val (by exact rfl) (loc_fun (i1) rfl (by refine ⟨_, _, rfl, (by exact LeU.of_eq rfl trivial), (by exact trivial), ?_⟩; exact rfl)) ?_
    refine RunL.val (by exact rfl) (loc_moveC rfl) ?_
    refine RunL.val (by exact rfl) (loc_remB (by exact rfl) (by exact rfl) (rem10 u)) ?_
    refine RunL.val (by exact rfl) (loc_fun (i2) rfl (by refine ⟨_, _, rfl, (by exact LeU.of_eq rfl trivial), (by exact trivial), ?_⟩; exact rfl)) ?_
    refine RunL.val (by exact rfl) (loc_addStr (by exact rfl) (by exact rfl) (by simp only [mkB_size, List.length_cons, List.length_nil, List.length_append]; omega) (mkB_app _ _)) ?_
    refine RunL.val (by exact rfl) (loc_assignC rfl) ?_; refine RunL.nil ?_; refine AW.ret ?_
    rw [h1]
    exact ret_same (.inr rfl) rfl trivial
  | false =>
    have hu9 : u < 10 := by simp at h9; omega
    refine AW.seq ?_; refine AW.region (by kernel_rfl) ?_; refine RunL.val (by exact rfl) (loc_assignC rfl) ?_; refine RunL.nil ?_; refine AW.seq ?_; refine AW.seq ?_; refine AW.region (by kernel_rfl) ?_; refine RunL.val (by exact rfl) (loc_moveC rfl) ?_; refine RunL.val (by exact rfl) (loc_binInt rfl rfl rfl) ?_; refine RunL.nil ?_; refine AW.condF (by exact rfl) ?_; refine AW.skip ?_; refine AW.seq ?_; refine AW.seq ?_; refine AW.region (by kernel_rfl) ?_; refine RunL.val (by exact rfl) (loc_moveC rfl) ?_; refine RunL.val (by exact rfl) (loc_binInt rfl rfl rfl) ?_; refine RunL.nil ?_; refine AW.condFa (by exact rfl) (by assumption) ?_; refine AW.skip ?_; refine AW.seq ?_; refine AW.region (by kernel_rfl) ?_; refine RunL.val (by exact rfl) (loc_moveC rfl) ?_; refine RunL.val (by exact rfl) (loc_addB rfl rfl (by omega)) ?_
    refine RunL.val (by exact rfl) (loc_convI (k' := .u8) (r := 48 + (u : Nat)) (by exact rfl) (by kernel_rfl) (Tryd.underlying5) (by rw [IntKind.wrap_u8]; omega)) ?_
    refine RunL.val (by exact rfl) (loc_sliceLit (by exact rfl) (by exact rfl) (by decide) (by decide) (by exact RowsOf.cons (by exact rfl) RowsOf.nil) (by exact AllP.cons (by exact rfl) AllP.nil) (by exact rfl)) ?_
    refine RunL.val (by exact rfl) (loc_convS (by exact rfl) (Tryd.underlying98) (Tryd.underlying5) (Tryd.underlying9)) ?_
    refine RunL.val (by exact rfl) (loc_assignC rfl) ?_; refine RunL.nil ?_; refine AW.ret ?_
    rw [show mkB (Lib.decDigits u) = ⟨#[UInt8.ofNat (48 + ((u : Nat) : Int)).toNat]⟩ by rw [Lib.decDigits, dif_pos hu9]; unfold mkB; rw [show (48 + ((u : Nat) : Int)).toNat = 48 + u by omega]]
    exact ret_same (.inr rfl) rfl trivial
set_option maxHeartbeats 2000000 in
theorem decimal_a (n : Int) (h : -1000000 ≤ n ∧ n ≤ 1000000) : ACalls Tryd.prog 51 [.one (.int .i64 n)] [] (.one (.str (mkB (Lib.itoa n)))) [] := by
  by_cases hn : n < 0
  · have k0 : decide (n < 0) = true := by simpa using hn
    have hd := dec_a n.natAbs (by omega)
    have hl := dec_len n.natAbs
    refine acalls_of_body Tryd.func51 rfl (by kernel_rfl) (Nat.le_of_ble_eq_true rfl) trivial (by simp [namesL]) ?_
    refine AW.seq ?_; refine AW.region (by kernel_rfl) ?_; refine RunL.val (by exact rfl) (loc_assignC rfl) ?_; refine RunL.nil ?_; refine AW.seq ?_; refine AW.seq ?_; refine AW.region (by kernel_rfl) ?_; refine RunL.val (by exact rfl) (loc_moveC rfl) ?_; refine RunL.val (by exact rfl) (loc_binInt rfl rfl rfl) ?_; refine RunL.nil ?_; refine AW.condTa (by exact rfl) (by assumption) ?_; refine AW.seq ?_; refine AW.region (by kernel_rfl) ?_; refine RunL.val (by exact rfl) (loc_moveC rfl) ?_; refine RunL.val (by exact rfl) (loc_neg rfl) ?_
    rw [show IntKind.i64.wrap (0 - n) = ((n.natAbs : Nat) : Int) by rw [wrap_small _ (by omega) (by omega)]; omega]
    refine RunL.val (by exact rfl) (loc_fun (hd) rfl (by refine ⟨_, _, rfl, (by exact LeU.of_eq rfl trivial), (by exact trivial), ?_⟩; exact rfl)) ?_
    refine RunL.val (by exact rfl) (loc_addStr (a := mkB [45]) (by exact rfl) (by exact rfl) (by simp only [mkB_size, List.length_cons, List.length_nil, List.length_append]; omega) (mkB_app _ _)) ?_
    refine RunL.val (by exact rfl) (loc_assignC rfl) ?_; refine RunL.nil ?_; refine AW.ret ?_
    rw [show Lib.itoa n = [45] ++ Lib.decDigits n.natAbs by unfold Lib.itoa; rw [if_pos hn]; rfl]
    exact ret_same (.inr rfl) rfl trivial
  · have hd := dec_a n.toNat (by omega)
    rw [show ((n.toNat : Nat) : Int) = n by omega] at hd
    rw [show Lib.itoa n = Lib.decDigits n.toNat by unfold Lib.itoa; rw [if_neg hn]]
    exact hd
set_option maxHeartbeats 4000000 in
theorem typeText_a : ∀ (d : Nat), d ≤ 5 → ∀ (a : Ty), a.good d = true → ACalls Tryd.prog 53 [a.u] [] (.one (.str (mkB (tyTxt a)))) [] := by
  intro d
  induction d with
  | zero => intro _ a h; simp [Ty.good] at h
  | succ d ih =>
  intro hd a hg
  have hr := good_right hg
  have hpow : 2 ^ d ≤ 2 ^ 4 := Nat.pow_le_pow_right (by decide) (by omega)
  refine acalls_of_body Tryd.func53 rfl (by kernel_rfl) (Nat.le_of_ble_eq_true rfl) trivial (by simp [namesL]) ?_
  cases hr with
  | @base k hk =>
    rcases hk with rfl | rfl | rfl
    · refine AW.seq ?_; refine AW.region (by kernel_rfl) ?_; refine RunL.mem (by exact rfl) (loc_boxD rfl rfl rfl) ?_; refine RunL.val (by exact rfl) (loc_assignC rfl) ?_; refine RunL.nil ?_; refine AW.seq ?_; refine AW.seq ?_; refine AW.region (by kernel_rfl) ?_; refine RunL.val (by exact rfl) (loc_fieldAddr rfl) ?_; refine RunL.val (by exact rfl) (loc_load rfl rfl rfl) ?_; refine RunL.nil ?_; refine AW.block ?_; refine AW.seq ?_; refine AW.region (by kernel_rfl) ?_; refine RunL.val (by exact rfl) (loc_binInt rfl rfl rfl) ?_; refine RunL.val (by exact rfl) (loc_assignC rfl) ?_; refine RunL.nil ?_; refine AW.condF (by exact rfl) ?_; refine AW.seq ?_; refine AW.region (by kernel_rfl) ?_; refine RunL.val (by exact rfl) (loc_binInt rfl rfl rfl) ?_; refine RunL.val (by exact rfl) (loc_assignC rfl) ?_; refine RunL.nil ?_; refine AW.condF (by exact rfl) ?_; refine AW.seq ?_; refine AW.region (by kernel_rfl) ?_; refine RunL.val (by exact rfl) (loc_binInt rfl rfl rfl) ?_; refine RunL.val (by exact rfl) (loc_assignC rfl) ?_; refine RunL.nil ?_; refine AW.condF (by exact rfl) ?_; refine AW.skip ?_; refine AW.seq ?_; refine AW.region (by kernel_rfl) ?_; refine RunL.val (by exact rfl) (loc_assignC rfl) ?_; refine RunL.nil ?_; refine AW.ret ?_
      exact ret_same (.inr rfl) rfl trivial
    · refine AW.seq ?_; refine AW.region (by kernel_rfl) ?_; refine RunL.mem (by exact rfl) (loc_boxD rfl rfl rfl) ?_; refine RunL.val (by exact rfl) (loc_assignC rfl) ?_; refine RunL.nil ?_; refine AW.seq ?_; refine AW.seq ?_; refine AW.region (by kernel_rfl) ?_; refine RunL.val (by exact rfl) (loc_fieldAddr rfl) ?_; refine RunL.val (by exact rfl) (loc_load rfl rfl rfl) ?_; refine RunL.nil ?_; refine AW.block ?_; refine AW.seq ?_; refine AW.region (by kernel_rfl) ?_; refine RunL.val (by exact rfl) (loc_binInt rfl rfl rfl) ?_; refine RunL.val (by exact rfl) (loc_assignC rfl) ?_; refine RunL.nil ?_; refine AW.condT (by exact rfl) ?_; refine AW.seq ?_; refine AW.region (by kernel_rfl) ?_; refine RunL.val (by exact rfl) (loc_assignC rfl) ?_; refine RunL.nil ?_; refine AW.ret ?_
      exact ret_same (.inr rfl) rfl trivial
    · refine AW.seq ?_; refine AW.region (by kernel_rfl) ?_; refine RunL.mem (by exact rfl) (loc_boxD rfl rfl rfl) ?_; refine RunL.val (by exact rfl) (loc_assignC rfl) ?_; refine RunL.nil ?_; refine AW.seq ?_; refine AW.seq ?_; refine AW.region (by kernel_rfl) ?_; refine RunL.val (by exact rfl) (loc_fieldAddr rfl) ?_; refine RunL.val (by exact rfl) (loc_load rfl rfl rfl) ?_; refine RunL.nil ?_; refine AW.block ?_; refine AW.seq ?_; refine AW.region (by kernel_rfl) ?_; refine RunL.val (by exact rfl) (loc_binInt rfl rfl rfl) ?_; refine RunL.val (by exact rfl) (loc_assignC rfl) ?_; refine RunL.nil ?_; refine AW.condF (by exact rfl) ?_; refine AW.seq ?_; refine AW.region (by kernel_rfl) ?_; refine RunL.val (by exact rfl) (loc_binInt rfl rfl rfl) ?_; refine RunL.val (by exact rfl) (loc_assignC rfl) ?_; refine RunL.nil ?_; refine AW.condT (by exact rfl) ?_; refine AW.seq ?_; refine AW.region (by kernel_rfl) ?_; refine RunL.val (by exact rfl) (loc_assignC rfl) ?_; refine RunL.nil ?_; refine AW.ret ?_
      exact ret_same (.inr rfl) rfl trivial
  | @fn x y hx hy =>
    simp only [Ty.good, bne_self_eq_false, Bool.false_eq_true, if_false, Bool.and_eq_true] at hg
    have hr0 : (tyRows (Ty.mk 3 [x, y]).l)[0]? = some x.c := by simp [tyRows, Ty.cells_c]
    have hr1 : (tyRows (Ty.mk 3 [x, y]).l)[1]? = some y.c := by simp [tyRows, Ty.cells_c]
    have l1 := tyTxt_len d x hg.2.1
    have l2 := tyTxt_len d y hg.2.2
    refine AW.seq ?_; refine AW.region (by kernel_rfl) ?_; refine RunL.mem (by exact rfl) (loc_boxD rfl rfl rfl) ?_; refine RunL.val (by exact rfl) (loc_assignC rfl) ?_; refine RunL.nil ?_; refine AW.seq ?_; refine AW.seq ?_; refine AW.region (by kernel_rfl) ?_; refine RunL.val (by exact rfl) (loc_fieldAddr rfl) ?_; refine RunL.val (by exact rfl) (loc_load rfl rfl rfl) ?_; refine RunL.nil ?_; refine AW.block ?_; refine AW.seq ?_; refine AW.region (by kernel_rfl) ?_; refine RunL.val (by exact rfl) (loc_binInt rfl rfl rfl) ?_; refine RunL.val (by exact rfl) (loc_assignC rfl) ?_; refine RunL.nil ?_; refine AW.condF (by exact rfl) ?_; refine AW.seq ?_; refine AW.region (by kernel_rfl) ?_; refine RunL.val (by exact rfl) (loc_binInt rfl rfl rfl) ?_; refine RunL.val (by exact rfl) (loc_assignC rfl) ?_; refine RunL.nil ?_; refine AW.condF (by exact rfl) ?_; refine AW.seq ?_; refine AW.region (by kernel_rfl) ?_; refine RunL.val (by exact rfl) (loc_binInt rfl rfl rfl) ?_; refine RunL.val (by exact rfl) (loc_assignC rfl) ?_; refine RunL.nil ?_; refine AW.condT (by exact rfl) ?_; refine AW.seq ?_; refine AW.regionD (by kernel_rfl) (by kernel_rfl) (by kernel_rfl) ?_; refine RunL.val (by exact rfl) (loc_fieldAddr rfl) ?_; refine RunL.val (by exact rfl) (loc_load rfl rfl rfl) ?_; refine RunL.val (by exact rfl) (loc_indexSl _ rfl rfl rfl (by assumption) rfl) ?_; refine RunL.val (by exact rfl) (loc_loadFA rfl (by exact Cut.all (by exact rfl))) ?_
    refine RunL.val (by exact rfl) (loc_fun (ih (by omega) x hg.2.1) rfl (by refine ⟨_, _, rfl, (by exact LeU.of_eq rfl trivial), (by (refine And.intro ?_ ?_; exact trivial; refine And.intro ?_ ?_; exact trivial; exact trivial; done)), ?_⟩; exact rfl)) ?_
    refine RunL.val (by exact rfl) (loc_addStr (a := mkB [40, 116, 111, 32]) (by exact rfl) (by exact rfl) (by simp only [mkB_size, List.length_cons, List.length_nil, List.length_append]; omega) (mkB_app _ _)) ?_
    refine RunL.val (by exact rfl) (loc_addStr (b := mkB [32]) (by exact rfl) (by exact rfl) (by simp only [mkB_size, List.length_cons, List.length_nil, List.length_append]; omega) (mkB_app _ _)) ?_
    refine RunL.val (by exact rfl) (loc_fieldAddr rfl) ?_; refine RunL.val (by exact rfl) (loc_load rfl rfl rfl) ?_; refine RunL.val (by exact rfl) (loc_indexSl _ rfl rfl rfl (by assumption) rfl) ?_; refine RunL.val (by exact rfl) (loc_loadFA rfl (by exact Cut.all (by exact rfl))) ?_
    refine RunL.val (by exact rfl) (loc_fun (ih (by omega) y hg.2.2) rfl (by refine ⟨_, _, rfl, (by exact LeU.of_eq rfl trivial), (by (refine And.intro ?_ ?_; exact trivial; refine And.intro ?_ ?_; exact trivial; exact trivial; done)), ?_⟩; exact rfl)) ?_
    refine RunL.val (by exact rfl) (loc_addStr (by exact rfl) (by exact rfl) (by simp only [mkB_size, List.length_cons, List.length_nil, List.length_append]; omega) (mkB_app _ _)) ?_
    refine RunL.val (by exact rfl) (loc_addStr (b := mkB [41]) (by exact rfl) (by exact rfl) (by simp only [mkB_size, List.length_cons, List.length_nil, List.length_append]; omega) (mkB_app _ _)) ?_
    refine RunL.val (by exact rfl) (loc_assignC rfl) ?_; refine RunL.nilD (by kernel_rfl) ?_; refine AW.ret ?_
    rw [show tyTxt (Ty.mk 3 [x, y]) = [40, 116, 111, 32] ++ tyTxt x ++ [32] ++ tyTxt y ++ [41] by rw [tyTxt_eta]; simp [tyTxtL, show kTxt 3 = [116, 111] from rfl]]
    exact ret_same (.inr rfl) rfl trivial
/-- The texts that stand between a term's brackets. -/
def headL (a : Tm) : List (List UInt8) := wTxt a.k :: (if a.k == 7 || a.k == 9 then [tyTxt a.t] else [])
def kidTxts (l : List Tm) : List (List UInt8) := l.map tmTxt
theorem kidTxts_take {l : List Tm} {i : Nat} (h : i < l.length) : kidTxts (l.take (i + 1)) = kidTxts (l.take i) ++ [tmTxt l[i]] := by
  unfold kidTxts; rw [List.take_add_one, List.getElem?_eq_getElem h, Option.toList_some, List.map_append]; rfl
theorem tail_parts : ∀ l : List Tm, Lib.joinTail [32] (kidTxts l) = tmTxtL l
  | [] => rfl
  | a :: l => by
    have := tail_parts l
    simp only [Lib.joinTail, kidTxts, List.map_cons, List.flatten_cons, tmTxtL] at this ⊢
    rw [this]; simp
theorem join_txt {a : Tm} (h1 : (a.k == 1) = false) (h2 : (a.k == 2) = false) (h3 : (a.k == 3) = false) : tmTxt a = [40] ++ Lib.join (headL a ++ kidTxts a.l) [32] ++ [41] := by
  rw [tmTxt_head h1 h2 h3]
  unfold headL headTxt
  show _ = [40] ++ Lib.join (wTxt a.k :: ((if a.k == 7 || a.k == 9 then [tyTxt a.t] else []) ++ kidTxts a.l)) [32] ++ [41]
  rw [Lib.join_cons]
  have hj : Lib.joinTail [32] ((if a.k == 7 || a.k == 9 then [tyTxt a.t] else []) ++ kidTxts a.l) = (if a.k == 7 || a.k == 9 then 32 :: tyTxt a.t else []) ++ tmTxtL a.l := by
    rw [← tail_parts]
    unfold Lib.joinTail
    rw [List.map_append, List.flatten_append]
    congr 1
    split <;> simp
  rw [hj]; simp
theorem six_get {k : Int} (h0 : 4 ≤ k) (h1 : k ≤ 9) : (strRows (sixL.map mkB))[(k - 4).toNat]? = some [.str (mkB (wTxt k))] := by
  have : k = 4 ∨ k = 5 ∨ k = 6 ∨ k = 7 ∨ k = 8 ∨ k = 9 := by omega
  rcases this with rfl | rfl | rfl | rfl | rfl | rfl <;> rfl
theorem strRows_snoc (l : List (List UInt8)) (x : List UInt8) : strRows (l.map mkB) ++ [[.str (mkB x)]] = strRows ((l ++ [x]).map mkB) := by simp [strRows]
set_option maxHeartbeats 8000000 in
theorem text_a : ∀ (a : Tm) (ar ow : Int), a.good ar ow = true → 0 ≤ ar + ow → ar + ow + a.nodes ≤ 1000000 → ACalls Tryd.prog 34 [a.u] [] (.one (.str (mkB (tmTxt a)))) [] := by
  intro a
  induction a using Tm.ind' with
  | h a ih =>
  intro ar ow hg hb0 hb
  have hne := nodes_eta a
  have hL := tmRows_length a.l
  have hnn := nodesL_len a.l
  refine acalls_of_body Tryd.func34 rfl (by kernel_rfl) (Nat.le_of_ble_eq_true rfl) trivial (by simp [namesL]) ?_
  cases k1 : (a.k == 1) with
  | true =>
    have e : a.k = 1 := by simpa using k1
    have hn : -1000000 ≤ a.n ∧ a.n ≤ 1000000 := by
      rcases good_cases hg with ⟨_, _, n0, n1, _⟩ | ⟨e', _⟩ | ⟨e', _⟩ | ⟨e', _⟩ | ⟨e', _⟩ | ⟨e', _⟩ | ⟨e', _⟩ <;> omega
    have hl := itoa_len hn
    refine AW.seq ?_; refine AW.region (by kernel_rfl) ?_; refine RunL.mem (by exact rfl) (loc_boxD rfl rfl rfl) ?_; refine RunL.val (by exact rfl) (loc_assignC rfl) ?_; refine RunL.nil ?_; refine AW.seq ?_; refine AW.seq ?_; refine AW.region (by kernel_rfl) ?_; refine RunL.val (by exact rfl) (loc_fieldAddr rfl) ?_; refine RunL.val (by exact rfl) (loc_load rfl rfl rfl) ?_; refine RunL.nil ?_; refine AW.block ?_; refine AW.seq ?_; refine AW.region (by kernel_rfl) ?_; refine RunL.val (by exact rfl) (loc_binInt rfl rfl rfl) ?_; refine RunL.val (by exact rfl) (loc_assignC rfl) ?_; refine RunL.nil ?_; refine AW.condTa (by exact rfl) (by assumption) ?_; refine AW.seq ?_; refine AW.region (by kernel_rfl) ?_; refine RunL.val (by exact rfl) (loc_fieldAddr rfl) ?_; refine RunL.val (by exact rfl) (loc_load rfl rfl rfl) ?_
    refine RunL.val (by exact rfl) (loc_fun (decimal_a a.n hn) rfl (by refine ⟨_, _, rfl, (by exact LeU.of_eq rfl trivial), (by exact trivial), ?_⟩; exact rfl)) ?_
    refine RunL.val (by exact rfl) (loc_addStr (a := mkB [35]) (by exact rfl) (by exact rfl) (by simp only [mkB_size, List.length_cons, List.length_nil, List.length_append]; omega) (mkB_app _ _)) ?_
    refine RunL.val (by exact rfl) (loc_assignC rfl) ?_; refine RunL.nil ?_; refine AW.ret ?_
    rw [show tmTxt a = [35] ++ Lib.itoa a.n by rw [tmTxt_eta, k1]; rfl]
    exact ret_same (.inr rfl) rfl trivial
  | false =>
  cases k2 : (a.k == 2) with
  | true =>
    have e : a.k = 2 := by simpa using k2
    have hn : -1000000 ≤ a.n ∧ a.n ≤ 1000000 := by
      rcases good_cases hg with ⟨e', _⟩ | ⟨_, _, en, _⟩ | ⟨e', _⟩ | ⟨e', _⟩ | ⟨e', _⟩ | ⟨e', _⟩ | ⟨e', _⟩ <;> first | exact inB_iff.1 en | omega
    refine AW.seq ?_; refine AW.region (by kernel_rfl) ?_; refine RunL.mem (by exact rfl) (loc_boxD rfl rfl rfl) ?_; refine RunL.val (by exact rfl) (loc_assignC rfl) ?_; refine RunL.nil ?_; refine AW.seq ?_; refine AW.seq ?_; refine AW.region (by kernel_rfl) ?_; refine RunL.val (by exact rfl) (loc_fieldAddr rfl) ?_; refine RunL.val (by exact rfl) (loc_load rfl rfl rfl) ?_; refine RunL.nil ?_; refine AW.block ?_; refine AW.seq ?_; refine AW.region (by kernel_rfl) ?_; refine RunL.val (by exact rfl) (loc_binInt rfl rfl rfl) ?_; refine RunL.val (by exact rfl) (loc_assignC rfl) ?_; refine RunL.nil ?_; refine AW.condFa (by exact rfl) (by assumption) ?_; refine AW.seq ?_; refine AW.region (by kernel_rfl) ?_; refine RunL.val (by exact rfl) (loc_binInt rfl rfl rfl) ?_; refine RunL.val (by exact rfl) (loc_assignC rfl) ?_; refine RunL.nil ?_; refine AW.condTa (by exact rfl) (by assumption) ?_; refine AW.seq ?_; refine AW.region (by kernel_rfl) ?_; refine RunL.val (by exact rfl) (loc_fieldAddr rfl) ?_; refine RunL.val (by exact rfl) (loc_load rfl rfl rfl) ?_
    refine RunL.val (by exact rfl) (loc_fun (decimal_a a.n hn) rfl (by refine ⟨_, _, rfl, (by exact LeU.of_eq rfl trivial), (by exact trivial), ?_⟩; exact rfl)) ?_
    refine RunL.val (by exact rfl) (loc_assignC rfl) ?_; refine RunL.nil ?_; refine AW.ret ?_
    rw [show tmTxt a = Lib.itoa a.n by rw [tmTxt_eta, k1, k2]; rfl]
    exact ret_same (.inr rfl) rfl trivial
  | false =>
  cases k3 : (a.k == 3) with
  | true =>
    cases n1 : (a.n == 1) with
    | true =>
      refine AW.seq ?_; refine AW.region (by kernel_rfl) ?_; refine RunL.mem (by exact rfl) (loc_boxD rfl rfl rfl) ?_; refine RunL.val (by exact rfl) (loc_assignC rfl) ?_; refine RunL.nil ?_; refine AW.seq ?_; refine AW.seq ?_; refine AW.region (by kernel_rfl) ?_; refine RunL.val (by exact rfl) (loc_fieldAddr rfl) ?_; refine RunL.val (by exact rfl) (loc_load rfl rfl rfl) ?_; refine RunL.nil ?_; refine AW.block ?_; refine AW.seq ?_; refine AW.region (by kernel_rfl) ?_; refine RunL.val (by exact rfl) (loc_binInt rfl rfl rfl) ?_; refine RunL.val (by exact rfl) (loc_assignC rfl) ?_; refine RunL.nil ?_; refine AW.condFa (by exact rfl) (by assumption) ?_; refine AW.seq ?_; refine AW.region (by kernel_rfl) ?_; refine RunL.val (by exact rfl) (loc_binInt rfl rfl rfl) ?_; refine RunL.val (by exact rfl) (loc_assignC rfl) ?_; refine RunL.nil ?_; refine AW.condFa (by exact rfl) (by assumption) ?_; refine AW.seq ?_; refine AW.region (by kernel_rfl) ?_; refine RunL.val (by exact rfl) (loc_binInt rfl rfl rfl) ?_; refine RunL.val (by exact rfl) (loc_assignC rfl) ?_; refine RunL.nil ?_; refine AW.condTa (by exact rfl) (by assumption) ?_; refine AW.seq ?_; refine AW.seq ?_; refine AW.region (by kernel_rfl) ?_; refine RunL.val (by exact rfl) (loc_fieldAddr rfl) ?_; refine RunL.val (by exact rfl) (loc_load rfl rfl rfl) ?_; refine RunL.val (by exact rfl) (loc_binInt rfl rfl rfl) ?_; refine RunL.nil ?_; refine AW.condTa (by exact rfl) (by assumption) ?_; refine AW.seq ?_; refine AW.region (by kernel_rfl) ?_; refine RunL.val (by exact rfl) (loc_assignC rfl) ?_; refine RunL.nil ?_; refine AW.ret ?_
      rw [show tmTxt a = [121, 101, 115] by rw [tmTxt_eta, k1, k2, k3, n1]; rfl]
      exact ret_same (.inr rfl) rfl trivial
    | false =>
      refine AW.seq ?_; refine AW.region (by kernel_rfl) ?_; refine RunL.mem (by exact rfl) (loc_boxD rfl rfl rfl) ?_; refine RunL.val (by exact rfl) (loc_assignC rfl) ?_; refine RunL.nil ?_; refine AW.seq ?_; refine AW.seq ?_; refine AW.region (by kernel_rfl) ?_; refine RunL.val (by exact rfl) (loc_fieldAddr rfl) ?_; refine RunL.val (by exact rfl) (loc_load rfl rfl rfl) ?_; refine RunL.nil ?_; refine AW.block ?_; refine AW.seq ?_; refine AW.region (by kernel_rfl) ?_; refine RunL.val (by exact rfl) (loc_binInt rfl rfl rfl) ?_; refine RunL.val (by exact rfl) (loc_assignC rfl) ?_; refine RunL.nil ?_; refine AW.condFa (by exact rfl) (by assumption) ?_; refine AW.seq ?_; refine AW.region (by kernel_rfl) ?_; refine RunL.val (by exact rfl) (loc_binInt rfl rfl rfl) ?_; refine RunL.val (by exact rfl) (loc_assignC rfl) ?_; refine RunL.nil ?_; refine AW.condFa (by exact rfl) (by assumption) ?_; refine AW.seq ?_; refine AW.region (by kernel_rfl) ?_; refine RunL.val (by exact rfl) (loc_binInt rfl rfl rfl) ?_; refine RunL.val (by exact rfl) (loc_assignC rfl) ?_; refine RunL.nil ?_; refine AW.condTa (by exact rfl) (by assumption) ?_; refine AW.seq ?_; refine AW.seq ?_; refine AW.region (by kernel_rfl) ?_; refine RunL.val (by exact rfl) (loc_fieldAddr rfl) ?_; refine RunL.val (by exact rfl) (loc_load rfl rfl rfl) ?_; refine RunL.val (by exact rfl) (loc_binInt rfl rfl rfl) ?_; refine RunL.nil ?_; refine AW.condFa (by exact rfl) (by assumption) ?_; refine AW.skip ?_; refine AW.seq ?_; refine AW.region (by kernel_rfl) ?_; refine RunL.val (by exact rfl) (loc_assignC rfl) ?_; refine RunL.nil ?_; refine AW.ret ?_
      rw [show tmTxt a = [110, 111] by rw [tmTxt_eta, k1, k2, k3, n1]; rfl]
      exact ret_same (.inr rfl) rfl trivial
  | false =>
  have hk49 : 4 ≤ a.k ∧ a.k ≤ 9 := by
    simp only [beq_eq_false_iff_ne] at k1 k2 k3
    rcases good_cases hg with ⟨e', _⟩ | ⟨e', _⟩ | ⟨e', _⟩ | ⟨e', _⟩ | ⟨e', _⟩ | ⟨e', _⟩ | ⟨e', _⟩ <;> omega
  have hww := six_get hk49.1 hk49.2
  have hwl := wTxt_len (k := a.k) (by omega)
  have htot := tmTxt_len a ar ow hg hb
  have hjt := join_txt k1 k2 k3
  rw [hjt] at htot ⊢
  refine AW.seq ?_; refine AW.region (by kernel_rfl) ?_; refine RunL.mem (by exact rfl) (loc_boxD rfl rfl rfl) ?_; refine RunL.val (by exact rfl) (loc_assignC rfl) ?_; refine RunL.nil ?_; refine AW.seq ?_; refine AW.seq ?_; refine AW.region (by kernel_rfl) ?_; refine RunL.val (by exact rfl) (loc_fieldAddr rfl) ?_; refine RunL.val (by exact rfl) (loc_load rfl rfl rfl) ?_; refine RunL.nil ?_; refine AW.block ?_; refine AW.seq ?_; refine AW.region (by kernel_rfl) ?_; refine RunL.val (by exact rfl) (loc_binInt rfl rfl rfl) ?_; refine RunL.val (by exact rfl) (loc_assignC rfl) ?_; refine RunL.nil ?_; refine AW.condFa (by exact rfl) (by assumption) ?_; refine AW.seq ?_; refine AW.region (by kernel_rfl) ?_; refine RunL.val (by exact rfl) (loc_binInt rfl rfl rfl) ?_; refine RunL.val (by exact rfl) (loc_assignC rfl) ?_; refine RunL.nil ?_; refine AW.condFa (by exact rfl) (by assumption) ?_; refine AW.seq ?_; refine AW.region (by kernel_rfl) ?_; refine RunL.val (by exact rfl) (loc_binInt rfl rfl rfl) ?_; refine RunL.val (by exact rfl) (loc_assignC rfl) ?_; refine RunL.nil ?_; refine AW.condFa (by exact rfl) (by assumption) ?_; refine AW.skip ?_; refine AW.seq ?_; refine AW.regionD (by kernel_rfl) (by kernel_rfl) (by kernel_rfl) ?_
  refine RunL.val (by exact rfl) (loc_fun (fieldsSix_a) rfl (by refine ⟨_, _, rfl, (by exact LeU.of_eq rfl trivial), (by exact trivial), ?_⟩; exact rfl)) ?_
  refine RunL.val (by exact rfl) (loc_fieldAddr rfl) ?_; refine RunL.val (by exact rfl) (loc_load rfl rfl rfl) ?_; refine RunL.val (by exact rfl) (loc_subB rfl rfl (by omega)) ?_
  refine RunL.val (by exact rfl) (loc_indexSlF ((a.k - 4).toNat) (by exact rfl) (by exact rfl) (by omega) hww (by exact rfl)) ?_
  refine RunL.val (by exact rfl) (loc_loadF rfl (by exact rfl)) ?_
  refine RunL.mem (by exact rfl) (loc_buildOwnD (rows := [[.str (mkB (wTxt a.k))]]) (by exact rfl) (by exact rfl) (by decide) (by decide) (by exact RowsOf.cons (by exact rfl) RowsOf.nil) (by exact AllP.cons (by exact rfl) AllP.nil) (by exact rfl) (by exact rfl) (by exact rfl)) ?_
  refine RunL.val (by exact rfl) (loc_assignC rfl) ?_; refine RunL.nilD (by kernel_rfl) ?_
  refine AW.seq ?_
  refine AW.midB (fun t h => ∃ v, t = tOfL [(1, .one (.ptr 1 0)), (3, .one (.own 30 (v) (headL a).length))] ∧ h = ofL [(1, .obj a.c), (30, .row 9 1 (v) (strRows ((headL a).map mkB)))]) ?_ ?_
  · cases k7 : (a.k == 7 || a.k == 9) with
    | false =>
      have hh : headL a = [wTxt a.k] := by unfold headL; rw [k7]; rfl
      rw [Bool.or_eq_false_iff] at k7
      obtain ⟨k7, k9⟩ := k7
      refine AW.seq ?_; refine AW.region (by kernel_rfl) ?_; refine RunL.val (by exact rfl) (loc_fieldAddr rfl) ?_; refine RunL.val (by exact rfl) (loc_load rfl rfl rfl) ?_; refine RunL.val (by exact rfl) (loc_binInt rfl rfl rfl) ?_; refine RunL.val (by exact rfl) (loc_moveC rfl) ?_; refine RunL.val (by exact .inl ⟨_, _, rfl, rfl, guard_eq false (by assumption) rfl⟩) (loc_fieldAddr rfl) ?_; refine RunL.val (by exact .inl ⟨_, _, rfl, rfl, guard_eq false (by assumption) rfl⟩) (loc_load rfl rfl rfl) ?_; refine RunL.val (by exact .inl ⟨_, _, rfl, rfl, guard_eq false (by assumption) rfl⟩) (loc_binInt rfl rfl rfl) ?_; refine RunL.val (by exact rfl) (loc_pickI false (by assumption) rfl rfl) ?_; refine RunL.nil ?_; refine AW.condFa (by exact rfl) (by assumption) ?_; refine AW.skip ?_
      rw [hh]
      exact ⟨_, _, (gh_lit [(1, .one (.ptr 1 0)), (3, .one (.own 30 0 1))] [(1, .obj a.c), (30, .row 9 1 0 [[.str (mkB (wTxt a.k))]])] [] [] ⟨(WkU.of_eq rfl trivial), (by exact WkU.of_eq rfl trivial), trivial⟩ ⟨(by exact Or.inl ⟨_, rfl, WkBlk.refl _⟩), (by exact Or.inl ⟨_, rfl, WkBlk.refl _⟩), trivial⟩ trivial trivial rfl rfl ⟨⟨_, rfl⟩, ⟨_, _, _, _, rfl, Nat.le_refl _⟩, trivial⟩ ⟨(by refine And.intro ?_ ?_; exact trivial; refine And.intro ?_ ?_; exact trivial; refine And.intro ?_ ?_; exact trivial; refine And.intro ?_ ?_; exact trivial; refine And.intro ?_ ?_; exact trivial; refine And.intro ?_ ?_; exact trivial; refine And.intro ?_ ?_; exact trivial; exact trivial), (okRows_closed (by exact rfl)), trivial⟩), 0, rfl, rfl⟩
    | true =>
      have hh : headL a = [wTxt a.k, tyTxt a.t] := by unfold headL; rw [k7]; rfl
      have hgt : a.t.good 4 = true := by
        rw [goodT_eta, Bool.and_eq_true] at hg
        have h := hg.1
        simp only [Tm.fit, Bool.and_eq_true] at h
        have h := h.1.2
        rw [if_pos k7] at h
        exact h
      have hty := typeText_a 4 (by omega) a.t hgt
      cases k7' : (a.k == 7) with
      | true =>
        refine AW.seq ?_; refine AW.region (by kernel_rfl) ?_; refine RunL.val (by exact rfl) (loc_fieldAddr rfl) ?_; refine RunL.val (by exact rfl) (loc_load rfl rfl rfl) ?_; refine RunL.val (by exact rfl) (loc_binInt rfl rfl rfl) ?_; refine RunL.val (by exact rfl) (loc_moveC rfl) ?_; refine RunL.skip (.inl ⟨_, _, rfl, rfl, guard_eq true (by assumption) rfl⟩) ?_; refine RunL.skip (.inl ⟨_, _, rfl, rfl, guard_eq true (by assumption) rfl⟩) ?_; refine RunL.skip (.inl ⟨_, _, rfl, rfl, guard_eq true (by assumption) rfl⟩) ?_; refine RunL.val (by exact rfl) (loc_pickI true (by assumption) rfl rfl) ?_; refine RunL.nil ?_; refine AW.condT (by exact rfl) ?_; refine AW.region (by kernel_rfl) ?_; refine RunL.val (by exact rfl) (loc_moveC rfl) ?_; refine RunL.val (by exact rfl) (loc_fieldAddr rfl) ?_; refine RunL.val (by exact rfl) (loc_loadA rfl rfl (by exact Cut.cons (by exact rfl) (Cut.cons (by exact rfl) Cut.nil))) ?_
        refine RunL.val (by exact rfl) (loc_fun (hty) rfl (by refine ⟨_, _, rfl, (by exact LeU.of_eq rfl trivial), (by (refine And.intro ?_ ?_; exact trivial; refine And.intro ?_ ?_; exact trivial; exact trivial; done)), ?_⟩; exact rfl)) ?_
        refine RunL.val (by exact rfl) (loc_sliceLit (by exact rfl) (by exact rfl) (by decide) (by decide) (by exact RowsOf.cons (by exact rfl) RowsOf.nil) (by exact AllP.cons (by exact rfl) AllP.nil) (by exact rfl)) ?_
        refine RunL.mem (by exact rfl) (loc_appendAll (by exact rfl) (by exact rfl) (by exact rfl) (by exact .inl rfl) (by exact rfl) (by exact ⟨rfl, trivial⟩) (by simp only [List.length_cons, List.length_nil]; omega) (by decide)) ?_
        refine RunL.val (by exact rfl) (loc_assignC rfl) ?_; refine RunL.nil ?_
        rw [hh]
        exact ⟨_, _, (gh_lit [(1, .one (.ptr 1 0)), (3, .one (.own 30 1 2))] [(1, .obj a.c), (30, .row 9 1 1 [[.str (mkB (wTxt a.k))], [.str (mkB (tyTxt a.t))]])] [] [] ⟨(WkU.of_eq rfl trivial), (by exact WkU.of_eq rfl trivial), trivial⟩ ⟨(by exact Or.inl ⟨_, rfl, WkBlk.refl _⟩), (by exact Or.inl ⟨_, rfl, WkBlk.refl _⟩), trivial⟩ trivial trivial rfl rfl ⟨⟨_, rfl⟩, ⟨_, _, _, _, rfl, Nat.le_refl _⟩, trivial⟩ ⟨(by refine And.intro ?_ ?_; exact trivial; refine And.intro ?_ ?_; exact trivial; refine And.intro ?_ ?_; exact trivial; refine And.intro ?_ ?_; exact trivial; refine And.intro ?_ ?_; exact trivial; refine And.intro ?_ ?_; exact trivial; refine And.intro ?_ ?_; exact trivial; exact trivial), (okRows_closed (by exact rfl)), trivial⟩), 1, rfl, rfl⟩
      | false =>
        have k9 : (a.k == 9) = true := by rw [k7'] at k7; simpa using k7
        refine AW.seq ?_; refine AW.region (by kernel_rfl) ?_; refine RunL.val (by exact rfl) (loc_fieldAddr rfl) ?_; refine RunL.val (by exact rfl) (loc_load rfl rfl rfl) ?_; refine RunL.val (by exact rfl) (loc_binInt rfl rfl rfl) ?_; refine RunL.val (by exact rfl) (loc_moveC rfl) ?_; refine RunL.val (by exact .inl ⟨_, _, rfl, rfl, guard_eq false (by assumption) rfl⟩) (loc_fieldAddr rfl) ?_; refine RunL.val (by exact .inl ⟨_, _, rfl, rfl, guard_eq false (by assumption) rfl⟩) (loc_load rfl rfl rfl) ?_; refine RunL.val (by exact .inl ⟨_, _, rfl, rfl, guard_eq false (by assumption) rfl⟩) (loc_binInt rfl rfl rfl) ?_; refine RunL.val (by exact rfl) (loc_pickI false (by assumption) rfl rfl) ?_; refine RunL.nil ?_; refine AW.condTa (by exact rfl) (by assumption) ?_; refine AW.region (by kernel_rfl) ?_; refine RunL.val (by exact rfl) (loc_moveC rfl) ?_; refine RunL.val (by exact rfl) (loc_fieldAddr rfl) ?_; refine RunL.val (by exact rfl) (loc_loadA rfl rfl (by exact Cut.cons (by exact rfl) (Cut.cons (by exact rfl) Cut.nil))) ?_
        refine RunL.val (by exact rfl) (loc_fun (hty) rfl (by refine ⟨_, _, rfl, (by exact LeU.of_eq rfl trivial), (by (refine And.intro ?_ ?_; exact trivial; refine And.intro ?_ ?_; exact trivial; exact trivial; done)), ?_⟩; exact rfl)) ?_
        refine RunL.val (by exact rfl) (loc_sliceLit (by exact rfl) (by exact rfl) (by decide) (by decide) (by exact RowsOf.cons (by exact rfl) RowsOf.nil) (by exact AllP.cons (by exact rfl) AllP.nil) (by exact rfl)) ?_
        refine RunL.mem (by exact rfl) (loc_appendAll (by exact rfl) (by exact rfl) (by exact rfl) (by exact .inl rfl) (by exact rfl) (by exact ⟨rfl, trivial⟩) (by simp only [List.length_cons, List.length_nil]; omega) (by decide)) ?_
        refine RunL.val (by exact rfl) (loc_assignC rfl) ?_; refine RunL.nil ?_
        rw [hh]
        exact ⟨_, _, (gh_lit [(1, .one (.ptr 1 0)), (3, .one (.own 30 1 2))] [(1, .obj a.c), (30, .row 9 1 1 [[.str (mkB (wTxt a.k))], [.str (mkB (tyTxt a.t))]])] [] [] ⟨(WkU.of_eq rfl trivial), (by exact WkU.of_eq rfl trivial), trivial⟩ ⟨(by exact Or.inl ⟨_, rfl, WkBlk.refl _⟩), (by exact Or.inl ⟨_, rfl, WkBlk.refl _⟩), trivial⟩ trivial trivial rfl rfl ⟨⟨_, rfl⟩, ⟨_, _, _, _, rfl, Nat.le_refl _⟩, trivial⟩ ⟨(by refine And.intro ?_ ?_; exact trivial; refine And.intro ?_ ?_; exact trivial; refine And.intro ?_ ?_; exact trivial; refine And.intro ?_ ?_; exact trivial; refine And.intro ?_ ?_; exact trivial; refine And.intro ?_ ?_; exact trivial; refine And.intro ?_ ?_; exact trivial; exact trivial), (okRows_closed (by exact rfl)), trivial⟩), 1, rfl, rfl⟩
  · rintro t h ⟨v0, rfl, rfl⟩
    have hdl : 1 ≤ (headL a).length ∧ (headL a).length ≤ 2 := by unfold headL; split <;> simp
    generalize headL a = hd at *
    have hc0 := closed_strRows (hd.map mkB)
    refine AW.seq ?_; refine AW.seq ?_; refine AW.region (by kernel_rfl) ?_; refine RunL.val (by exact rfl) (loc_fieldAddr rfl) ?_; refine RunL.val (by exact rfl) (loc_load rfl rfl rfl) ?_; refine RunL.val (by exact rfl) (loc_lenSl rfl) ?_; refine RunL.val (by exact rfl) (loc_moveC rfl) ?_; refine RunL.nil ?_; refine AW.block ?_
    refine AW.gh (gh_lit [(1, .one (.ptr 1 0)), (3, .one (.own 30 (v0) (hd).length)), (46, .one (slOf 7 (tmRows a.l))), (47, .one (.int .i64 ((tmRows a.l).length : Nat))), (48, .one (.int .i64 ((0 : Nat) : Int)))] [(1, .obj a.c), (30, .row 9 1 (v0) (strRows ((hd).map mkB)))] [] [] ⟨(WkU.of_eq rfl trivial), (by exact WkU.of_eq rfl trivial), (by exact WkU.of_eq rfl trivial), (WkU.of_eq rfl trivial), (WkU.of_eq rfl trivial), trivial⟩ ⟨(by exact Or.inl ⟨_, rfl, WkBlk.refl _⟩), (by exact Or.inl ⟨_, rfl, WkBlk.refl _⟩), trivial⟩ trivial trivial rfl rfl ⟨⟨_, rfl⟩, ⟨_, _, _, _, rfl, Nat.le_refl _⟩, trivial, trivial, trivial, trivial⟩ ⟨(by refine And.intro ?_ ?_; exact trivial; refine And.intro ?_ ?_; exact trivial; refine And.intro ?_ ?_; exact trivial; refine And.intro ?_ ?_; exact trivial; refine And.intro ?_ ?_; exact trivial; refine And.intro ?_ ?_; exact trivial; refine And.intro ?_ ?_; exact trivial; exact trivial), (okRows_closed (by assumption)), trivial⟩) ?_
    refine AW.lenSl 46 rfl fun hmax => ?_
    refine AW.loop (fun m t h => ∃ (i : Nat) (v : Nat), i ≤ a.l.length ∧ m = a.l.length - i ∧ t = tOfL [(1, .one (.ptr 1 0)), (3, .one (.own 30 (v) ((hd ++ kidTxts (a.l.take (i)))).length)), (46, .one (slOf 7 (tmRows a.l))), (47, .one (.int .i64 ((tmRows a.l).length : Nat))), (48, .one (.int .i64 ((i : Nat) : Int)))] ∧ h = ofL [(1, .obj a.c), (30, .row 9 1 (v) (strRows (((hd ++ kidTxts (a.l.take (i)))).map mkB)))]) a.l.length ⟨0, v0, Nat.zero_le _, rfl, by simp [kidTxts], by simp [kidTxts]⟩ ?_
    rintro m t h ⟨i, v, hi, rfl, rfl, rfl⟩
    have hkl : (kidTxts (a.l.take i)).length = i := by unfold kidTxts; rw [List.length_map, List.length_take]; omega
    have hrl : (strRows ((hd ++ kidTxts (a.l.take i)).map mkB)).length = (hd ++ kidTxts (a.l.take i)).length := by simp [strRows]
    cases hlt : decide ((i : Int) < ((tmRows a.l).length : Nat)) with
    | false =>
      have hil : i = a.l.length := by simp at hlt; omega
      have hti : a.l.take i = a.l := by rw [hil, List.take_length]
      have hci := closed_strRows ((hd ++ kidTxts (a.l.take i)).map mkB)
      refine AW.gh (gh_lit [(1, .one (.ptr 1 0)), (3, .one (slOf 1 (strRows ((hd ++ kidTxts (a.l.take i)).map mkB)))), (46, .one (slOf 7 (tmRows a.l))), (47, .one (.int .i64 ((tmRows a.l).length : Nat))), (48, .one (.int .i64 ((i : Nat) : Int)))] [(1, .obj a.c)] [30] [] ⟨(WkU.of_eq rfl trivial), (by exact WkC.row (List.mem_cons_self ..) rfl (by assumption) (by exact LeRows.refl _)), (by exact WkU.of_eq rfl trivial), (WkU.of_eq rfl trivial), (WkU.of_eq rfl trivial), trivial⟩ ⟨(by exact Or.inl ⟨_, rfl, WkBlk.refl _⟩), trivial⟩ ⟨⟨_, rfl, hci⟩, trivial⟩ trivial rfl rfl ⟨⟨_, rfl⟩, trivial, trivial, trivial, trivial, trivial⟩ ⟨(by refine And.intro ?_ ?_; exact trivial; refine And.intro ?_ ?_; exact trivial; refine And.intro ?_ ?_; exact trivial; refine And.intro ?_ ?_; exact trivial; refine And.intro ?_ ?_; exact trivial; refine And.intro ?_ ?_; exact trivial; refine And.intro ?_ ?_; exact trivial; exact trivial), trivial⟩) ?_
      rw [hti]
      have hjn := sjoin_a (hd ++ kidTxts a.l) ⟨#[32]⟩ (by intro h; rw [List.append_eq_nil_iff] at h; rw [h.1] at hdl; simp at hdl) (by rw [hti] at hkl; rw [List.length_append]; omega) (by
        simp only [List.length_append, List.length_cons, List.length_nil] at htot
        show (Lib.join (hd ++ kidTxts a.l) [32]).length ≤ _
        omega)
      simp only [List.length_append, List.length_cons, List.length_nil] at htot
      refine AW.seq ?_; refine AW.region (by kernel_rfl) ?_; refine RunL.val (by exact rfl) (loc_binInt rfl rfl rfl) ?_; refine RunL.nil ?_; refine AW.seq ?_; refine AW.condFa (by exact rfl) (by assumption) ?_; refine AW.exit ?_; refine AW.seq ?_; refine AW.region (by kernel_rfl) ?_; refine RunL.val (by exact rfl) (loc_moveC rfl) ?_
      refine RunL.val (by exact rfl) (loc_fun (hjn) rfl (by refine ⟨_, _, rfl, (by exact LeU.of_eq rfl trivial), (by exact trivial), ?_⟩; refine ⟨_, _, rfl, (by exact LeU.of_eq rfl trivial), (by exact trivial), ?_⟩; exact rfl)) ?_
      refine RunL.val (by exact rfl) (loc_addStr (a := mkB [40]) (by exact rfl) (by exact rfl) (by simp only [mkB_size, List.length_cons, List.length_nil, List.length_append]; omega) (mkB_app _ _)) ?_
      refine RunL.val (by exact rfl) (loc_addStr (b := mkB [41]) (by exact rfl) (by exact rfl) (by simp only [mkB_size, List.length_cons, List.length_nil, List.length_append]; omega) (mkB_app _ _)) ?_
      refine RunL.val (by exact rfl) (loc_assignC rfl) ?_; refine RunL.nil ?_; refine AW.ret ?_
      exact ret_same (.inr rfl) rfl trivial
    | true =>
      have hil : i < a.l.length := by simp at hlt; omega
      have hr1 := tmRows_get hil
      have hmem : a.l[i] ∈ a.l := List.getElem_mem hil
      have hn3 := nodes_mem hmem
      have hgi := goodL_mem (by rw [goodT_eta, Bool.and_eq_true] at hg; exact hg.2) _ hmem
      have hif : ow ≤ (if a.k == 7 then ow + 1 else ow) ∧ (if a.k == 7 then ow + 1 else ow) ≤ ow + 1 := by split <;> omega
      have hc := ih a.l[i] hmem _ _ hgi (by omega) (by omega)
      have hsn := strRows_snoc (hd ++ kidTxts (a.l.take i)) (tmTxt a.l[i])
      rw [List.append_assoc, ← kidTxts_take hil] at hsn
      have hci := closed_strRows ((hd ++ kidTxts (a.l.take (i + 1))).map mkB)
      have hlc : (hd ++ kidTxts (a.l.take i)).length + 1 = (hd ++ kidTxts (a.l.take (i + 1))).length := by rw [kidTxts_take hil]; simp; omega
      refine AW.seq ?_; refine AW.region (by kernel_rfl) ?_; refine RunL.val (by exact rfl) (loc_binInt rfl rfl rfl) ?_; refine RunL.nil ?_; refine AW.seq ?_; refine AW.condTa (by exact rfl) (by assumption) ?_; refine AW.skip ?_; refine AW.seq ?_; refine AW.block ?_; refine AW.seq ?_; refine AW.region (by kernel_rfl) ?_; refine RunL.val (by exact rfl) (loc_indexSl _ rfl rfl rfl (by assumption) rfl) ?_; refine RunL.val (by exact rfl) (loc_loadFA rfl (by exact Cut.all (by exact rfl))) ?_; refine RunL.mem (by exact rfl) (loc_allocD rfl rfl) ?_; refine RunL.eff (by exact rfl) (loc_storeW rfl rfl rfl rfl (by exact rfl) (by exact rfl)) ?_; refine RunL.nil ?_; refine AW.region (by kernel_rfl) ?_; refine RunL.val (by exact rfl) (loc_moveC rfl) ?_; refine RunL.val (by exact rfl) (loc_loadA rfl rfl (by exact Cut.all (by exact rfl))) ?_
      refine RunL.val (by exact rfl) (loc_fun (hc) rfl (by refine ⟨_, _, rfl, (by exact LeU.of_eq rfl trivial), (by (refine And.intro ?_ ?_; exact trivial; refine And.intro ?_ ?_; exact trivial; refine And.intro ?_ ?_; exact trivial; refine And.intro ?_ ?_; exact trivial; refine And.intro ?_ ?_; exact trivial; refine And.intro ?_ ?_; exact trivial; refine And.intro ?_ ?_; exact trivial; exact trivial; done)), ?_⟩; exact rfl)) ?_
      refine RunL.val (by exact rfl) (loc_sliceLit (by exact rfl) (by exact rfl) (by decide) (by decide) (by exact RowsOf.cons (by exact rfl) RowsOf.nil) (by exact AllP.cons (by exact rfl) AllP.nil) (by exact rfl)) ?_
      refine RunL.mem (by exact rfl) (loc_appendAll (by exact rfl) (by exact rfl) (by exact rfl) (by exact .inl rfl) (by exact hrl) (by exact ⟨rfl, trivial⟩) (by simp only [List.length_cons, List.length_nil, List.length_append, hkl]; omega) (by decide)) ?_
      rw [hsn, show (hd ++ kidTxts (a.l.take i)).length + [[C.str (mkB (tmTxt a.l[i]))]].length = (hd ++ kidTxts (a.l.take (i + 1))).length from hlc]
      refine RunL.val (by exact rfl) (loc_assignC rfl) ?_; refine RunL.nil ?_; refine AW.region (by kernel_rfl) ?_; refine RunL.val (by exact rfl) (loc_inc rfl rfl (by omega)) ?_; refine RunL.val (by exact rfl) (loc_moveC rfl) ?_; refine RunL.nil ?_
      exact ⟨a.l.length - (i + 1), _, _, by omega, (gh_lit [(1, .one (.ptr 1 0)), (3, .one (.own 30 ((v + 1)) ((hd ++ kidTxts (a.l.take (i + 1)))).length)), (46, .one (slOf 7 (tmRows a.l))), (47, .one (.int .i64 ((tmRows a.l).length : Nat))), (48, .one (.int .i64 (((i + 1) : Nat) : Int)))] [(1, .obj a.c), (30, .row 9 1 ((v + 1)) (strRows (((hd ++ kidTxts (a.l.take (i + 1)))).map mkB)))] [] [] ⟨(WkU.of_eq rfl trivial), (by exact WkU.of_eq rfl trivial), (by exact WkU.of_eq rfl trivial), (WkU.of_eq rfl trivial), (WkU.of_eq rfl trivial), trivial⟩ ⟨(by exact Or.inl ⟨_, rfl, WkBlk.refl _⟩), (by exact Or.inl ⟨_, rfl, WkBlk.refl _⟩), trivial⟩ trivial trivial rfl rfl ⟨⟨_, rfl⟩, ⟨_, _, _, _, rfl, Nat.le_refl _⟩, trivial, trivial, trivial, trivial⟩ ⟨(by refine And.intro ?_ ?_; exact trivial; refine And.intro ?_ ?_; exact trivial; refine And.intro ?_ ?_; exact trivial; refine And.intro ?_ ?_; exact trivial; refine And.intro ?_ ?_; exact trivial; refine And.intro ?_ ?_; exact trivial; refine And.intro ?_ ?_; exact trivial; exact trivial), (okRows_closed (by assumption)), trivial⟩), i + 1, v + 1, by omega, rfl, rfl, rfl⟩
end Go.Proofs.YtnflnbdlgdjfmabDoor
namespace Go.Proofs.YtnflnbdlgdjfmabDoor
open Go.RowKit
set_option linter.unusedVariables false
set_option linter.unusedSimpArgs false
set_option maxRecDepth 100000
attribute [local irreducible] RunL AW LocOp ACalls Gh
theorem replaceK_len (old new : List UInt8) : ∀ (k : Nat) (s : List UInt8), (Lib.replaceK old new k s).length ≤ s.length + k * new.length
  | 0, s => by simp [Lib.replaceK]
  | k + 1, s => by
    simp only [Lib.replaceK]
    split
    · exact Nat.le_add_right _ _
    · have := replaceK_len old new k (s.drop ((Lib.index s old).toNat + old.length))
      simp only [List.length_append, List.length_take, List.length_drop] at this ⊢
      rw [Nat.succ_mul]
      omega
theorem replaceS_size (s old new : ByteArray) (h1 : 1 ≤ old.size) : (replaceS s old new).size ≤ s.size + s.size * new.size := by
  have hc : Lib.count s.data.toList old.data.toList ≤ s.size := Lib.countB_le old h1 s.size s (Nat.le_refl _)
  have hl : s.data.toList.length = s.size := Array.length_toList
  have hn : new.data.toList.length = new.size := Array.length_toList
  show (Lib.replaceAll s.data.toList old.data.toList new.data.toList).toArray.size ≤ _
  rw [List.size_toArray]
  unfold Lib.replaceAll Lib.replace
  split
  · omega
  · refine Nat.le_trans (replaceK_len _ _ _ _) ?_
    have h2 : Lib.replaceNum s.data.toList old.data.toList (-1) = Lib.count s.data.toList old.data.toList := by unfold Lib.replaceNum; rw [if_pos (.inl (by decide))]
    rw [h2, hl, hn]
    exact Nat.add_le_add_left (Nat.mul_le_mul_right _ hc) _
theorem spans_len (p : Nat → Bool) (s : ByteArray) : ∀ (f pos : Nat) (st : Option Nat) (acc : List (Nat × Nat)), (Lib.spansFromP p s f pos st acc).1.length ≤ acc.length + f
  | 0, _, _, acc => by simp [Lib.spansFromP]
  | f + 1, pos, st, acc => by
    simp only [Lib.spansFromP]
    split
    · split
      · split
        · rename_i a
          have := spans_len p s f (pos + (Utf8.decode s pos).2) none (acc ++ [(a, pos)]); simp at this; omega
        · have := spans_len p s f (pos + (Utf8.decode s pos).2) none acc; omega
      · split
        · rename_i a
          have := spans_len p s f (pos + (Utf8.decode s pos).2) (some a) acc; omega
        · have := spans_len p s f (pos + (Utf8.decode s pos).2) (some pos) acc; omega
    · simp
theorem fields_len (p : Nat → Bool) (s : ByteArray) : (Lib.goFieldsP p s).length ≤ s.size + 1 ∧ ∀ w ∈ Lib.goFieldsP p s, w.size ≤ s.size := by
  constructor
  · unfold Lib.goFieldsP Lib.spansOfP Lib.closeSpans
    have := spans_len p s s.size 0 none []
    rw [List.length_map]
    split
    · simp at this ⊢; omega
    · simp at this; omega
  · intro w hw
    unfold Lib.goFieldsP at hw
    obtain ⟨x, _, rfl⟩ := List.mem_map.1 hw
    rw [ByteArray.size_extract]; omega
def isGap (x : Nat) : Bool := x == 32 || x == 10
theorem gap_a (x : Nat) : ACalls Tryd.prog 30 [.one (.int .i32 x)] [] (.one (.bool (isGap x))) [] := by
  have e1 : ((x : Int) == 32) = (x == 32) := by rw [Bool.eq_iff_iff]; simp; omega
  have e2 : ((x : Int) == 10) = (x == 10) := by rw [Bool.eq_iff_iff]; simp; omega
  refine acalls_of_body Tryd.func30 rfl (by kernel_rfl) (Nat.le_of_ble_eq_true rfl) trivial (by simp [namesL]) ?_
  unfold isGap
  cases h1 : (x == 32) with
  | true =>
    have h1' : ((x : Int) == 32) = true := e1.trans h1
    refine AW.seq ?_; refine AW.region (by kernel_rfl) ?_; refine RunL.val (by exact rfl) (loc_assignC rfl) ?_; refine RunL.nil ?_; refine AW.seq ?_; refine AW.region (by kernel_rfl) ?_; refine RunL.val (by exact rfl) (loc_moveC rfl) ?_; refine RunL.val (by exact rfl) (loc_binInt rfl rfl rfl) ?_; refine RunL.val (by exact rfl) (loc_moveC rfl) ?_; refine RunL.skip (.inl ⟨_, _, rfl, rfl, guard_eq true (by assumption) rfl⟩) ?_; refine RunL.skip (.inl ⟨_, _, rfl, rfl, guard_eq true (by assumption) rfl⟩) ?_; refine RunL.val (by exact rfl) (loc_pickI true (by assumption) rfl rfl) ?_; refine RunL.val (by exact rfl) (loc_assignC rfl) ?_; refine RunL.nil ?_; refine AW.ret ?_
    refine rq ?_
    exact ret_same (by exact .inr rfl) (by exact rfl) trivial
  | false =>
    have h1' : ((x : Int) == 32) = false := e1.trans h1
    cases h2 : (x == 10) with
    | true =>
      have h2' : ((x : Int) == 10) = true := e2.trans h2
      refine AW.seq ?_; refine AW.region (by kernel_rfl) ?_; refine RunL.val (by exact rfl) (loc_assignC rfl) ?_; refine RunL.nil ?_; refine AW.seq ?_; refine AW.region (by kernel_rfl) ?_; refine RunL.val (by exact rfl) (loc_moveC rfl) ?_; refine RunL.val (by exact rfl) (loc_binInt rfl rfl rfl) ?_; refine RunL.val (by exact rfl) (loc_moveC rfl) ?_; refine RunL.val (by exact .inl ⟨_, _, rfl, rfl, guard_eq false (by assumption) rfl⟩) (loc_moveC rfl) ?_; refine RunL.val (by exact .inl ⟨_, _, rfl, rfl, guard_eq false (by assumption) rfl⟩) (loc_binInt rfl rfl rfl) ?_; refine RunL.val (by exact rfl) (loc_pickI false (by assumption) rfl rfl) ?_; refine RunL.val (by exact rfl) (loc_assignC rfl) ?_; refine RunL.nil ?_; refine AW.ret ?_
      rw [h2']
      refine rq ?_
      exact ret_same (by exact .inr rfl) (by exact rfl) trivial
    | false =>
      have h2' : ((x : Int) == 10) = false := e2.trans h2
      refine AW.seq ?_; refine AW.region (by kernel_rfl) ?_; refine RunL.val (by exact rfl) (loc_assignC rfl) ?_; refine RunL.nil ?_; refine AW.seq ?_; refine AW.region (by kernel_rfl) ?_; refine RunL.val (by exact rfl) (loc_moveC rfl) ?_; refine RunL.val (by exact rfl) (loc_binInt rfl rfl rfl) ?_; refine RunL.val (by exact rfl) (loc_moveC rfl) ?_; refine RunL.val (by exact .inl ⟨_, _, rfl, rfl, guard_eq false (by assumption) rfl⟩) (loc_moveC rfl) ?_; refine RunL.val (by exact .inl ⟨_, _, rfl, rfl, guard_eq false (by assumption) rfl⟩) (loc_binInt rfl rfl rfl) ?_; refine RunL.val (by exact rfl) (loc_pickI false (by assumption) rfl rfl) ?_; refine RunL.val (by exact rfl) (loc_assignC rfl) ?_; refine RunL.nil ?_; refine AW.ret ?_
      rw [h2']
      refine rq ?_
      exact ret_same (by exact .inr rfl) (by exact rfl) trivial
theorem gap_enter (args : Array Value) (w : World) : (callFunc 30 args).run Tryd.prog w = .ok (.enter 30 args) w := by
  have hb : ∃ c, Tryd.f30.body = some c := ⟨_, rfl⟩
  obtain ⟨c, hb⟩ := hb
  have h1 : Tryd.f30.name ≠ "runtime.NumGoroutine" := by
    have : (Tryd.f30.name == "runtime.NumGoroutine") = false := by kernel_rfl
    simpa using this
  simp [callFunc, Tryd.func30, h1, hb]
/-- A text's words: not many, not long. -/
theorem words_ok {s : ByteArray} (h : ¬ 1000 < s.size) : RdOk ⟨wordsOf s, false⟩ ∧ (wordsOf s).length ≤ 20000 := by
  have h1 := replaceS_size s sLp ⟨#[32, 40, 32]⟩ (by decide)
  have h2 := replaceS_size (replaceS s sLp ⟨#[32, 40, 32]⟩) sRp ⟨#[32, 41, 32]⟩ (by decide)
  have e1 : (⟨#[32, 40, 32]⟩ : ByteArray).size = 3 := rfl
  have e2 : (⟨#[32, 41, 32]⟩ : ByteArray).size = 3 := rfl
  rw [e1] at h1
  rw [e2] at h2
  obtain ⟨h3, h4⟩ := fields_len isGap (replaceS (replaceS s sLp ⟨#[32, 40, 32]⟩) sRp ⟨#[32, 41, 32]⟩)
  refine ⟨fun w hw => ?_, ?_⟩
  · have := h4 w hw; omega
  · show (Lib.goFieldsP isGap _).length ≤ _; omega
theorem parse_ok (s : ByteArray) : TmOk (parse s).1 ∧ ((parse s).1.nodes : Int) ≤ 1048576 := by
  unfold parse
  split
  · exact ⟨zero_ok, by decide⟩
  · rename_i h
    simp only
    split
    · exact ⟨zero_ok, by decide⟩
    · rename_i hc
      obtain ⟨h1, h2⟩ := readT_ok 40 ⟨wordsOf s, false⟩
      obtain ⟨_, hw⟩ := words_ok h
      refine ⟨h1, ?_⟩
      simp only [Bool.or_eq_true, not_or, Bool.not_eq_true] at hc
      have := (h2 hc.1.1).1
      simp only at this ⊢
      omega
/-- What Parse answers. -/
def parseU (s : ByteArray) : U := .tup [(parse s).1.u, .one (.int .i64 (parse s).2)]
theorem ret_pe {P : Program} {x z : Tmp} {tx : TypeId} {bx : Nat} {k : List C} {a : Tm} {n : Int} {e : Exit} {t : Nat → U} {h : Nat → Option Blk} [T : TAgg P tx 7] (he : e = .normal ∨ e = .ret) (hx : t x = .one (.ptr bx 0)) (hbx : h bx = some (.obj k)) (hk : All2 (WkC h [] []) k a.c) (hz : t z = .one (.int .i64 n)) : RetQ P #[.cell x tx, .tmp z] (.tup [a.u, .one (.int .i64 n)]) [] e t h :=
  ret_ct (O' := []) he hx hbx hk.length hz [] trivial hk (.le (.refl _)) trivial rfl ⟨⟨trivial, trivial, trivial, trivial, trivial, trivial, trivial, trivial⟩, trivial, trivial⟩ trivial rfl
set_option maxHeartbeats 8000000 in
theorem parse_a (s : ByteArray) : ACalls Tryd.prog 10 [.one (.str s)] [] (parseU s) [] := by
  refine acalls_of_body Tryd.func10 rfl (by kernel_rfl) (Nat.le_of_ble_eq_true rfl) trivial (by simp [namesL]) ?_
  unfold parseU
  cases hlen : decide ((s.size : Int) > 1000) with
  | true =>
    have h1 : 1000 < s.size := by have := of_decide_eq_true hlen; omega
    rw [show parse s = (Tm.zero, 4) by unfold parse; rw [if_pos h1]]
    refine AW.seq ?_; refine AW.region (by kernel_rfl) ?_; refine RunL.mem (by exact rfl) (loc_allocD rfl rfl) ?_; refine RunL.val (by exact rfl) (loc_assignC rfl) ?_; refine RunL.nil ?_; refine AW.seq ?_; refine AW.seq ?_; refine AW.region (by kernel_rfl) ?_; refine RunL.val (by exact rfl) (loc_moveC rfl) ?_; refine RunL.val (by exact rfl) (loc_lenStr rfl) ?_; refine RunL.val (by exact rfl) (loc_binInt rfl rfl rfl) ?_; refine RunL.nil ?_; refine AW.condTa (by exact rfl) (by assumption) ?_; refine AW.seq ?_; refine AW.region (by kernel_rfl) ?_; refine RunL.val (by exact rfl) (loc_build (by exact rfl) (by exact Cut.all (by exact rfl)) (by exact rfl)) ?_; refine RunL.eff (by exact rfl) (loc_storeW rfl rfl rfl rfl (by exact rfl) (by exact rfl)) ?_; refine RunL.val (by exact rfl) (loc_assignC rfl) ?_; refine RunL.nil ?_; refine AW.ret ?_
    refine rq ?_
    exact ret_pe (by exact .inr rfl) (by exact rfl) (by exact rfl) tleaf (by exact rfl)
  | false =>
    have h1 : ¬ 1000 < s.size := by have := of_decide_eq_false hlen; omega
    have z1 := replaceS_size s sLp ⟨#[32, 40, 32]⟩ (by decide)
    have z2 := replaceS_size (replaceS s sLp ⟨#[32, 40, 32]⟩) sRp ⟨#[32, 41, 32]⟩ (by decide)
    have e1 : (⟨#[32, 40, 32]⟩ : ByteArray).size = 3 := rfl
    have e2 : (⟨#[32, 41, 32]⟩ : ByteArray).size = 3 := rfl
    rw [e1] at z1
    rw [e2] at z2
    have c1 : Lib.countB s sLp ≤ s.size := Lib.countB_le sLp (by decide) s.size s (Nat.le_refl _)
    have c2 : Lib.countB (replaceS s sLp ⟨#[32, 40, 32]⟩) sRp ≤ (replaceS s sLp ⟨#[32, 40, 32]⟩).size := Lib.countB_le sRp (by decide) _ _ (Nat.le_refl _)
    obtain ⟨hrd, hwl⟩ := words_ok h1
    have hro := readT_ok 40 ⟨wordsOf s, false⟩
    generalize hp : readT 40 ⟨wordsOf s, false⟩ = p at hro
    have hparse : parse s = if p.2.bad || decide (0 < p.2.ws.length) || !p.1.Good 0 then (Tm.zero, 1) else (p.1, 0) := by unfold parse; rw [if_neg h1, hp]
    have hterm := term_a 40 (Nat.le_refl _) ⟨wordsOf s, false⟩ hrd
    rw [hp] at hterm
    refine AW.seq ?_; refine AW.region (by kernel_rfl) ?_; refine RunL.mem (by exact rfl) (loc_allocD rfl rfl) ?_; refine RunL.val (by exact rfl) (loc_assignC rfl) ?_; refine RunL.nil ?_; refine AW.seq ?_; refine AW.seq ?_; refine AW.region (by kernel_rfl) ?_; refine RunL.val (by exact rfl) (loc_moveC rfl) ?_; refine RunL.val (by exact rfl) (loc_lenStr rfl) ?_; refine RunL.val (by exact rfl) (loc_binInt rfl rfl rfl) ?_; refine RunL.nil ?_; refine AW.condFa (by exact rfl) (by assumption) ?_; refine AW.skip ?_; refine AW.seq ?_; refine AW.region (by kernel_rfl) ?_; refine RunL.val (by exact rfl) (loc_moveC rfl) ?_
    refine RunL.val (by exact rfl) (loc_fun (replaceAll_a s sLp ⟨#[32, 40, 32]⟩ (by omega) (by decide) (by rw [e1]; omega)) rfl (by refine ⟨_, _, rfl, (by exact LeU.of_eq rfl trivial), (by exact trivial), ?_⟩; refine ⟨_, _, rfl, (by exact LeU.of_eq rfl trivial), (by exact trivial), ?_⟩; refine ⟨_, _, rfl, (by exact LeU.of_eq rfl trivial), (by exact trivial), ?_⟩; exact rfl)) ?_
    skip
    refine RunL.val (by exact rfl) (loc_fun (replaceAll_a (replaceS s sLp ⟨#[32, 40, 32]⟩) sRp ⟨#[32, 41, 32]⟩ (by omega) (by decide) (by rw [e2]; omega)) rfl (by refine ⟨_, _, rfl, (by exact LeU.of_eq rfl trivial), (by exact trivial), ?_⟩; refine ⟨_, _, rfl, (by exact LeU.of_eq rfl trivial), (by exact trivial), ?_⟩; refine ⟨_, _, rfl, (by exact LeU.of_eq rfl trivial), (by exact trivial), ?_⟩; exact rfl)) ?_
    refine RunL.val (by exact rfl) (loc_assignC rfl) ?_; refine RunL.nil ?_; refine AW.seq ?_; refine AW.region (by kernel_rfl) ?_; refine RunL.val (by exact rfl) (loc_moveC rfl) ?_
    refine RunL.val (by exact rfl) (loc_fun (fields_a 30 isGap (replaceS (replaceS s sLp ⟨#[32, 40, 32]⟩) sRp ⟨#[32, 41, 32]⟩) (by omega) (by kernel_rfl) gap_enter (fun x _ => gap_a x)) rfl (by refine ⟨_, _, rfl, (by exact LeU.of_eq rfl trivial), (by exact trivial), ?_⟩; refine ⟨_, _, rfl, (by exact LeU.of_eq rfl trivial), (by exact trivial), ?_⟩; exact rfl)) ?_
    refine RunL.val (by exact rfl) (loc_build (by exact rfl) (by exact Cut.all (by exact rfl)) (by exact rfl)) ?_
    refine RunL.mem (by exact rfl) (loc_box 1000 (by exact rfl) (by exact rfl) (by exact rfl) (by exact rfl)) ?_
    refine RunL.val (by exact rfl) (loc_assignC rfl) ?_; refine RunL.nil ?_
    refine AW.gh (gh_lit [(2, .one (.ptr 2 0)), (3, .one (.int .i64 0)), (4, .one (.ptr 1000 0))] [(1000, .obj (Rd.c ⟨wordsOf s, false⟩)), (2, .obj [.int .i64 0, .int .i64 0, .int .i64 0, .nilsl, .int .i64 0, .nilsl, .nilsl])] [] [] ⟨(WkU.of_eq rfl trivial), (WkU.of_eq rfl trivial), (WkU.of_eq rfl trivial), trivial⟩ ⟨(by (refine Or.inl ⟨_, rfl, ?_⟩; show All2 _ _ _; refine And.intro ?_ ?_; exact WkC.le (LeC.slF (LeRows.refl _)); refine And.intro ?_ ?_; exact WkC.le (LeC.refl _); exact trivial)), (by exact Or.inl ⟨_, rfl, WkBlk.refl _⟩), trivial⟩ trivial trivial rfl rfl ⟨⟨_, rfl⟩, trivial, ⟨_, rfl⟩, trivial⟩ ⟨(by refine And.intro ?_ ?_; exact trivial; refine And.intro ?_ ?_; exact trivial; exact trivial), (by refine And.intro ?_ ?_; exact trivial; refine And.intro ?_ ?_; exact trivial; refine And.intro ?_ ?_; exact trivial; refine And.intro ?_ ?_; exact trivial; refine And.intro ?_ ?_; exact trivial; refine And.intro ?_ ?_; exact trivial; refine And.intro ?_ ?_; exact trivial; exact trivial), trivial⟩) ?_
    refine AW.seq ?_; refine AW.region (by kernel_rfl) ?_; refine RunL.val (by exact rfl) (loc_moveC rfl) ?_
    refine RunL.many (by exact rfl) (loc_funE hterm rfl (by refine ⟨_, _, rfl, (by exact LeU.of_eq rfl trivial), (by exact Exists.intro _ rfl), ?_⟩; refine ⟨_, _, rfl, (by exact LeU.of_eq rfl trivial), (by exact trivial), ?_⟩; exact rfl) (by exact ⟨rfl, trivial⟩) (by exact rfl) (by simp [namesL]) (by exact ⟨⟨trivial, trivial, trivial⟩, trivial⟩)) ?_
    rw [hparse]
    cases hb : p.2.bad with
    | true =>
      rw [if_pos (by rfl)]
      refine RunL.mem (by exact rfl) (loc_allocD rfl rfl) ?_; refine RunL.eff (by exact rfl) (loc_storeW rfl rfl rfl rfl (by exact rfl) (by exact rfl)) ?_; refine RunL.nil ?_; refine AW.seq ?_; refine AW.seq ?_; refine AW.region (by kernel_rfl) ?_; refine RunL.val (by exact rfl) (loc_moveC rfl) ?_; refine RunL.val (by exact rfl) (loc_nilCheck rfl rfl) ?_; refine RunL.val (by exact rfl) (loc_fieldAddr rfl) ?_; refine RunL.val (by exact rfl) (loc_load rfl rfl rfl) ?_; refine RunL.val (by exact rfl) (loc_moveC rfl) ?_; refine RunL.skip (.inl ⟨_, _, rfl, rfl, guard_eq true (by assumption) rfl⟩) ?_; refine RunL.skip (.inl ⟨_, _, rfl, rfl, guard_eq true (by assumption) rfl⟩) ?_; refine RunL.skip (.inl ⟨_, _, rfl, rfl, guard_eq true (by assumption) rfl⟩) ?_; refine RunL.skip (.inl ⟨_, _, rfl, rfl, guard_eq true (by assumption) rfl⟩) ?_; refine RunL.skip (.inl ⟨_, _, rfl, rfl, guard_eq true (by assumption) rfl⟩) ?_; refine RunL.skip (.inl ⟨_, _, rfl, rfl, guard_eq true (by assumption) rfl⟩) ?_; refine RunL.val (by exact rfl) (loc_pickI true (by assumption) rfl rfl) ?_; refine RunL.val (by exact rfl) (loc_moveC rfl) ?_; refine RunL.skip (.inl ⟨_, _, rfl, rfl, rfl⟩) ?_; refine RunL.skip (.inl ⟨_, _, rfl, rfl, rfl⟩) ?_; refine RunL.skip (.inl ⟨_, _, rfl, rfl, rfl⟩) ?_; refine RunL.val (by exact rfl) (loc_pickT rfl rfl) ?_; refine RunL.nil ?_; refine AW.condT (by exact rfl) ?_; refine AW.seq ?_; refine AW.region (by kernel_rfl) ?_; refine RunL.val (by exact rfl) (loc_build (by exact rfl) (by exact Cut.all (by exact rfl)) (by exact rfl)) ?_; refine RunL.eff (by exact rfl) (loc_storeW rfl rfl rfl rfl (by exact rfl) (by exact rfl)) ?_; refine RunL.val (by exact rfl) (loc_assignC rfl) ?_; refine RunL.nil ?_; refine AW.ret ?_
      refine rq ?_
      exact ret_pe (by exact .inr rfl) (by exact rfl) (by exact rfl) tleaf (by exact rfl)
    | false =>
    cases hw : decide (0 < p.2.ws.length) with
    | true =>
      have hw' : decide ((((strRows p.2.ws).length : Nat) : Int) > 0) = true := by have := of_decide_eq_true hw; exact decide_eq_true (by simp only [strRows, List.length_map]; omega)
      rw [if_pos (by rfl)]
      refine RunL.mem (by exact rfl) (loc_allocD rfl rfl) ?_; refine RunL.eff (by exact rfl) (loc_storeW rfl rfl rfl rfl (by exact rfl) (by exact rfl)) ?_; refine RunL.nil ?_; refine AW.seq ?_; refine AW.seq ?_; refine AW.region (by kernel_rfl) ?_; refine RunL.val (by exact rfl) (loc_moveC rfl) ?_; refine RunL.val (by exact rfl) (loc_nilCheck rfl rfl) ?_; refine RunL.val (by exact rfl) (loc_fieldAddr rfl) ?_; refine RunL.val (by exact rfl) (loc_load rfl rfl rfl) ?_; refine RunL.val (by exact rfl) (loc_moveC rfl) ?_; refine RunL.val (by exact .inl ⟨_, _, rfl, rfl, guard_eq false (by assumption) rfl⟩) (loc_moveC rfl) ?_; refine RunL.val (by exact .inl ⟨_, _, rfl, rfl, guard_eq false (by assumption) rfl⟩) (loc_nilCheck rfl rfl) ?_; refine RunL.val (by exact .inl ⟨_, _, rfl, rfl, guard_eq false (by assumption) rfl⟩) (loc_fieldAddr rfl) ?_; refine RunL.val (by exact .inl ⟨_, _, rfl, rfl, guard_eq false (by assumption) rfl⟩) (loc_load rfl rfl rfl) ?_; refine RunL.val (by exact .inl ⟨_, _, rfl, rfl, guard_eq false (by assumption) rfl⟩) (loc_lenSl rfl) ?_; refine RunL.val (by exact .inl ⟨_, _, rfl, rfl, guard_eq false (by assumption) rfl⟩) (loc_binInt rfl rfl rfl) ?_; refine RunL.val (by exact rfl) (loc_pickI false (by assumption) rfl rfl) ?_; refine RunL.val (by exact rfl) (loc_moveC rfl) ?_; refine RunL.skip (.inl ⟨_, _, rfl, rfl, guard_eq true (by assumption) rfl⟩) ?_; refine RunL.skip (.inl ⟨_, _, rfl, rfl, guard_eq true (by assumption) rfl⟩) ?_; refine RunL.skip (.inl ⟨_, _, rfl, rfl, guard_eq true (by assumption) rfl⟩) ?_; refine RunL.val (by exact rfl) (loc_pickI true (by assumption) rfl rfl) ?_; refine RunL.nil ?_; refine AW.condT (by exact rfl) ?_; refine AW.seq ?_; refine AW.region (by kernel_rfl) ?_; refine RunL.val (by exact rfl) (loc_build (by exact rfl) (by exact Cut.all (by exact rfl)) (by exact rfl)) ?_; refine RunL.eff (by exact rfl) (loc_storeW rfl rfl rfl rfl (by exact rfl) (by exact rfl)) ?_; refine RunL.val (by exact rfl) (loc_assignC rfl) ?_; refine RunL.nil ?_; refine AW.ret ?_
      refine rq ?_
      exact ret_pe (by exact .inr rfl) (by exact rfl) (by exact rfl) tleaf (by exact rfl)
    | false =>
      have hw' : decide ((((strRows p.2.ws).length : Nat) : Int) > 0) = false := by have := of_decide_eq_false hw; exact decide_eq_false (by simp only [strRows, List.length_map]; omega)
      have hn : p.1.nodes ≤ 1048576 := by have := (hro.2 hb).1; simp only at this; omega
      refine RunL.mem (by exact rfl) (loc_allocD rfl rfl) ?_; refine RunL.eff (by exact rfl) (loc_storeW rfl rfl rfl rfl (by exact rfl) (by exact rfl)) ?_; refine RunL.nil ?_; refine AW.seq ?_; refine AW.seq ?_; refine AW.region (by kernel_rfl) ?_; refine RunL.val (by exact rfl) (loc_moveC rfl) ?_; refine RunL.val (by exact rfl) (loc_nilCheck rfl rfl) ?_; refine RunL.val (by exact rfl) (loc_fieldAddr rfl) ?_; refine RunL.val (by exact rfl) (loc_load rfl rfl rfl) ?_; refine RunL.val (by exact rfl) (loc_moveC rfl) ?_; refine RunL.val (by exact .inl ⟨_, _, rfl, rfl, guard_eq false (by assumption) rfl⟩) (loc_moveC rfl) ?_; refine RunL.val (by exact .inl ⟨_, _, rfl, rfl, guard_eq false (by assumption) rfl⟩) (loc_nilCheck rfl rfl) ?_; refine RunL.val (by exact .inl ⟨_, _, rfl, rfl, guard_eq false (by assumption) rfl⟩) (loc_fieldAddr rfl) ?_; refine RunL.val (by exact .inl ⟨_, _, rfl, rfl, guard_eq false (by assumption) rfl⟩) (loc_load rfl rfl rfl) ?_; refine RunL.val (by exact .inl ⟨_, _, rfl, rfl, guard_eq false (by assumption) rfl⟩) (loc_lenSl rfl) ?_; refine RunL.val (by exact .inl ⟨_, _, rfl, rfl, guard_eq false (by assumption) rfl⟩) (loc_binInt rfl rfl rfl) ?_; refine RunL.val (by exact rfl) (loc_pickI false (by assumption) rfl rfl) ?_; refine RunL.val (by exact rfl) (loc_moveC rfl) ?_; refine RunL.val (by exact .inl ⟨_, _, rfl, rfl, guard_eq false (by assumption) rfl⟩) (loc_loadA rfl rfl (by exact Cut.all (by exact rfl))) ?_
      refine RunL.val (by exact .inl ⟨_, _, rfl, rfl, guard_eq false (by assumption) rfl⟩) (loc_fun (tGood_a p.1 0 hro.1 hn) rfl (by refine ⟨_, _, rfl, (by exact LeU.of_eq rfl trivial), (by (refine And.intro ?_ ?_; exact trivial; refine And.intro ?_ ?_; exact trivial; refine And.intro ?_ ?_; exact trivial; refine And.intro ?_ ?_; exact trivial; refine And.intro ?_ ?_; exact trivial; refine And.intro ?_ ?_; exact trivial; refine And.intro ?_ ?_; exact trivial; exact trivial; done)), ?_⟩; refine ⟨_, _, rfl, (by exact LeU.of_eq rfl trivial), (by exact trivial), ?_⟩; exact rfl)) ?_
      cases hg : p.1.Good 0 with
      | true =>
        rw [if_neg (by decide)]
        refine RunL.val (by exact .inl ⟨_, _, rfl, rfl, guard_eq false (by assumption) rfl⟩) (loc_not rfl) ?_; refine RunL.val (by exact rfl) (loc_pickI false (by assumption) rfl rfl) ?_; refine RunL.nil ?_; refine AW.condF (by exact rfl) ?_; refine AW.skip ?_; refine AW.seq ?_; refine AW.region (by kernel_rfl) ?_; refine RunL.val (by exact rfl) (loc_loadA rfl rfl (by exact Cut.all (by exact rfl))) ?_; refine RunL.eff (by exact rfl) (loc_storeW rfl rfl rfl rfl (by exact rfl) (by exact rfl)) ?_; refine RunL.val (by exact rfl) (loc_assignC rfl) ?_; refine RunL.nil ?_; refine AW.ret ?_
        refine rq ?_
        exact ret_pe (by exact .inr rfl) (by exact rfl) (by exact rfl) (by exact wkRow_refl _) (by exact rfl)
      | false =>
        rw [if_pos (by rfl)]
        refine RunL.val (by exact .inl ⟨_, _, rfl, rfl, guard_eq false (by assumption) rfl⟩) (loc_not rfl) ?_; refine RunL.val (by exact rfl) (loc_pickI false (by assumption) rfl rfl) ?_; refine RunL.nil ?_; refine AW.condT (by exact rfl) ?_; refine AW.seq ?_; refine AW.region (by kernel_rfl) ?_; refine RunL.val (by exact rfl) (loc_build (by exact rfl) (by exact Cut.all (by exact rfl)) (by exact rfl)) ?_; refine RunL.eff (by exact rfl) (loc_storeW rfl rfl rfl rfl (by exact rfl) (by exact rfl)) ?_; refine RunL.val (by exact rfl) (loc_assignC rfl) ?_; refine RunL.nil ?_; refine AW.ret ?_
        refine rq ?_
        exact ret_pe (by exact .inr rfl) (by exact rfl) (by exact rfl) tleaf (by exact rfl)
end Go.Proofs.YtnflnbdlgdjfmabDoor
namespace Go.Proofs.YtnflnbdlgdjfmabDoor
open Go.RowKit
set_option linter.unusedVariables false
set_option linter.unusedSimpArgs false
set_option maxRecDepth 100000
attribute [local irreducible] RunL AW LocOp ACalls Gh
set_option maxHeartbeats 2000000 in
theorem printTerm_a (a : Tm) (hok : TmOk a) (hdp : TmDp a) (hsz : a.nodes ≤ 1048576) : ACalls Tryd.prog 14 [a.u] [] (printU a) [] := by
  refine acalls_of_body Tryd.func14 rfl (by kernel_rfl) (Nat.le_of_ble_eq_true rfl) trivial (by simp [namesL]) ?_
  refine AW.seq ?_; refine AW.region (by kernel_rfl) ?_; refine RunL.mem (by exact rfl) (loc_boxD rfl rfl rfl) ?_; refine RunL.val (by exact rfl) (loc_assignC rfl) ?_; refine RunL.val (by exact rfl) (loc_assignC rfl) ?_; refine RunL.nil ?_; refine AW.seq ?_; refine AW.seq ?_; refine AW.region (by kernel_rfl) ?_; refine RunL.val (by exact rfl) (loc_loadA rfl rfl (by exact Cut.all (by exact rfl))) ?_
  refine RunL.val (by exact rfl) (loc_fun (isTerm_a a 0 hok hdp hsz) rfl (by refine ⟨_, _, rfl, (by exact LeU.of_eq rfl trivial), (by (refine And.intro ?_ ?_; exact trivial; refine And.intro ?_ ?_; exact trivial; refine And.intro ?_ ?_; exact trivial; refine And.intro ?_ ?_; exact trivial; refine And.intro ?_ ?_; exact trivial; refine And.intro ?_ ?_; exact trivial; refine And.intro ?_ ?_; exact trivial; exact trivial; done)), ?_⟩; refine ⟨_, _, rfl, (by exact LeU.of_eq rfl trivial), (by exact trivial), ?_⟩; exact rfl)) ?_
  cases hg : a.Good 0 with
  | false =>
    refine RunL.val (by exact rfl) (loc_not rfl) ?_; refine RunL.nil ?_; refine AW.condT (by exact rfl) ?_; refine AW.seq ?_; refine AW.region (by kernel_rfl) ?_; refine RunL.val (by exact rfl) (loc_assignC rfl) ?_; refine RunL.val (by exact rfl) (loc_assignC rfl) ?_; refine RunL.nil ?_; refine AW.ret ?_
    rw [show printU a = .tup [.one (.str sNil), .one (.int .i64 1)] by unfold printU print; rw [hg]; rfl]
    exact ret_tt (.inr rfl) rfl rfl trivial trivial
  | true =>
    have hg' := hg
    unfold Tm.Good at hg'
    simp only [Bool.and_eq_true, decide_eq_true_eq] at hg'
    have htx := text_a a 0 0 hg'.2 (by omega) (by omega)
    cases hl : decide ((((mkB (tmTxt a)).size : Nat) : Int) > 1000) with
    | true =>
      have hl' : 1000 < (tmTxt a).length := by simp [mkB_size] at hl; omega
      refine RunL.val (by exact rfl) (loc_not rfl) ?_; refine RunL.nil ?_; refine AW.condF (by exact rfl) ?_; refine AW.skip ?_; refine AW.seq ?_; refine AW.region (by kernel_rfl) ?_; refine RunL.val (by exact rfl) (loc_loadA rfl rfl (by exact Cut.all (by exact rfl))) ?_
      refine RunL.val (by exact rfl) (loc_fun (htx) rfl (by refine ⟨_, _, rfl, (by exact LeU.of_eq rfl trivial), (by (refine And.intro ?_ ?_; exact trivial; refine And.intro ?_ ?_; exact trivial; refine And.intro ?_ ?_; exact trivial; refine And.intro ?_ ?_; exact trivial; refine And.intro ?_ ?_; exact trivial; refine And.intro ?_ ?_; exact trivial; refine And.intro ?_ ?_; exact trivial; exact trivial; done)), ?_⟩; exact rfl)) ?_
      refine RunL.val (by exact rfl) (loc_assignC rfl) ?_; refine RunL.nil ?_; refine AW.seq ?_; refine AW.seq ?_; refine AW.region (by kernel_rfl) ?_; refine RunL.val (by exact rfl) (loc_moveC rfl) ?_; refine RunL.val (by exact rfl) (loc_lenStr rfl) ?_; refine RunL.val (by exact rfl) (loc_binInt rfl rfl rfl) ?_; refine RunL.nil ?_; refine AW.condTa (by exact rfl) (by assumption) ?_; refine AW.seq ?_; refine AW.region (by kernel_rfl) ?_; refine RunL.val (by exact rfl) (loc_assignC rfl) ?_; refine RunL.val (by exact rfl) (loc_assignC rfl) ?_; refine RunL.nil ?_; refine AW.ret ?_
      rw [show printU a = .tup [.one (.str sNil), .one (.int .i64 4)] by unfold printU print; rw [hg, if_pos rfl, if_pos hl']]
      exact ret_tt (.inr rfl) rfl rfl trivial trivial
    | false =>
      have hl' : ¬ 1000 < (tmTxt a).length := by simp [mkB_size] at hl; omega
      refine RunL.val (by exact rfl) (loc_not rfl) ?_; refine RunL.nil ?_; refine AW.condF (by exact rfl) ?_; refine AW.skip ?_; refine AW.seq ?_; refine AW.region (by kernel_rfl) ?_; refine RunL.val (by exact rfl) (loc_loadA rfl rfl (by exact Cut.all (by exact rfl))) ?_
      refine RunL.val (by exact rfl) (loc_fun (htx) rfl (by refine ⟨_, _, rfl, (by exact LeU.of_eq rfl trivial), (by (refine And.intro ?_ ?_; exact trivial; refine And.intro ?_ ?_; exact trivial; refine And.intro ?_ ?_; exact trivial; refine And.intro ?_ ?_; exact trivial; refine And.intro ?_ ?_; exact trivial; refine And.intro ?_ ?_; exact trivial; refine And.intro ?_ ?_; exact trivial; exact trivial; done)), ?_⟩; exact rfl)) ?_
      refine RunL.val (by exact rfl) (loc_assignC rfl) ?_; refine RunL.nil ?_; refine AW.seq ?_; refine AW.seq ?_; refine AW.region (by kernel_rfl) ?_; refine RunL.val (by exact rfl) (loc_moveC rfl) ?_; refine RunL.val (by exact rfl) (loc_lenStr rfl) ?_; refine RunL.val (by exact rfl) (loc_binInt rfl rfl rfl) ?_; refine RunL.nil ?_; refine AW.condFa (by exact rfl) (by assumption) ?_; refine AW.skip ?_; refine AW.seq ?_; refine AW.region (by kernel_rfl) ?_; refine RunL.val (by exact rfl) (loc_moveC rfl) ?_; refine RunL.val (by exact rfl) (loc_assignC rfl) ?_; refine RunL.val (by exact rfl) (loc_assignC rfl) ?_; refine RunL.nil ?_; refine AW.ret ?_
      rw [show printU a = .tup [.one (.str (mkB (tmTxt a))), .one (.int .i64 0)] by unfold printU print; rw [hg, if_pos rfl, if_neg hl']]
      exact ret_tt (.inr rfl) rfl rfl trivial trivial
def ltermsS : ByteArray := ⟨#[40, 102, 117, 110, 32, 40, 116, 111, 32, 110, 117, 109, 32, 97, 110, 121, 41, 32, 40, 99, 97, 108, 108, 32, 35, 48, 32, 55, 41, 41]⟩
def ltermsT : Tm := .mk 7 0 (.to .num .any) .any [.mk 8 0 .any .any [.mk 1 0 .any .any [], .mk 2 7 .any .any []]]
theorem lterms_parse : parse ltermsS = (ltermsT, 0) := by kernel_rfl
theorem lterms_print : print ltermsT = (ltermsS, 0) := by kernel_rfl
theorem ltermsT_ok : TmOk ltermsT := by have := (parse_ok ltermsS).1; rw [lterms_parse] at this; exact this
theorem sEq_rfl (a : ByteArray) : sEq a a = true := by simp [sEq]
theorem sameT_rfl3 : ∀ a : Tm, a.same a = true := fun a => by
  induction a using Tm.ind' with
  | h a ih =>
  rw [sameT_eta, same_refl, same_refl]
  have : ∀ l : List Tm, (∀ x ∈ l, x.same x = true) → sameTL l l = true := by
    intro l
    induction l with
    | nil => intro _; rfl
    | cons b l ihl => intro h; simp only [sameTL]; rw [h b (List.mem_cons_self ..), ihl fun x hx => h x (List.mem_cons_of_mem _ hx)]; rfl
  rw [this a.l ih]
  simp
set_option maxHeartbeats 2000000 in
theorem lterms_a : ACalls Tryd.prog 20 [] [] (.one (.bool true)) [] := by
  have h1 := parse_a ltermsS
  unfold parseU at h1
  rw [lterms_parse] at h1
  have h2 := print_a ltermsT ltermsT_ok (by decide)
  unfold printU at h2
  rw [lterms_print] at h2
  have h3 := nodes_a ltermsT (by decide)
  refine acalls_of_body Tryd.func20 rfl (by kernel_rfl) (Nat.le_of_ble_eq_true rfl) trivial (by simp [namesL]) ?_
  refine AW.seq ?_; refine AW.region (by kernel_rfl) ?_; refine RunL.val (by exact rfl) (loc_assignC rfl) ?_; refine RunL.nil ?_; refine AW.seq ?_; refine AW.region (by kernel_rfl) ?_
  refine RunL.val (by exact rfl) (loc_fun (h1) rfl (by refine ⟨_, _, rfl, (by exact LeU.of_eq rfl trivial), (by exact trivial), ?_⟩; exact rfl)) ?_
  refine RunL.val (by exact rfl) (loc_moveT rfl) ?_; refine RunL.val (by exact rfl) (loc_extractA rfl rfl) ?_; refine RunL.val (by exact rfl) (loc_extractC rfl rfl) ?_; refine RunL.mem (by exact rfl) (loc_allocD rfl rfl) ?_; refine RunL.eff (by exact rfl) (loc_storeW rfl rfl rfl rfl (by exact rfl) (by exact rfl)) ?_; refine RunL.val (by exact rfl) (loc_assignC rfl) ?_; refine RunL.nil ?_; refine AW.seq ?_; refine AW.region (by kernel_rfl) ?_; refine RunL.val (by exact rfl) (loc_loadA rfl rfl (by exact Cut.all (by exact rfl))) ?_
  refine RunL.val (by exact rfl) (loc_fun (h2) rfl (by refine ⟨_, _, rfl, (by exact LeU.of_eq rfl trivial), (by (refine And.intro ?_ ?_; exact trivial; refine And.intro ?_ ?_; exact trivial; refine And.intro ?_ ?_; exact trivial; refine And.intro ?_ ?_; exact trivial; refine And.intro ?_ ?_; exact trivial; refine And.intro ?_ ?_; exact trivial; refine And.intro ?_ ?_; exact trivial; exact trivial; done)), ?_⟩; exact rfl)) ?_
  refine RunL.val (by exact rfl) (loc_moveT rfl) ?_; refine RunL.val (by exact rfl) (loc_extractC rfl rfl) ?_; refine RunL.val (by exact rfl) (loc_extractC rfl rfl) ?_; refine RunL.val (by exact rfl) (loc_assignC rfl) ?_; refine RunL.val (by exact rfl) (loc_assignC rfl) ?_; refine RunL.nil ?_; refine AW.seq ?_; refine AW.region (by kernel_rfl) ?_; refine RunL.val (by exact rfl) (loc_moveC rfl) ?_; refine RunL.val (by exact rfl) (loc_binInt rfl rfl rfl) ?_; refine RunL.val (by exact rfl) (loc_moveC rfl) ?_; refine RunL.val (by exact .inl ⟨_, _, rfl, rfl, rfl⟩) (loc_moveC rfl) ?_; refine RunL.val (by exact .inl ⟨_, _, rfl, rfl, rfl⟩) (loc_binInt rfl rfl rfl) ?_; refine RunL.val (by exact rfl) (loc_pickT rfl rfl) ?_; refine RunL.val (by exact rfl) (loc_moveC rfl) ?_; refine RunL.val (by exact .inl ⟨_, _, rfl, rfl, rfl⟩) (loc_fieldAddr rfl) ?_; refine RunL.val (by exact .inl ⟨_, _, rfl, rfl, rfl⟩) (loc_load rfl rfl rfl) ?_; refine RunL.val (by exact .inl ⟨_, _, rfl, rfl, rfl⟩) (loc_binInt rfl rfl rfl) ?_; refine RunL.val (by exact rfl) (loc_pickT rfl rfl) ?_; refine RunL.val (by exact rfl) (loc_moveC rfl) ?_; refine RunL.val (by exact .inl ⟨_, _, rfl, rfl, rfl⟩) (loc_loadA rfl rfl (by exact Cut.all (by exact rfl))) ?_
  refine RunL.val (by exact .inl ⟨_, _, rfl, rfl, rfl⟩) (loc_fun (h3) rfl (by refine ⟨_, _, rfl, (by exact LeU.of_eq rfl trivial), (by (refine And.intro ?_ ?_; exact trivial; refine And.intro ?_ ?_; exact trivial; refine And.intro ?_ ?_; exact trivial; refine And.intro ?_ ?_; exact trivial; refine And.intro ?_ ?_; exact trivial; refine And.intro ?_ ?_; exact trivial; refine And.intro ?_ ?_; exact trivial; exact trivial; done)), ?_⟩; exact rfl)) ?_
  refine RunL.val (by exact .inl ⟨_, _, rfl, rfl, rfl⟩) (loc_binInt rfl rfl rfl) ?_; refine RunL.val (by exact rfl) (loc_pickT rfl rfl) ?_; refine RunL.val (by exact rfl) (loc_moveC rfl) ?_; refine RunL.val (by exact .inl ⟨_, _, rfl, rfl, rfl⟩) (loc_moveC rfl) ?_
  refine RunL.val (by exact .inl ⟨_, _, rfl, rfl, rfl⟩) (loc_eqStr (a := ltermsS) (b := ltermsS) (by exact rfl) (by exact rfl)) ?_
  rw [sEq_rfl]
  refine RunL.val (by exact rfl) (loc_pickT rfl rfl) ?_; refine RunL.val (by exact rfl) (loc_assignC rfl) ?_; refine RunL.nil ?_; refine AW.ret ?_
  exact ret_same (.inr rfl) rfl trivial
set_option maxHeartbeats 4000000 in
theorem termTells_a (a u : Tm) (ar : Int) (hok : TmOk a) (hdp : TmDp a) (hsz : a.nodes ≤ 1048576) : ACalls Tryd.prog 4 [a.u, u.u, .one (.int .i64 ar)] [] (.one (.bool true)) [] := by
  have hp := print_a a hok hsz
  have hp2 := printTerm_a a hok hdp hsz
  unfold printU at hp hp2
  generalize print a = q at hp hp2
  obtain ⟨y, e⟩ := q
  dsimp only at hp hp2
  have hsa := rsameTm_a a a
  rw [sameT_rfl3] at hsa
  have e1 : (a.Good ar == a.Good ar) = true := by simp
  have e2 : (((a.nodes : Nat) : Int) == ((a.nodes : Nat) : Int)) = true := by simp
  have e3 : (a.same u == a.same u) = true := by simp
  have e4 : sEq y y = true := sEq_rfl y
  have e5 : (e == e) = true := by simp
  refine acalls_of_body Tryd.func4 rfl (by kernel_rfl) (Nat.le_of_ble_eq_true rfl) trivial (by simp [namesL]) ?_
  refine AW.seq ?_; refine AW.region (by kernel_rfl) ?_; refine RunL.mem (by exact rfl) (loc_boxD rfl rfl rfl) ?_; refine RunL.mem (by exact rfl) (loc_boxD rfl rfl rfl) ?_; refine RunL.val (by exact rfl) (loc_assignC rfl) ?_; refine RunL.nil ?_; refine AW.seq ?_; refine AW.region (by kernel_rfl) ?_; refine RunL.val (by exact rfl) (loc_loadA rfl rfl (by exact Cut.all (by exact rfl))) ?_
  refine RunL.val (by exact rfl) (loc_fun (copyTm_a a hok hsz) rfl (by refine ⟨_, _, rfl, (by exact LeU.of_eq rfl trivial), (by (refine And.intro ?_ ?_; exact trivial; refine And.intro ?_ ?_; exact trivial; refine And.intro ?_ ?_; exact trivial; refine And.intro ?_ ?_; exact trivial; refine And.intro ?_ ?_; exact trivial; refine And.intro ?_ ?_; exact trivial; refine And.intro ?_ ?_; exact trivial; exact trivial; done)), ?_⟩; exact rfl)) ?_
  refine RunL.mem (by exact rfl) (loc_allocD rfl rfl) ?_; refine RunL.eff (by exact rfl) (loc_storeW rfl rfl rfl rfl (by exact rfl) (by exact rfl)) ?_; refine RunL.nil ?_; refine AW.seq ?_; refine AW.region (by kernel_rfl) ?_; refine RunL.val (by exact rfl) (loc_loadA rfl rfl (by exact Cut.all (by exact rfl))) ?_
  refine RunL.val (by exact rfl) (loc_fun (hp) rfl (by refine ⟨_, _, rfl, (by exact LeU.of_eq rfl trivial), (by (refine And.intro ?_ ?_; exact trivial; refine And.intro ?_ ?_; exact trivial; refine And.intro ?_ ?_; exact trivial; refine And.intro ?_ ?_; exact trivial; refine And.intro ?_ ?_; exact trivial; refine And.intro ?_ ?_; exact trivial; refine And.intro ?_ ?_; exact trivial; exact trivial; done)), ?_⟩; exact rfl)) ?_
  refine RunL.val (by exact rfl) (loc_moveT rfl) ?_; refine RunL.val (by exact rfl) (loc_extractC rfl rfl) ?_; refine RunL.val (by exact rfl) (loc_extractC rfl rfl) ?_; refine RunL.val (by exact rfl) (loc_assignC rfl) ?_; refine RunL.val (by exact rfl) (loc_assignC rfl) ?_; refine RunL.nil ?_; refine AW.seq ?_; refine AW.region (by kernel_rfl) ?_; refine RunL.val (by exact rfl) (loc_loadA rfl rfl (by exact Cut.all (by exact rfl))) ?_
  refine RunL.val (by exact rfl) (loc_fun (hp2) rfl (by refine ⟨_, _, rfl, (by exact LeU.of_eq rfl trivial), (by (refine And.intro ?_ ?_; exact trivial; refine And.intro ?_ ?_; exact trivial; refine And.intro ?_ ?_; exact trivial; refine And.intro ?_ ?_; exact trivial; refine And.intro ?_ ?_; exact trivial; refine And.intro ?_ ?_; exact trivial; refine And.intro ?_ ?_; exact trivial; exact trivial; done)), ?_⟩; exact rfl)) ?_
  refine RunL.val (by exact rfl) (loc_moveT rfl) ?_; refine RunL.val (by exact rfl) (loc_extractC rfl rfl) ?_; refine RunL.val (by exact rfl) (loc_extractC rfl rfl) ?_; refine RunL.val (by exact rfl) (loc_assignC rfl) ?_; refine RunL.val (by exact rfl) (loc_assignC rfl) ?_; refine RunL.nil ?_; refine AW.seq ?_; refine AW.regionD (by kernel_rfl) (by kernel_rfl) (by kernel_rfl) ?_; refine RunL.val (by exact rfl) (loc_loadA rfl rfl (by exact Cut.all (by exact rfl))) ?_; refine RunL.val (by exact rfl) (loc_moveC rfl) ?_
  refine RunL.val (by exact rfl) (loc_fun (tGood_a a ar hok hsz) rfl (by refine ⟨_, _, rfl, (by exact LeU.of_eq rfl trivial), (by (refine And.intro ?_ ?_; exact trivial; refine And.intro ?_ ?_; exact trivial; refine And.intro ?_ ?_; exact trivial; refine And.intro ?_ ?_; exact trivial; refine And.intro ?_ ?_; exact trivial; refine And.intro ?_ ?_; exact trivial; refine And.intro ?_ ?_; exact trivial; exact trivial; done)), ?_⟩; refine ⟨_, _, rfl, (by exact LeU.of_eq rfl trivial), (by exact trivial), ?_⟩; exact rfl)) ?_
  refine RunL.val (by exact rfl) (loc_loadA rfl rfl (by exact Cut.all (by exact rfl))) ?_; refine RunL.val (by exact rfl) (loc_moveC rfl) ?_
  refine RunL.val (by exact rfl) (loc_fun (isTerm_a a ar hok hdp hsz) rfl (by refine ⟨_, _, rfl, (by exact LeU.of_eq rfl trivial), (by (refine And.intro ?_ ?_; exact trivial; refine And.intro ?_ ?_; exact trivial; refine And.intro ?_ ?_; exact trivial; refine And.intro ?_ ?_; exact trivial; refine And.intro ?_ ?_; exact trivial; refine And.intro ?_ ?_; exact trivial; refine And.intro ?_ ?_; exact trivial; exact trivial; done)), ?_⟩; refine ⟨_, _, rfl, (by exact LeU.of_eq rfl trivial), (by exact trivial), ?_⟩; exact rfl)) ?_
  refine RunL.val (by exact rfl) (loc_bEq (by exact rfl) (by exact rfl)) ?_
  refine RunL.val (by exact rfl) (loc_moveC rfl) ?_; refine RunL.val (by exact .inl ⟨_, _, rfl, rfl, guard_eq true (by assumption) rfl⟩) (loc_loadA rfl rfl (by exact Cut.all (by exact rfl))) ?_
  refine RunL.val (by exact .inl ⟨_, _, rfl, rfl, guard_eq true (by assumption) rfl⟩) (loc_fun (nodes_a a hsz) rfl (by refine ⟨_, _, rfl, (by exact LeU.of_eq rfl trivial), (by (refine And.intro ?_ ?_; exact trivial; refine And.intro ?_ ?_; exact trivial; refine And.intro ?_ ?_; exact trivial; refine And.intro ?_ ?_; exact trivial; refine And.intro ?_ ?_; exact trivial; refine And.intro ?_ ?_; exact trivial; refine And.intro ?_ ?_; exact trivial; exact trivial; done)), ?_⟩; exact rfl)) ?_
  refine RunL.val (by exact .inl ⟨_, _, rfl, rfl, guard_eq true (by assumption) rfl⟩) (loc_loadA rfl rfl (by exact Cut.all (by exact rfl))) ?_
  refine RunL.val (by exact .inl ⟨_, _, rfl, rfl, guard_eq true (by assumption) rfl⟩) (loc_fun (nodesOf_a a hsz) rfl (by refine ⟨_, _, rfl, (by exact LeU.of_eq rfl trivial), (by (refine And.intro ?_ ?_; exact trivial; refine And.intro ?_ ?_; exact trivial; refine And.intro ?_ ?_; exact trivial; refine And.intro ?_ ?_; exact trivial; refine And.intro ?_ ?_; exact trivial; refine And.intro ?_ ?_; exact trivial; refine And.intro ?_ ?_; exact trivial; exact trivial; done)), ?_⟩; exact rfl)) ?_
  refine RunL.val (by exact .inl ⟨_, _, rfl, rfl, guard_eq true (by assumption) rfl⟩) (loc_binInt rfl rfl rfl) ?_; refine RunL.val (by exact rfl) (loc_pickI true (by assumption) rfl rfl) ?_; refine RunL.val (by exact rfl) (loc_moveC rfl) ?_; refine RunL.val (by exact .inl ⟨_, _, rfl, rfl, guard_eq true (by assumption) rfl⟩) (loc_loadA rfl rfl (by exact Cut.all (by exact rfl))) ?_; refine RunL.val (by exact .inl ⟨_, _, rfl, rfl, guard_eq true (by assumption) rfl⟩) (loc_loadA rfl rfl (by exact Cut.all (by exact rfl))) ?_
  refine RunL.val (by exact .inl ⟨_, _, rfl, rfl, guard_eq true (by assumption) rfl⟩) (loc_fun (tsame_a a u) rfl (by refine ⟨_, _, rfl, (by exact LeU.of_eq rfl trivial), (by (refine And.intro ?_ ?_; exact trivial; refine And.intro ?_ ?_; exact trivial; refine And.intro ?_ ?_; exact trivial; refine And.intro ?_ ?_; exact trivial; refine And.intro ?_ ?_; exact trivial; refine And.intro ?_ ?_; exact trivial; refine And.intro ?_ ?_; exact trivial; exact trivial; done)), ?_⟩; refine ⟨_, _, rfl, (by exact LeU.of_eq rfl trivial), (by (refine And.intro ?_ ?_; exact trivial; refine And.intro ?_ ?_; exact trivial; refine And.intro ?_ ?_; exact trivial; refine And.intro ?_ ?_; exact trivial; refine And.intro ?_ ?_; exact trivial; refine And.intro ?_ ?_; exact trivial; refine And.intro ?_ ?_; exact trivial; exact trivial; done)), ?_⟩; exact rfl)) ?_
  refine RunL.val (by exact .inl ⟨_, _, rfl, rfl, guard_eq true (by assumption) rfl⟩) (loc_loadA rfl rfl (by exact Cut.all (by exact rfl))) ?_; refine RunL.val (by exact .inl ⟨_, _, rfl, rfl, guard_eq true (by assumption) rfl⟩) (loc_loadA rfl rfl (by exact Cut.all (by exact rfl))) ?_
  refine RunL.val (by exact .inl ⟨_, _, rfl, rfl, guard_eq true (by assumption) rfl⟩) (loc_fun (rsameTm_a a u) rfl (by refine ⟨_, _, rfl, (by exact LeU.of_eq rfl trivial), (by (refine And.intro ?_ ?_; exact trivial; refine And.intro ?_ ?_; exact trivial; refine And.intro ?_ ?_; exact trivial; refine And.intro ?_ ?_; exact trivial; refine And.intro ?_ ?_; exact trivial; refine And.intro ?_ ?_; exact trivial; refine And.intro ?_ ?_; exact trivial; exact trivial; done)), ?_⟩; refine ⟨_, _, rfl, (by exact LeU.of_eq rfl trivial), (by (refine And.intro ?_ ?_; exact trivial; refine And.intro ?_ ?_; exact trivial; refine And.intro ?_ ?_; exact trivial; refine And.intro ?_ ?_; exact trivial; refine And.intro ?_ ?_; exact trivial; refine And.intro ?_ ?_; exact trivial; refine And.intro ?_ ?_; exact trivial; exact trivial; done)), ?_⟩; exact rfl)) ?_
  refine RunL.val (by exact .inl ⟨_, _, rfl, rfl, guard_eq true (by assumption) rfl⟩) (loc_bEq (by exact rfl) (by exact rfl)) ?_
  refine RunL.val (by exact rfl) (loc_pickI true (by assumption) rfl rfl) ?_; refine RunL.val (by exact rfl) (loc_moveC rfl) ?_; refine RunL.val (by exact .inl ⟨_, _, rfl, rfl, guard_eq true (by assumption) rfl⟩) (loc_moveC rfl) ?_; refine RunL.val (by exact .inl ⟨_, _, rfl, rfl, guard_eq true (by assumption) rfl⟩) (loc_moveC rfl) ?_
  refine RunL.val (by exact .inl ⟨_, _, rfl, rfl, guard_eq true (by assumption) rfl⟩) (loc_eqStr (a := y) (b := y) (by exact rfl) (by exact rfl)) ?_
  refine RunL.val (by exact rfl) (loc_pickI true (by assumption) rfl rfl) ?_; refine RunL.val (by exact rfl) (loc_moveC rfl) ?_; refine RunL.val (by exact .inl ⟨_, _, rfl, rfl, guard_eq true (by assumption) rfl⟩) (loc_moveC rfl) ?_; refine RunL.val (by exact .inl ⟨_, _, rfl, rfl, guard_eq true (by assumption) rfl⟩) (loc_moveC rfl) ?_; refine RunL.val (by exact .inl ⟨_, _, rfl, rfl, guard_eq true (by assumption) rfl⟩) (loc_binInt rfl rfl rfl) ?_; refine RunL.val (by exact rfl) (loc_pickI true (by assumption) rfl rfl) ?_; refine RunL.val (by exact rfl) (loc_moveC rfl) ?_; refine RunL.val (by exact .inl ⟨_, _, rfl, rfl, guard_eq true (by assumption) rfl⟩) (loc_loadA rfl rfl (by exact Cut.all (by exact rfl))) ?_; refine RunL.val (by exact .inl ⟨_, _, rfl, rfl, guard_eq true (by assumption) rfl⟩) (loc_loadA rfl rfl (by exact Cut.all (by exact rfl))) ?_
  refine RunL.val (by exact .inl ⟨_, _, rfl, rfl, guard_eq true (by assumption) rfl⟩) (loc_fun (hsa) rfl (by refine ⟨_, _, rfl, (by exact LeU.of_eq rfl trivial), (by (refine And.intro ?_ ?_; exact trivial; refine And.intro ?_ ?_; exact trivial; refine And.intro ?_ ?_; exact trivial; refine And.intro ?_ ?_; exact trivial; refine And.intro ?_ ?_; exact trivial; refine And.intro ?_ ?_; exact trivial; refine And.intro ?_ ?_; exact trivial; exact trivial; done)), ?_⟩; refine ⟨_, _, rfl, (by exact LeU.of_eq rfl trivial), (by (refine And.intro ?_ ?_; exact trivial; refine And.intro ?_ ?_; exact trivial; refine And.intro ?_ ?_; exact trivial; refine And.intro ?_ ?_; exact trivial; refine And.intro ?_ ?_; exact trivial; refine And.intro ?_ ?_; exact trivial; refine And.intro ?_ ?_; exact trivial; exact trivial; done)), ?_⟩; exact rfl)) ?_
  refine RunL.val (by exact rfl) (loc_pickI true (by assumption) rfl rfl) ?_; refine RunL.val (by exact rfl) (loc_moveC rfl) ?_
  refine RunL.val (by exact .inl ⟨_, _, rfl, rfl, rfl⟩) (loc_fun (lterms_a) rfl (by exact rfl)) ?_
  refine RunL.val (by exact rfl) (loc_pickT rfl rfl) ?_; refine RunL.val (by exact rfl) (loc_assignC rfl) ?_; refine RunL.nilD (by kernel_rfl) ?_; refine AW.ret ?_
  exact ret_same (.inr rfl) rfl trivial
end Go.Proofs.YtnflnbdlgdjfmabDoor
namespace Go.Proofs.YtnflnbdlgdjfmabDoor
open Go.ChangeShapes Go.WideShapes Go.ChangeAt Go.RowKit Go.Joins Go.Deep
set_option linter.unusedVariables false
set_option linter.unusedSimpArgs false
/-- What lies in memory when the call begins. -/
def Old (w : World) : Nat → Prop := fun k => k < w.heap.size
theorem bulk_mem {H : Type} {d : DataW H} {l : List (DataW H)} (h : d ∈ l) : Rows.uptoBulk d ≤ Rows.uptoBulkAll l := by
  induction l with
  | nil => cases h
  | cons x r ih =>
    simp only [Rows.uptoBulkAll]
    cases List.mem_cons.1 h with
    | inl e => subst e; omega
    | inr e => have := ih e; omega
theorem bulk_pos {H : Type} (d : DataW H) : 1 ≤ Rows.uptoBulk d := by
  cases d with
  | lit l => cases l <;> simp [Rows.uptoBulk]
  | _ => simp [Rows.uptoBulk]
theorem bulk_lenAll {H : Type} (l : List (DataW H)) : l.length ≤ Rows.uptoBulkAll l := by
  induction l with
  | nil => simp [Rows.uptoBulkAll]
  | cons x r ih => have := bulk_pos x; simp only [List.length_cons, Rows.uptoBulkAll]; omega
section
variable {H : Type} {enc : TypeId × Value → H} {w : World} {sp : Nat → Bool} {held : Bool} {F : Nat → Prop}
/-- A slice whose elements are read. -/
theorem open_rows {α : Type} [Inhabited α] {P : Program} {t e k fuel : Nat} {cs : List Value} {x : DataW H × List MemPlace} (c : α → List C) (sz : α → Nat) (G : α → Prop) (ht : P.underlying t = some (.slice e)) (hk : P.cellsOf e = k) (hk0 : 0 < k) (hc : ∀ y, (c y).length = k)
    (h : DataW.trod enc P w 0 sp held fuel t cs = some x) (hb : Rows.uptoBulk x.1 ≤ 1048576)
    (elem : ∀ (n : Nat) (cs' : List Value) (d' : DataW H) (ps' : List MemPlace), Rows.uptoBulk d' < Rows.uptoBulk x.1 → DataW.trod enc P w 0 sp held n e cs' = some (d', ps') → ∃ y : α, All2 (relK (Old w) w) (c y) cs' ∧ G y ∧ sz y ≤ Rows.uptoBulk d') :
    ∃ (l : List α) (v : Value), cs = [v] ∧ relK (Old w) w (slOf k (l.map c)) v ∧ (∀ y ∈ l, G y) ∧ (l.map sz).sum + 1 ≤ Rows.uptoBulk x.1 ∧ l.length < Rows.uptoBulk x.1 := by
  rcases open_slice ht h with ⟨rfl, rfl⟩ | ⟨a, len, cap, m, n, D, Pl, rfl, _, hle, hcap, hm, rfl, hel⟩
  · exact ⟨[], _, rfl, ⟨none, 0, rfl, Nat.zero_le _, Nat.zero_le _, fun i hi => absurd hi (Nat.not_lt_zero _)⟩, fun y hy => (by cases hy), by simp [Rows.uptoBulk], by simp [Rows.uptoBulk]⟩
  · have hlm : len ≤ m := by rw [hm]; split <;> omega
    have hbk : Rows.uptoBulk (DataW.slice ((List.range len).map D) ((List.range (m - len)).map fun j => D (len + j))) = Rows.uptoBulkAll ((List.range len).map D) + Rows.uptoBulkAll ((List.range (m - len)).map fun j => D (len + j)) + 1 := by simp [Rows.uptoBulk]
    simp only at hb elem ⊢
    rw [hbk] at hb
    have part : ∀ i, ∃ y : α, i < len → (∀ j, j < k → ∃ u, w.cell? (a.add (i * k + j)) = some u ∧ relK (Old w) w (rowF (c y) j) u) ∧ G y ∧ sz y ≤ Rows.uptoBulk (D i) := by
      intro i
      by_cases hi : i < len
      · obtain ⟨cs', hcs, hd⟩ := hel i (by omega)
        rw [hk] at hcs
        have hDi : Rows.uptoBulk (D i) ≤ Rows.uptoBulkAll ((List.range len).map D) := bulk_mem (List.mem_map.2 ⟨i, List.mem_range.2 hi, rfl⟩)
        obtain ⟨y, h1, h2, h3⟩ := elem n cs' (D i) (Pl i) (by rw [hbk]; omega) hd
        obtain ⟨_, hlen, hat⟩ := World.cells?_some hcs
        refine ⟨y, fun _ => ⟨fun j hj => ?_, h2, h3⟩⟩
        have hjc : j < (c y).length := by rw [hc]; exact hj
        obtain ⟨u, hu, hr⟩ := h1.get j _ (List.getElem?_eq_getElem hjc)
        refine ⟨u, ?_, ?_⟩
        · have := hat j hj
          rw [hu] at this
          rw [← this, Go.Deep.add_add]
        · rw [show rowF (c y) j = (c y)[j] by simp [rowF, hjc]]; exact hr
      · exact ⟨default, fun h => absurd h hi⟩
    obtain ⟨T, hT⟩ := Classical.axiomOfChoice part
    have hlen2 : len ≤ 1048576 := by
      have := bulk_lenAll ((List.range len).map D)
      simp at this; omega
    refine ⟨(List.range len).map T, _, rfl, ⟨some a, cap, by simp, by simpa using hle, by simp [maxLen]; omega, fun i hi => ?_⟩, fun y hy => ?_, ?_, ?_⟩
    · have hi : i < len := by simpa using hi
      obtain ⟨h1, _, _⟩ := hT i hi
      obtain ⟨u0, hu0, _⟩ := h1 0 hk0
      have hsp : a.spot = none := by
        obtain ⟨h2, _, _⟩ := hT 0 (by omega)
        obtain ⟨u1, hu1, _⟩ := h2 0 hk0
        rw [show (0 * k + 0) = 0 by omega, show a.add 0 = a from rfl] at hu1
        unfold World.cell? at hu1
        split at hu1
        · split at hu1
          · cases hu1
          · rename_i hne; simpa using hne
        · cases hu1
      obtain ⟨ab, ao, asp⟩ := a
      simp only at hsp
      subst hsp
      have hadd : ∀ n, (⟨ab, ao, none⟩ : Addr).add n = ⟨ab, ao + n, none⟩ := fun n => by
        unfold Addr.add
        split
        · rename_i h0; rw [h0]; rfl
        · rfl
      refine ⟨ab, ao, rfl, ?_, fun j hj => ?_⟩
      · rw [hadd] at hu0
        exact World.block_lt_of_cell? _ _ hu0
      · obtain ⟨u, hu, hr⟩ := h1 j hj
        rw [hadd] at hu
        refine ⟨u, by rw [Nat.add_assoc]; exact hu, ?_⟩
        simpa [hi] using hr
    · obtain ⟨i, hi, rfl⟩ := List.mem_map.1 hy
      exact (hT i (List.mem_range.1 hi)).2.1
    · rw [hbk]
      have hsum : ∀ (l : List Nat), (∀ i ∈ l, i < len) → ((l.map T).map sz).sum ≤ Rows.uptoBulkAll (l.map D) := by
        intro l
        induction l with
        | nil => intro _; simp
        | cons i l ihl =>
          intro hl
          have h1 := (hT i (hl i (List.mem_cons_self ..))).2.2
          have h2 := ihl fun j hj => hl j (List.mem_cons_of_mem _ hj)
          simp only [List.map_cons, List.sum_cons, Rows.uptoBulkAll]
          omega
      have := hsum (List.range len) fun i hi => List.mem_range.1 hi
      omega
    · have := bulk_lenAll ((List.range len).map D)
      simp at this ⊢
      rw [hbk]; omega
end
theorem len5 {α : Type} {l : List α} (h : l.length = 5) : ∃ a b c d e, l = [a, b, c, d, e] := by
  match l, h with
  | [a, b, c, d, e], _ => exact ⟨a, b, c, d, e, rfl⟩
theorem len7 {α : Type} {l : List α} (h : l.length = 7) : ∃ a b c d e f g, l = [a, b, c, d, e, f, g] := by
  match l, h with
  | [a, b, c, d, e, f, g], _ => exact ⟨a, b, c, d, e, f, g, rfl⟩
instance : Inhabited Ty := ⟨.any⟩
mutual
def Ty.size : Ty → Nat
  | .mk _ l => 1 + sizeL l
def sizeL : List Ty → Nat
  | [] => 0
  | t :: l => Ty.size t + sizeL l
end
theorem sizeL_sum : ∀ l : List Ty, sizeL l = (l.map Ty.size).sum
  | [] => rfl
  | a :: l => by simp [sizeL, sizeL_sum l]
theorem struct_Type : ∃ f0 f1 : Field, Tryd.prog.underlying 24 = some (.struct #[f0, f1]) ∧ f0.type = 3 ∧ f0.offset = 0 ∧ f1.type = 22 ∧ f1.offset = 1 := ⟨_, _, Tryd.underlying24, rfl, rfl, rfl, rfl⟩
theorem cells_int : Tryd.prog.cellsOf 3 = 1 := by kernel_rfl
theorem cells_types : Tryd.prog.cellsOf 22 = 1 := by kernel_rfl
theorem cells_Type : Tryd.prog.cellsOf 24 = 2 := by kernel_rfl
section
variable {H : Type} {enc : TypeId × Value → H} {w : World} {sp : Nat → Bool} {held : Bool}
/-- What reads as a type is one. -/
theorem trod_Ty : ∀ (N fuel : Nat) (cs : List Value) (d : DataW H) (ps : List MemPlace), Rows.uptoBulk d ≤ N → N ≤ 1048576 → DataW.trod enc Tryd.prog w 0 sp held fuel 24 cs = some (d, ps) →
    ∃ t : Ty, All2 (relK (Old w) w) t.c cs ∧ Thin t ∧ t.size ≤ Rows.uptoBulk d := by
  intro N
  induction N with
  | zero => intro fuel cs d ps hN; have := bulk_pos d; omega
  | succ N ih =>
    intro fuel cs d ps hN hmax h
    obtain ⟨f0, f1, hu, t0, o0, t1, o1⟩ := struct_Type
    obtain ⟨y0, y1, n, hx, hlen, h0, h1⟩ := trod_struct2 hu h
    simp only [Prod.mk.injEq] at hx
    obtain ⟨rfl, rfl⟩ := hx
    rw [cells_Type] at hlen
    obtain ⟨c0, c1, rfl⟩ := len2 hlen
    rw [t0, o0, cells_int] at h0
    rw [t1, o1, cells_types] at h1
    simp only [List.drop_zero, List.take_succ_cons, List.take_zero, List.drop_succ_cons] at h0 h1
    obtain ⟨k, hk, hy0, _⟩ := DataW.trod_int Tryd.underlying3 h0
    obtain rfl : c0 = .int .i64 k := by simpa using hk
    have hb : Rows.uptoBulk (DataW.agg [y0.1, y1.1]) = Rows.uptoBulk y1.1 + 2 := by rw [hy0]; simp [Rows.uptoBulk, Rows.uptoBulkAll]; omega
    rw [hb] at hN
    obtain ⟨l, v, hv, hr, hG, hs, hl⟩ := open_rows (α := Ty) Ty.c Ty.size Thin Tryd.underlying22 cells_Type (by decide) (fun y => rfl) h1 (by omega) (fun n cs' d' ps' hd h => by
      obtain ⟨t, h1, h2, h3⟩ := ih n cs' d' ps' (by omega) (by omega) h
      exact ⟨t, h1, h2, h3⟩)
    obtain rfl : c1 = v := by simpa using hv
    refine ⟨.mk k l, ⟨rfl, ?_, trivial⟩, .mk k l (by omega) hG, ?_⟩
    · show relK (Old w) w (slOf 2 (tyRows l)) c1
      rw [tyRows_map]; exact hr
    · simp only [Ty.size, sizeL_sum]; omega
end
end Go.Proofs.YtnflnbdlgdjfmabDoor
namespace Go.Proofs.YtnflnbdlgdjfmabDoor
open Go.ChangeShapes Go.WideShapes Go.ChangeAt Go.RowKit Go.Joins Go.Deep
set_option linter.unusedVariables false
set_option linter.unusedSimpArgs false
instance : Inhabited Tm := ⟨.mk 0 0 .any .any []⟩
theorem nodesL_sum : ∀ l : List Tm, nodesL l = (l.map Tm.nodes).sum
  | [] => rfl
  | a :: l => by simp [nodesL, nodesL_sum l]
/-- No type in it is large. -/
inductive TmFit : Tm → Prop
  | mk {t : Tm} (ht : t.t.size ≤ 1048576) (hf : t.f.size ≤ 1048576) (hl : ∀ x ∈ t.l, TmFit x) : TmFit t
theorem struct_Term : ∃ f0 f1 f2 f3 f4 : Field, Tryd.prog.underlying 27 = some (.struct #[f0, f1, f2, f3, f4]) ∧ (f0.type = 3 ∧ f0.offset = 0) ∧ (f1.type = 3 ∧ f1.offset = 1) ∧ (f2.type = 24 ∧ f2.offset = 2) ∧ (f3.type = 24 ∧ f3.offset = 4) ∧ (f4.type = 25 ∧ f4.offset = 6) := ⟨_, _, _, _, _, Tryd.underlying27, ⟨rfl, rfl⟩, ⟨rfl, rfl⟩, ⟨rfl, rfl⟩, ⟨rfl, rfl⟩, ⟨rfl, rfl⟩⟩
theorem cells_terms : Tryd.prog.cellsOf 25 = 1 := by kernel_rfl
theorem cells_Term : Tryd.prog.cellsOf 27 = 7 := by kernel_rfl
section
variable {H : Type} {enc : TypeId × Value → H} {w : World} {sp : Nat → Bool} {held : Bool}
/-- What reads as a term is one. -/
theorem trod_Tm : ∀ (N fuel : Nat) (cs : List Value) (d : DataW H) (ps : List MemPlace), Rows.uptoBulk d ≤ N → N ≤ 1048576 → DataW.trod enc Tryd.prog w 0 sp held fuel 27 cs = some (d, ps) →
    ∃ t : Tm, All2 (relK (Old w) w) t.c cs ∧ (TmOk t ∧ TmFit t) ∧ t.nodes ≤ Rows.uptoBulk d := by
  intro N
  induction N with
  | zero => intro fuel cs d ps hN; have := bulk_pos d; omega
  | succ N ih =>
    intro fuel cs d ps hN hmax h
    obtain ⟨f0, f1, f2, f3, f4, hu, ⟨t0, o0⟩, ⟨t1, o1⟩, ⟨t2, o2⟩, ⟨t3, o3⟩, ⟨t4, o4⟩⟩ := struct_Term
    obtain ⟨xs, n, rfl, hx, hlen, hxs, hf⟩ := DataW.trod_struct hu h
    simp only [Prod.mk.injEq] at hx
    obtain ⟨rfl, rfl⟩ := hx
    rw [cells_Term] at hlen
    obtain ⟨c0, c1, c2, c3, c4, c5, c6, rfl⟩ := len7 hlen
    obtain ⟨y0, y1, y2, y3, y4, rfl⟩ := len5 hxs
    have g0 := hf 0 f0 rfl
    have g1 := hf 1 f1 rfl
    have g2 := hf 2 f2 rfl
    have g3 := hf 3 f3 rfl
    have g4 := hf 4 f4 rfl
    rw [t0, o0, cells_int] at g0
    rw [t1, o1, cells_int] at g1
    rw [t2, o2, cells_Type] at g2
    rw [t3, o3, cells_Type] at g3
    rw [t4, o4, cells_terms] at g4
    simp only [List.drop_zero, List.take_succ_cons, List.take_zero, List.drop_succ_cons, List.getElem?_cons_zero, List.getElem?_cons_succ] at g0 g1 g2 g3 g4
    obtain ⟨k, hk, hy0, _⟩ := DataW.trod_int Tryd.underlying3 g0
    obtain rfl : c0 = .int .i64 k := by simpa using hk
    obtain ⟨m, hm, hy1, hwf⟩ := DataW.trod_int Tryd.underlying3 g1
    obtain rfl : c1 = .int .i64 m := by simpa using hm
    have hmm : m ≤ 9223372036854775807 := by
      simp only [Lit.wf, Bool.and_eq_true, decide_eq_true_eq] at hwf
      have h9 : IntKind.i64.max = 9223372036854775807 := by decide
      rw [← h9]; exact hwf.2
    have hb : Rows.uptoBulk (DataW.agg ([y0, y1, y2, y3, y4].map (·.1))) = Rows.uptoBulk y2.1 + Rows.uptoBulk y3.1 + Rows.uptoBulk y4.1 + 3 := by rw [hy0, hy1]; simp [Rows.uptoBulk, Rows.uptoBulkAll]; omega
    rw [hb] at hN
    obtain ⟨T, hT, hTt, hTs⟩ := trod_Ty 1048576 n _ y2.1 y2.2 (by omega) (Nat.le_refl _) g2
    obtain ⟨Fm, hFm, hFt, hFs⟩ := trod_Ty 1048576 n _ y3.1 y3.2 (by omega) (Nat.le_refl _) g3
    obtain ⟨l, v, hv, hr, hG, hs, hl⟩ := open_rows (α := Tm) Tm.c Tm.nodes (fun t => TmOk t ∧ TmFit t) Tryd.underlying25 cells_Term (by decide) (fun y => rfl) g4 (by omega) (fun n cs' d' ps' hd h => by
      obtain ⟨t, h1, h2, h3⟩ := ih n cs' d' ps' (by omega) (by omega) h
      exact ⟨t, h1, h2, h3⟩)
    obtain rfl : c6 = v := by simpa using hv
    obtain ⟨hT0, hT1, _⟩ := hT
    obtain ⟨hF0, hF1, _⟩ := hFm
    refine ⟨.mk k m T Fm l, ⟨rfl, rfl, hT0, hT1, hF0, hF1, ?_, trivial⟩, ⟨.mk hmm hTt hFt fun x hx => (hG x hx).1, .mk (by show T.size ≤ _; omega) (by show Fm.size ≤ _; omega) fun x hx => (hG x hx).2⟩, ?_⟩
    · show relK (Old w) w (slOf 7 (tmRows l)) c6
      rw [tmRows_map]; exact hr
    · rw [hb]; simp only [Tm.nodes, nodesL_sum]; omega
end
end Go.Proofs.YtnflnbdlgdjfmabDoor
namespace Go.Proofs.YtnflnbdlgdjfmabDoor
set_option linter.unusedVariables false
theorem deep_size : ∀ a : Ty, a.deep ≤ a.size := Ty.ind fun k l ih => by
  rw [deep_eta]
  simp only [Ty.l_mk, Ty.size]
  have : ∀ m : List Ty, (∀ t ∈ m, t.deep ≤ t.size) → deepL m ≤ sizeL m := by
    intro m
    induction m with
    | nil => intro _; simp [deepL]
    | cons b m ihm =>
      intro h
      have h1 := h b (by simp)
      have h2 := ihm fun t ht => h t (by simp [ht])
      simp only [deepL, sizeL]
      omega
  have := this l ih
  omega
theorem fit_dp : ∀ {t : Tm}, TmFit t → TmDp t := fun {t} => by
  induction t using Tm.ind' with
  | h t ih =>
  intro h
  cases h with
  | mk ht hf hl =>
    have := deep_size t.t
    exact .mk (by omega) fun x hx => ih x hx (hl x hx)
end Go.Proofs.YtnflnbdlgdjfmabDoor
namespace Go.Proofs.YtnflnbdlgdjfmabDoor
open Go.ChangeShapes Go.WideShapes Go.ChangeAt Go.RowKit Go.Joins Go.Deep
set_option linter.unusedVariables false
set_option linter.unusedSimpArgs false
def ρ0 : Nat → Lc := fun _ => ⟨none, 0, 0⟩
/-- What the listed variables give. -/
structure GlobIn (W : World) : Prop where
  gl : ∀ g c, glob g = some c → relK (Old W) W c (.pointer (some ⟨g, 0, none⟩))
  gx : ∀ g p, globX g = some p → ∃ cs t fz, p cs ∧ W.heap[g]? = some (.cells cs t fz)
theorem hrel_old {W : World} (hg : GlobIn W) : HRel (Old W) ρ0 (ofL []) W :=
  ⟨fun b x h => (by cases h), fun b b' g h => absurd rfl h, fun b g h => absurd rfl h, fun k h => h, fun b x h => (by cases h), hg.gl, fun g p h => by
    obtain ⟨cs, t, fz, hp, hh⟩ := hg.gx g p h
    exact ⟨(Array.getElem?_eq_some_iff.1 hh).1, cs, t, fz, hp, hh⟩⟩
/-- A law that answers true, as its row asks for it. -/
theorem law_calls {f : FuncId} {us : List U} {vals : List Value} {W : World} (hc : ACalls Tryd.prog f us [] (.one (.bool true)) []) (hg : GlobIn W) (ha : All2 (fun u v => relU (Old W) ρ0 W u v ∧ okU (ofL []) u) us vals) :
    Calls Tryd.prog f vals.toArray W fun e W' => e = .returned (.bool true) ∧ Below W.heap.size W W' := by
  refine (hc.2 (Old W) ρ0 W vals (hrel_old hg) ha).mono fun e W' ⟨v, F', ρ', he, hM, hr, _⟩ => ?_
  have hr : v = .bool true := hr
  subst hr
  exact ⟨he, hM.os, hM.tape, hM.output, hM.size, fun k hk => hM.kept k hk fun b hb => absurd rfl hb⟩
theorem ok_Tm (t : Tm) : okU (ofL []) t.u := okU_of (u := t.u) ⟨trivial, trivial, trivial, trivial, trivial, trivial, trivial, trivial⟩
set_option maxRecDepth 100000 in
/-- A term that comes in. -/
theorem open_Tm {H : Type} {enc : TypeId × Value → H} {W : World} {r : Reach} {b0 : Nat} {v : Value} {d : DataW H} {p : List MemPlace} (hv : Value.okWide Tryd.prog W r b0 27 v)
    (h : DataW.Trod enc Tryd.prog W 0 (fun _ => true) true 27 v d p) (hb : Rows.uptoBulk d ≤ 1048576) : ∃ t : Tm, relU (Old W) ρ0 W t.u v ∧ TmOk t ∧ t.nodes ≤ 1048576 := by
  obtain ⟨f0, f1, f2, f3, f4, hu, _⟩ := struct_Term
  obtain ⟨cs, rfl, hsz⟩ := okWide_struct hu hv
  obtain ⟨fuel, hf⟩ := h
  obtain ⟨t, ht, hok, hn⟩ := trod_Tm 1048576 fuel _ d p hb (Nat.le_refl _) hf
  simp only [Value.cells] at ht
  refine ⟨t, ⟨cs.toList, by simp, ?_⟩, hok.1, by omega⟩
  exact ht.mono fun c _ v h => relC_relK h
set_option maxRecDepth 100000 in
/-- A term that comes in, its types' size too. -/
theorem open_TmF {H : Type} {enc : TypeId × Value → H} {W : World} {r : Reach} {b0 : Nat} {v : Value} {d : DataW H} {p : List MemPlace} (hv : Value.okWide Tryd.prog W r b0 27 v)
    (h : DataW.Trod enc Tryd.prog W 0 (fun _ => true) true 27 v d p) (hb : Rows.uptoBulk d ≤ 1048576) : ∃ t : Tm, relU (Old W) ρ0 W t.u v ∧ (TmOk t ∧ TmFit t) ∧ t.nodes ≤ 1048576 := by
  obtain ⟨f0, f1, f2, f3, f4, hu, _⟩ := struct_Term
  obtain ⟨cs, rfl, hsz⟩ := okWide_struct hu hv
  obtain ⟨fuel, hf⟩ := h
  obtain ⟨t, ht, hok, hn⟩ := trod_Tm 1048576 fuel _ d p hb (Nat.le_refl _) hf
  simp only [Value.cells] at ht
  refine ⟨t, ⟨cs.toList, by simp, ?_⟩, hok, by omega⟩
  exact ht.mono fun c _ v h => relC_relK h
set_option maxRecDepth 100000 in
/-- A number that comes in. -/
theorem open_Int {H : Type} {enc : TypeId × Value → H} {W : World} {r : Reach} {b0 : Nat} {v : Value} {d : DataW H} {p : List MemPlace} (hv : Value.okWide Tryd.prog W r b0 3 v)
    (h : DataW.Trod enc Tryd.prog W 0 (fun _ => true) true 3 v d p) : ∃ n : Int, v = .int .i64 n ∧ -9223372036854775808 ≤ n ∧ n ≤ 9223372036854775807 := by
  obtain ⟨n, rfl, _, _, hw⟩ := open_int Tryd.underlying3 hv h
  simp only [Lit.wf, Bool.and_eq_true, decide_eq_true_eq] at hw
  have h8 : IntKind.i64.min = -9223372036854775808 := by decide
  have h9 : IntKind.i64.max = 9223372036854775807 := by decide
  exact ⟨n, rfl, by rw [← h8]; exact hw.1, by rw [← h9]; exact hw.2⟩
theorem laidOutP : laidOutB Tryd.prog = true := by kernel_rfl
theorem readable_Term : Tryd.prog.readableRec 27 = true := by kernel_rfl
theorem rowed_Term : 27 < Tryd.prog.types.size := of_decide_eq_true (by kernel_rfl)
theorem readable_int : Tryd.prog.readableRec 3 = true := by kernel_rfl
theorem rowed_int : 3 < Tryd.prog.types.size := of_decide_eq_true (by kernel_rfl)
/-- It reads behind the call as it did. -/
theorem again_Tm {H : Type} {enc : TypeId × Value → H} {W W' : World} {v : Value} {d : DataW H} {p : List MemPlace} (hx : Below W.heap.size W W') (h : DataW.Trod enc Tryd.prog W 0 (fun _ => true) true 27 v d p) (hlt : ∀ x ∈ p, x.block < W.heap.size) :
    DataW.Trod enc Tryd.prog W' 0 (fun b => decide (b < W.heap.size)) true 27 v d p := Below.trod laidOutP readable_Term rowed_Term h hx hlt
theorem again_Int {H : Type} {enc : TypeId × Value → H} {W W' : World} {v : Value} {d : DataW H} {p : List MemPlace} (hx : Below W.heap.size W W') (h : DataW.Trod enc Tryd.prog W 0 (fun _ => true) true 3 v d p) (hlt : ∀ x ∈ p, x.block < W.heap.size) :
    DataW.Trod enc Tryd.prog W' 0 (fun b => decide (b < W.heap.size)) true 3 v d p := Below.trod laidOutP readable_int rowed_int h hx hlt
/-- What a law's row asks behind the call, where nothing that was there has turned. -/
theorem law_post {H : Type} {enc : TypeId × Value → H} {f : Func} {s : ChangeSpec} {W W' : World} {args : Array Value} {ds : List (DataW H)} {before pa : List MemPlace}
    (hW : DataW.Whole enc Tryd.prog f.params.toList s.vars false W args.toList ds [] before) (hvars : s.vars = []) (hr : f.resultTypes = #[4]) (hs : s.fn H (ds ++ []) = { results := [.lit (.bool true)], args := ds })
    (hx : Below W.heap.size W W') (hargs : DataW.TrodAll enc Tryd.prog W' 0 (fun b => decide (b < W.heap.size)) true f.params.toList args.toList ds pa) :
    s.post enc Tryd.prog f false true false false W args (.bool true) W' := by
  refine ⟨ds, [], before, [], pa, [], hW, ?_, by rw [hs]; exact hargs, ?_, Below.frame hx _, fun h => by cases h⟩
  · rw [hs, hr]
    exact trodAll_cons_mk (shut_bool Tryd.underlying4 _) trodAll_mk0
  · rw [hvars, hs]
    rfl
theorem own : ownKnob Tryd.prog.godebug = none := by kernel_rfl
end Go.Proofs.YtnflnbdlgdjfmabDoor
namespace Go.Proofs.YtnflnbdlgdjfmabDoor
open Go.ChangeShapes Go.WideShapes Go.ChangeAt Go.RowKit Go.Joins Go.Deep
set_option linter.unusedVariables false
set_option linter.unusedSimpArgs false
/-- A table of strings, as a row lists it. -/
def strData {H : Type} (zs : List (List UInt8)) : DataW H := .agg (zs.map fun z => .lit (.string z))
theorem cells_of_strs {H : Type} {enc : TypeId × Value → H} {P : Program} {w : World} {base : Nat} {sp : Nat → Bool} {held : Bool} {fuel : Nat} {t e : TypeId} {n : Nat} {cs : List Value} {zs : List (List UInt8)} {p : List MemPlace}
    (ht : P.underlying t = some (.array n e)) (he : P.underlying e = some .string) (hce : P.cellsOf e = 1) (hct : P.cellsOf t = n)
    (h : DataW.trod enc P w base sp held fuel t cs = some (strData zs, p)) : cs = zs.map fun z => Value.string ⟨z.toArray⟩ := by
  cases fuel with
  | zero => simp [DataW.trod] at h
  | succ fuel =>
    simp only [DataW.trod, ht, hce, hct, Nat.mul_one] at h
    split at h
    · rename_i hl
      obtain ⟨xs, hm, hx⟩ := Option.map_eq_some_iff.1 h
      have hxs : xs.map (·.1) = zs.map fun z => (DataW.lit (.string z) : DataW H) := by
        have := congrArg Prod.fst hx
        simpa [strData] using this
      have hxl : xs.length = n := by simpa using Lib.mapM_length hm
      have hzl : zs.length = n := by
        have := congrArg List.length hxs
        simp at this
        omega
      apply List.ext_getElem?
      intro i
      by_cases hi : i < n
      · obtain ⟨b, hb, hf⟩ := Lib.mapM_at hm i i (by simp [hi])
        obtain ⟨s, hc, rfl, _⟩ := DataW.trod_string he hf
        have h1 : cs[i]? = some (.string s) := by
          have := congrArg (·[0]?) hc
          simpa [List.getElem?_take, List.getElem?_drop] using this
        have h2 : (xs.map (·.1))[i]? = some (DataW.lit (.string s.data.toList) : DataW H) := by simp [hb]
        rw [hxs] at h2
        simp only [List.getElem?_map, Option.map_eq_some_iff, DataW.lit.injEq, Lit.string.injEq] at h2
        obtain ⟨z', hz', rfl⟩ := h2
        simp [h1, hz']
      · rw [List.getElem?_eq_none (by omega), List.getElem?_eq_none (by simp; omega)]
    · cases h
theorem strs_of_head {P : Program} {W : World} {name : String} {zs : List (List UInt8)} {rest : List (String × DataW Unit)} {g : Nat} {t e : TypeId} {n : Nat}
    (hg : P.globalNamed name = some g) (hty : (P.globals[g]?).map (·.type) = some t) (ht : P.underlying t = some (.array n e)) (he : P.underlying e = some .string) (hce : P.cellsOf e = 1) (hct : P.cellsOf t = n)
    (h : laidMet P ((name, strData zs) :: rest) W) : W.var? P name = some (zs.map fun z => Value.string ⟨z.toArray⟩).toArray := by
  obtain ⟨ps, ⟨g', t', cs, fuel, p, q, hg', ht', hvar, hd, _, _⟩, _⟩ := h
  obtain rfl := Option.some.inj (hg.symm.trans hg')
  obtain rfl := Option.some.inj (hty.symm.trans ht')
  rw [hvar, ← cells_of_strs ht he hce hct hd]
theorem heap_of_var {P : Program} {W : World} {name : String} {g : Nat} {cs : Array Value} (hg : P.globalNamed name = some g) (h : W.var? P name = some cs) : ∃ t fz, W.heap[g]? = some (.cells cs t fz) := by
  unfold World.var? at h
  rw [hg] at h
  simp only [Option.bind_some] at h
  split at h
  · rename_i hh; cases h; exact ⟨_, _, hh⟩
  · cases h
theorem fpo_of_var {P : Program} {W : World} {name : String} {g : Nat} {cs : Array Value} {l : List C} (hg : P.globalNamed name = some g) (h : W.var? P name = some cs) (hr : All2 (relK (Old W) W) l cs.toList) (h0 : 0 < l.length) : relK (Old W) W (fpo l 0) (.pointer (some ⟨g, 0, none⟩)) := by
  obtain ⟨t, fz, hh⟩ := heap_of_var hg h
  refine ⟨g, 0, rfl, (Array.getElem?_eq_some_iff.1 hh).1, fun j hj => ?_⟩
  have hj : j < l.length := by simpa using hj
  obtain ⟨u, hu, hk⟩ := hr.get j l[j] (List.getElem?_eq_getElem hj)
  refine ⟨u, ?_, ?_⟩
  · have := World.var?_cell hg h j
    rw [Nat.zero_add, this]; simpa using hu
  · simp only [rowF, Nat.zero_add, List.getD_eq_getElem?_getD, List.getElem?_eq_getElem hj, Option.getD_some]; exact hk
abbrev laidT : List (String × DataW Unit) := Rows.termTellsUptoRow.laid
theorem hArr : Tryd.prog.cellsOf 79 = 10 := by kernel_rfl
theorem hArrS : Tryd.prog.cellsOf 69 = 10 := by kernel_rfl
theorem hArrK : Tryd.prog.cellsOf 95 = 4 := by kernel_rfl
theorem hArrP : Tryd.prog.cellsOf 173 = 20 := by kernel_rfl
theorem hU64 : Tryd.prog.cellsOf 143 = 1 := by kernel_rfl
theorem hStr : Tryd.prog.cellsOf 9 = 1 := by kernel_rfl
theorem hErr : Tryd.prog.cellsOf 192 = 1 := by kernel_rfl
theorem gAr : Tryd.prog.globalNamed "chaperone/term.arity" = some 1 := by kernel_rfl
theorem gWo : Tryd.prog.globalNamed "chaperone/term.words" = some 0 := by kernel_rfl
theorem gKi : Tryd.prog.globalNamed "chaperone/term.kinds" = some 2 := by kernel_rfl
theorem gPo : Tryd.prog.globalNamed "internal/strconv.uint64pow10" = some 8 := by kernel_rfl
theorem gSp : Tryd.prog.globalNamed "strings.asciiSpace" = some 3 := by kernel_rfl
theorem hArrSp : Tryd.prog.cellsOf 108 = 256 := by kernel_rfl
theorem hU8 : Tryd.prog.cellsOf 5 = 1 := by kernel_rfl
theorem gES : Tryd.prog.globalNamed "strconv.ErrSyntax" = some 9 := by kernel_rfl
theorem gER : Tryd.prog.globalNamed "strconv.ErrRange" = some 10 := by kernel_rfl
theorem star : "*" ++ "errors.errorString" = "*errors.errorString" := by decide
theorem rowErr (u : TypeId) (h : Tryd.prog.typeName? 3 u = some "*errors.errorString") : u = 190 :=
  typeName_ptr_named (nm := "errors.errorString") (by rw [star]; kernel_rfl) (by kernel_rfl) (by decide) u (by rw [star]; exact h)
theorem max_in {W : World} (hsh : W.ShapedOpen Tryd.prog) : ∃ cs t fz, (∃ m, cs = #[.int .i64 m]) ∧ W.heap[5]? = some (.cells cs t fz) := by
  obtain ⟨cs, hh, hs, _⟩ := hsh.1 5 #[.int .i64 0] 3 (of_decide_eq_true (by kernel_rfl)) (by kernel_rfl)
  obtain ⟨m, hm⟩ := cell_of_shapedOpen_int (zero := #[.int .i64 0]) (t := 3) (g := 5) hsh (of_decide_eq_true (by kernel_rfl)) (by kernel_rfl) rfl (by kernel_rfl) (by kernel_rfl) Tryd.underlying3
  have hm0 : cs[0]? = some (.int .i64 m) := by simpa [World.cell?, hh] using hm
  refine ⟨cs, _, _, ⟨m, ?_⟩, hh⟩
  have hs : cs.size = 1 := hs
  apply Array.ext_getElem?
  intro i
  match i with
  | 0 => simpa using hm0
  | i + 1 => rw [Array.getElem?_eq_none (by omega), Array.getElem?_eq_none (by simp)]
set_option maxRecDepth 100000 in
theorem glob_in {W : World} (hL : laidMetH Tryd.prog laidT W) (hsh : W.ShapedOpen Tryd.prog) : GlobIn W := by
  have h0 : laidMet Tryd.prog laidT W := hL
  have h2 := h0.tail.tail
  have h4 := h2.tail.tail
  have h5 := h4.tail
  have h6 := h5.tail
  have h7 := h6.tail
  have h8 := h7.tail
  have h9 := h8.tail
  have h10 := h9.tail
  have h7' : laidMet Tryd.prog (("strings.asciiSpace", Lib.tabData .u8 Lib.asciiSpaceTab) :: laidT.drop 8) W := by
    rw [show (("strings.asciiSpace", Lib.tabData .u8 Lib.asciiSpaceTab) :: laidT.drop 8 : List (String × DataW Unit)) = laidT.drop 7 by kernel_rfl]
    exact h7
  have vS0 := Lib.tabIs_of_head gSp (t := 108) (by kernel_rfl) Tryd.underlying108 Tryd.underlying5 hU8 hArrSp h7'
  have vS : W.var? Tryd.prog "strings.asciiSpace" = some spaceV := by
    unfold Lib.TabIs at vS0
    rw [vS0, space_tab]
  have vP0 := Lib.tabIs_of_head (k := .u64) (zs := [1, 10, 100, 1000, 10000, 100000, 1000000, 10000000, 100000000, 1000000000, 10000000000, 100000000000, 1000000000000, 10000000000000, 100000000000000, 1000000000000000, 10000000000000000, 100000000000000000, 1000000000000000000, 10000000000000000000]) gPo (t := 173) (by kernel_rfl) Tryd.underlying173 Tryd.underlying143 hU64 hArrP h2
  have vP : W.var? Tryd.prog "internal/strconv.uint64pow10" = some pow10V := by
    unfold Lib.TabIs at vP0
    rw [vP0]
    simp [pow10V]
  obtain ⟨a4, s4, v4, _⟩ := laid_sentinel h4 gER (ti := 103) (by kernel_rfl) Tryd.underlying103 rowErr Tryd.underlying190 Tryd.underlying192 rfl rfl Tryd.underlying9 hErr hStr
  obtain ⟨a5, s5, v5, _⟩ := laid_sentinel h5 gES (ti := 103) (by kernel_rfl) Tryd.underlying103 rowErr Tryd.underlying190 Tryd.underlying192 rfl rfl Tryd.underlying9 hErr hStr
  have vA : W.var? Tryd.prog "chaperone/term.arity" = some #[.int .i64 0, .int .i64 0, .int .i64 0, .int .i64 0, .int .i64 2, .int .i64 2, .int .i64 3, .int .i64 1, .int .i64 2, .int .i64 1] := Lib.tabIs_of_head (zs := [0, 0, 0, 0, 2, 2, 3, 1, 2, 1]) gAr (t := 79) (by kernel_rfl) Tryd.underlying79 Tryd.underlying3 cells_int hArr h8
  have vW := strs_of_head (zs := [[], [], [], [], [97, 100, 100], [108, 101, 115, 115], [105, 102], [102, 117, 110], [99, 97, 108, 108], [97, 115]]) gWo (t := 69) (by kernel_rfl) Tryd.underlying69 Tryd.underlying9 hStr hArrS h9
  have vK := strs_of_head (zs := [[97, 110, 121], [110, 117, 109], [116, 114, 117, 116, 104], [116, 111]]) gKi (t := 95) (by kernel_rfl) Tryd.underlying95 Tryd.underlying9 hStr hArrK h10
  refine ⟨fun g c hgc => ?_, fun g p hgp => ?_⟩
  · unfold glob at hgc
    cases hb : Nat.beq g 1 with
    | true =>
      rw [hb] at hgc; cases hgc
      rw [Nat.eq_of_beq_eq_true hb]
      exact fpo_of_var gAr vA ⟨rfl, rfl, rfl, rfl, rfl, rfl, rfl, rfl, rfl, rfl, trivial⟩ (by decide)
    | false =>
    rw [hb] at hgc
    cases hb1 : Nat.beq g 0 with
    | true =>
      rw [hb1] at hgc; cases hgc
      rw [Nat.eq_of_beq_eq_true hb1]
      exact fpo_of_var gWo vW ⟨rfl, rfl, rfl, rfl, rfl, rfl, rfl, rfl, rfl, rfl, trivial⟩ (by decide)
    | false =>
    rw [hb1] at hgc
    cases hb2 : Nat.beq g 2 with
    | true =>
      rw [hb2] at hgc; cases hgc
      rw [Nat.eq_of_beq_eq_true hb2]
      exact fpo_of_var gKi vK ⟨rfl, rfl, rfl, rfl, trivial⟩ (by decide)
    | false => rw [hb2] at hgc; cases hgc
  · unfold globX at hgp
    cases hb : Nat.beq g 5 with
    | true =>
      rw [hb] at hgp; cases hgp
      rw [Nat.eq_of_beq_eq_true hb]
      exact max_in hsh
    | false =>
    rw [hb] at hgp
    cases hb1 : Nat.beq g 9 with
    | true =>
      rw [hb1] at hgp; cases hgp
      rw [Nat.eq_of_beq_eq_true hb1]
      obtain ⟨t, fz, hh⟩ := heap_of_var gES v5
      exact ⟨_, t, fz, ⟨_, _, rfl⟩, hh⟩
    | false =>
    rw [hb1] at hgp
    cases hb2 : Nat.beq g 10 with
    | true =>
      rw [hb2] at hgp; cases hgp
      rw [Nat.eq_of_beq_eq_true hb2]
      obtain ⟨t, fz, hh⟩ := heap_of_var gER v4
      exact ⟨_, t, fz, ⟨_, _, rfl⟩, hh⟩
    | false =>
    rw [hb2] at hgp
    cases hb3 : Nat.beq g 8 with
    | true =>
      rw [hb3] at hgp; cases hgp
      rw [Nat.eq_of_beq_eq_true hb3]
      obtain ⟨t, fz, hh⟩ := heap_of_var gPo vP
      exact ⟨_, t, fz, rfl, hh⟩
    | false =>
    rw [hb3] at hgp
    cases hb4 : Nat.beq g 3 with
    | true =>
      rw [hb4] at hgp; cases hgp
      rw [Nat.eq_of_beq_eq_true hb4]
      obtain ⟨t, fz, hh⟩ := heap_of_var gSp vS
      exact ⟨_, t, fz, rfl, hh⟩
    | false => rw [hb4] at hgp; cases hgp
/-- A world for the witness: every listed variable holds what its row lists. -/
noncomputable def laidWorld (os : Os) : World := World.laidAll Tryd.prog os laidT
theorem laid_met (os : Os) (args : Array Value) : laidMet Tryd.prog laidT ((laidWorld os).forCall (fun _ _ => 0) ⟨#[], args, []⟩).memory := laidMet_laidAll args (by kernel_rfl) (by kernel_rfl)
end Go.Proofs.YtnflnbdlgdjfmabDoor
