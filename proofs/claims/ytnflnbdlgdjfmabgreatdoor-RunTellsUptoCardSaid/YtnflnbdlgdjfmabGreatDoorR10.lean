/-
  Merged texts of the proof. Conditions: those typed in each theorem.
-/
import Derived.Test.YtnflnbdlgdjfmabGreatDoorR9
import Derived.Lib.SplitLaws
import Derived.Test.YtnflnbdlgdjfmabGreatDoorRows
import Derived.ProofKit
import Derived.OpenShut
import Derived.Lib.SmallJoins
import Derived.Deep.Slices
import Derived.Deep.DeepHandedRow
import Derived.Lib.LaidTab
import Derived.Lay
import Derived.Stop.LaidErr
import Derived.Shelf.Vars
import Derived.Deep.DeepWitnessRowRef
import Derived.LaidLaws
namespace Go.Proofs.YtnflnbdlgdjfmabGreatDoor
open Go.RowKit
set_option linter.unusedVariables false
set_option linter.unusedSimpArgs false
set_option maxRecDepth 100000
attribute [local irreducible] RunL AW LocOp ACalls Gh
def RdOk (r : Rd) : Prop := ∀ w ∈ r.ws, w.size ≤ 4294967296
theorem next_okR {r : Rd} (h : RdOk r) : RdOk r.next.2 ∧ r.next.1.size ≤ 4294967296 := by
  unfold Rd.next
  split
  · exact ⟨fun w hw => (by cases hw), by show (0 : Nat) ≤ _; decide⟩
  · rename_i w ws e
    exact ⟨fun x hx => h x (by rw [e]; exact List.mem_cons_of_mem _ hx), h w (by rw [e]; exact List.mem_cons_self ..)⟩
theorem close_okR {r : Rd} (h : RdOk r) : RdOk r.close := (next_okR h).1
theorem readK_okR : ∀ (d : Nat) (r : Rd), RdOk r → RdOk (readK d r).2
  | 0, r, h => by
    simp only [readK]
    split
    · exact (next_okR (next_okR h).1).1
    · exact (next_okR h).1
  | d + 1, r, h => by
    have hq : RdOk (if sEq r.next.1 sLp = true then r.next.2.next else r.next).2 := by
      split
      · exact (next_okR (next_okR h).1).1
      · exact (next_okR h).1
    simp only [readK]
    generalize (if sEq r.next.1 sLp = true then r.next.2.next else r.next) = q at hq
    cases kFrom q.1 (sEq r.next.1 sLp) 4 with
    | none => exact hq
    | some k =>
      simp only
      split
      · exact close_okR (readK_okR d _ (readK_okR d _ hq))
      · exact hq
theorem number_okR {r : Rd} {s : ByteArray} (h : RdOk r) : RdOk (r.number s).2 := by
  unfold Rd.number; split <;> exact h
theorem readN_okR {f : Rd → Tm × Rd} (hf : ∀ r, RdOk r → RdOk (f r).2) : ∀ (n : Nat) (r : Rd), RdOk r → RdOk (readN f n r).2
  | 0, r, h => h
  | n + 1, r, h => readN_okR hf n _ (hf r h)
theorem readT_okR : ∀ (n : Nat) (r : Rd), RdOk r → RdOk (readT n r).2
  | 0, r, h => (next_okR h).1
  | n + 1, r, h => by
    have h1 := (next_okR h).1
    simp only [readT]
    split
    · exact h1
    split
    · exact h1
    split
    · exact number_okR h1
    split
    · exact number_okR h1
    split
    · exact (next_okR h1).1
    · simp only [readB]
      refine close_okR (readN_okR (readT_okR n) _ _ ?_)
      split
      · exact readK_okR 4 _ (next_okR h1).1
      · exact (next_okR h1).1
theorem readN_snoc (f : Rd → Tm × Rd) : ∀ (n : Nat) (r : Rd), readN f (n + 1) r = ((readN f n r).1 ++ [(f (readN f n r).2).1], (f (readN f n r).2).2)
  | 0, r => rfl
  | n + 1, r => by
    show ((f r).1 :: (readN f (n + 1) (f r).2).1, (readN f (n + 1) (f r).2).2) = _
    rw [readN_snoc f n (f r).2]; rfl
theorem words_get {i : Nat} (h : i < 10) : wordsC[i]? = some (.str (wordsL.getD i sNil)) := by
  match i, h with
  | 0, _ | 1, _ | 2, _ | 3, _ | 4, _ | 5, _ | 6, _ | 7, _ | 8, _ | 9, _ => rfl
theorem arity_get {i : Nat} (h : i < 10) : arityC[((i : Nat) : Int).toNat * 1]? = some (.int .i64 (arity i)) := by
  match i, h with
  | 0, _ | 1, _ | 2, _ | 3, _ | 4, _ | 5, _ | 6, _ | 7, _ | 8, _ | 9, _ => rfl
theorem arity_le {i : Nat} (h : i < 10) : ∃ a : Nat, arity i = a ∧ a ≤ 3 := by
  match i, h with
  | 0, _ | 1, _ | 2, _ | 3, _ | 4, _ | 5, _ | 6, _ | 7, _ | 8, _ | 9, _ => exact ⟨_, rfl, by decide⟩
theorem wFrom_step {s : ByteArray} {i : Nat} (h : i < 10) : wFrom s (10 - i) = if wAt s i then some i else wFrom s (10 - (i + 1)) := by
  obtain ⟨n, hn⟩ : ∃ n, 10 - i = n + 1 := ⟨9 - i, by omega⟩
  rw [hn, show 10 - (i + 1) = n by omega]
  simp only [wFrom]
  rw [show 9 - n = i by omega]
theorem hash_size {s : ByteArray} (h : Lib.hasPrefix s.data.toList sHash.data.toList = true) : 1 ≤ s.size := by
  unfold Lib.hasPrefix at h
  have := List.IsPrefix.length_le (List.isPrefixOf_iff_prefix.1 h)
  rw [Array.length_toList] at this
  exact this
theorem ret_tm {P : Program} {x : Tmp} {tx : TypeId} {bx : Nat} {e : Exit} {t : Nat → U} {h : Nat → Option Blk} {r : Rd} {a : Tm} {l k : List C} {fz : List Nat} [T : TAgg P tx 7] (he : e = .normal ∨ e = .ret) (hx : t x = .one (.ptr bx 0)) (hbx : h bx = some (.obj k)) (hfz : AllP (ClosedAt h) fz) (hd : disj fz [1000] = true) (hk : All2 (WkC h fz []) k a.c) (hb : h 1000 = some (.obj l)) (hl : All2 (WkC h fz []) l r.c) : RetQ P #[.cell x tx] a.u [(1000, .obj r.c)] e t h := by
  have hlen : k.length = 7 := hk.length
  exact ⟨he, [.agg k], ⟨⟨bx, k, hx, hbx, .inl ⟨7, T, hlen, rfl⟩⟩, zo⟩, ⟨zo, zo⟩, .agg k, rfl, fz, hfz, hk, ⟨⟨_, hb, hl⟩, zo⟩, hd, ⟨zo, zo, zo, zo, zo, zo, zo, zo⟩, ⟨⟨zo, zo, zo⟩, zo⟩⟩
theorem tleaf {h : Nat → Option Blk} {k n : Int} : All2 (WkC h [] []) [.int .i64 k, .int .i64 n, .int .i64 0, .nilsl, .int .i64 0, .nilsl, .nilsl] (Tm.mk k n .any .any []).c := ⟨.le (.refl _), .le (.refl _), .le (.refl _), .le (.nil _), .le (.refl _), .le (.nil _), .le (.nil _), trivial⟩
set_option maxHeartbeats 40000000 in
theorem term_a : ∀ (n : Nat), n ≤ 40 → ∀ (r : Rd), RdOk r → ACalls Tryz.prog 31 [.one (.ptr 1000 0), .one (.int .i64 (n : Int))] [(1000, .obj (Rd.c (r)))] (readT n r).1.u [(1000, .obj (Rd.c ((readT n r).2)))] := by
  intro n
  induction n with
  | zero =>
    intro hn r hr
    refine acalls_of_body Tryz.func31 rfl (by kernel_rfl) (Nat.le_of_ble_eq_true rfl) (by exact ⟨⟨rfl, zo⟩, zo⟩) (by simp [namesL]) ?_
    refine zQ ?_;refine zM lah ?_;refine zn ?_;refine zQ ?_;refine zV laa ?_
    refine zY (las (next_a (r)) rfl (by refine ⟨_, _, rfl, (by exact LeU.of_eq rfl zo), (by exact Exists.intro _ rfl), ?_⟩;exact rfl) (by exact ⟨rfl, zo⟩) (by exact rfl) (by simp [namesL]) (by exact ⟨⟨zo, zo, zo⟩, zo⟩)) ?_
    cases hb : r.next.2.bad with
    | true =>
      refine zV lab ?_;refine zn ?_;refine zq ?_;refine zbl ?_;refine zQ ?_;refine zV laa ?_;refine zV lag ?_;refine zV lad ?_;refine zV lae ?_;refine zV laa ?_;refine zt ?_;refine zt ?_;refine zV (lam true) ?_;refine zV lab ?_;refine zn ?_;refine zcT ?_;refine zQ ?_;refine zV laa ?_;refine zV lag ?_;refine zV lad ?_;refine zE lav ?_;refine zn ?_;refine zQ ?_;refine zV laq ?_;refine zE laf ?_;refine zn ?_;refine zre ?_
      refine rq ?_
      exact ret_tm (by exact .inr rfl) (by exact rfl) (by exact rfl) (fz := []) zo rfl tleaf (by exact rfl) (by exact wkRow_refl _)
    | false =>
      refine zV lab ?_;refine zn ?_;refine zq ?_;refine zbl ?_;refine zQ ?_;refine zV laa ?_;refine zV lag ?_;refine zV lad ?_;refine zV lae ?_;refine zV laa ?_;refine zF laa ?_;refine zF lac ?_;refine zV (lam false) ?_;refine zV lab ?_;refine zn ?_;refine zcT ?_;refine zQ ?_;refine zV laa ?_;refine zV lag ?_;refine zV lad ?_;refine zE lav ?_;refine zn ?_;refine zQ ?_;refine zV laq ?_;refine zE laf ?_;refine zn ?_;refine zre ?_
      refine rq ?_
      exact ret_tm (by exact .inr rfl) (by exact rfl) (by exact rfl) (fz := []) zo rfl tleaf (by exact rfl) (by exact wkRow_refl _)
  | succ n ih =>
    intro hn r hr
    have ih := ih (by omega)
    have ih2 : ∀ (r : Rd), RdOk r → ACalls Tryz.prog 31 [.one (.ptr 1000 0), .one (.int .i64 (((n + 1 : Nat) : Int) - 1))] [(1000, .obj (Rd.c (r)))] (readT n r).1.u [(1000, .obj (Rd.c ((readT n r).2)))] := fun r hr => by
      rw [show (((n + 1 : Nat) : Int) - 1) = (n : Int) by omega]; exact ih r hr
    have hz : ((((n + 1 : Nat)) : Int) == 0) = false := by rw [beq_eq_false_iff_ne]; omega
    obtain ⟨hr1, hs1⟩ := next_okR hr
    obtain ⟨hr2, hs2⟩ := next_okR hr1
    refine acalls_of_body Tryz.func31 rfl (by kernel_rfl) (Nat.le_of_ble_eq_true rfl) (by exact ⟨⟨rfl, zo⟩, zo⟩) (by simp [namesL]) ?_
    refine zQ ?_;refine zM lah ?_;refine zn ?_;refine zQ ?_;refine zV laa ?_
    refine zY (las (next_a (r)) rfl (by refine ⟨_, _, rfl, (by exact LeU.of_eq rfl zo), (by exact Exists.intro _ rfl), ?_⟩;exact rfl) (by exact ⟨rfl, zo⟩) (by exact rfl) (by simp [namesL]) (by exact ⟨⟨zo, zo, zo⟩, zo⟩)) ?_
    cases hb : r.next.2.bad with
    | true =>
      rw [show readT (n + 1) r = (Tm.zero, r.next.2.fail) by simp only [readT]; rw [hb]; rfl]
      refine zV lab ?_;refine zn ?_;refine zq ?_;refine zbl ?_;refine zQ ?_;refine zV laa ?_;refine zV lag ?_;refine zV lad ?_;refine zV lae ?_;refine zV laa ?_;refine zt ?_;refine zt ?_;refine zV (lam true) ?_;refine zV lab ?_;refine zn ?_;refine zcT ?_;refine zQ ?_;refine zV laa ?_;refine zV lag ?_;refine zV lad ?_;refine zE lav ?_;refine zn ?_;refine zQ ?_;refine zV laq ?_;refine zE laf ?_;refine zn ?_;refine zre ?_
      refine rq ?_
      exact ret_tm (by exact .inr rfl) (by exact rfl) (by exact rfl) (fz := []) zo rfl tleaf (by exact rfl) (by exact wkRow_refl _)
    | false =>
    refine zV lab ?_;refine zn ?_;refine zq ?_;refine zbl ?_;refine zQ ?_;refine zV laa ?_;refine zV lag ?_;refine zV lad ?_;refine zV lae ?_;refine zV laa ?_;refine zF laa ?_;refine zF lac ?_;refine zV (lam false) ?_;refine zV lab ?_;refine zn ?_;refine zcF ?_;refine zQ ?_;refine zV laa ?_
    refine zV (laN (b := sYes) (by exact rfl) (by exact rfl)) ?_
    cases hy : sEq r.next.1 sYes with
    | true =>
      rw [show readT (n + 1) r = (.mk 3 1 .any .any [], r.next.2) by simp only [readT]; rw [hb, hy]; rfl]
      refine zV laa ?_;refine zs ?_;refine zs ?_;refine zV laA ?_;refine zV lab ?_;refine zn ?_;refine zcT ?_;refine zQ ?_;refine zV laq ?_;refine zM lah ?_;refine zE laf ?_;refine zn ?_;refine zq ?_;refine zQ ?_;refine zV laa ?_
      refine zV (laN (b := sYes) (by exact rfl) (by exact rfl)) ?_
      rw [hy]
      refine zn ?_;refine zcT ?_;refine zR ?_;refine zV lad ?_;refine zE lav ?_;refine zn ?_;refine zQ ?_;refine zV lai ?_;refine zE laf ?_;refine zn ?_;refine zre ?_
      refine rq ?_
      exact ret_tm (by exact .inr rfl) (by exact rfl) (by exact rfl) (fz := []) zo rfl tleaf (by exact rfl) (by exact wkRow_refl _)
    | false =>
    refine zV laa ?_;refine zI laa ?_
    refine zI (laN (b := sNo) (by exact rfl) (by exact rfl)) ?_
    cases hno : sEq r.next.1 sNo with
    | true =>
      rw [show readT (n + 1) r = (.mk 3 0 .any .any [], r.next.2) by simp only [readT]; rw [hb, hy, hno]; rfl]
      refine zV lax ?_;refine zV lab ?_;refine zn ?_;refine zcT ?_;refine zQ ?_;refine zV laq ?_;refine zM lah ?_;refine zE laf ?_;refine zn ?_;refine zq ?_;refine zQ ?_;refine zV laa ?_
      refine zV (laN (b := sYes) (by exact rfl) (by exact rfl)) ?_
      rw [hy]
      refine zn ?_;refine zcF ?_;refine zsk ?_;refine zQ ?_;refine zV lai ?_;refine zE laf ?_;refine zn ?_;refine zre ?_
      refine rq ?_
      exact ret_tm (by exact .inr rfl) (by exact rfl) (by exact rfl) (fz := []) zo rfl tleaf (by exact rfl) (by exact wkRow_refl _)
    | false =>
    refine zV lax ?_;refine zV lab ?_;refine zn ?_;refine zcF ?_;refine zQ ?_;refine zV laa ?_
    refine zV (lal (hasPrefix_a r.next.1 sHash) rfl (by refine zC ?_;refine zC ?_;exact rfl)) ?_
    cases hh : Lib.hasPrefix r.next.1.data.toList sHash.data.toList with
    | true =>
      have hsz := hash_size hh
      rw [show readT (n + 1) r = (.mk 1 (r.next.2.number (r.next.1.extract 1 r.next.1.size)).1 .any .any [], (r.next.2.number (r.next.1.extract 1 r.next.1.size)).2) by simp only [readT]; rw [hb, hy, hno, hh]; rfl]
      refine zV lab ?_;refine zn ?_;refine zcT ?_;refine zQ ?_;refine zV laa ?_;refine zV laa ?_
      refine zV (loc_sliceStr1 (by exact rfl) hsz) ?_
      refine zY (las (number_a (r.next.2) (r.next.1.extract 1 r.next.1.size) (by rw [ByteArray.size_extract]; omega)) rfl (by refine ⟨_, _, rfl, (by exact LeU.of_eq rfl zo), (by exact Exists.intro _ rfl), ?_⟩;refine zC ?_;exact rfl) (by exact ⟨rfl, zo⟩) (by exact rfl) (by simp [namesL]) (by exact ⟨⟨zo, zo, zo⟩, zo⟩)) ?_
      refine zV laq ?_;refine zE laf ?_;refine zn ?_;refine zre ?_
      refine rq ?_
      exact ret_tm (by exact .inr rfl) (by exact rfl) (by exact rfl) (fz := []) zo rfl tleaf (by exact rfl) (by exact wkRow_refl _)
    | false =>
    refine zV lab ?_;refine zn ?_;refine zcF ?_;refine zQ ?_;refine zV laa ?_
    refine zV (laO (b := sLp) (by exact rfl) (by exact rfl)) ?_
    cases hp : sEq r.next.1 sLp with
    | false =>
      rw [show readT (n + 1) r = (.mk 2 (r.next.2.number r.next.1).1 .any .any [], (r.next.2.number r.next.1).2) by simp only [readT]; rw [hb, hy, hno, hh, hp]; rfl]
      refine zV lab ?_;refine zn ?_;refine zcT ?_;refine zQ ?_;refine zV laa ?_;refine zV laa ?_
      refine zY (las (number_a (r.next.2) (r.next.1) (by omega)) rfl (by refine ⟨_, _, rfl, (by exact LeU.of_eq rfl zo), (by exact Exists.intro _ rfl), ?_⟩;refine zC ?_;exact rfl) (by exact ⟨rfl, zo⟩) (by exact rfl) (by simp [namesL]) (by exact ⟨⟨zo, zo, zo⟩, zo⟩)) ?_
      refine zV laq ?_;refine zE laf ?_;refine zn ?_;refine zre ?_
      refine rq ?_
      exact ret_tm (by exact .inr rfl) (by exact rfl) (by exact rfl) (fz := []) zo rfl tleaf (by exact rfl) (by exact wkRow_refl _)
    | true =>
    have hrd : readT (n + 1) r = match wFrom r.next.2.next.1 10 with | none => (Tm.zero, r.next.2.next.2.fail) | some k => readB (readT n) k r.next.2.next.2 := by
      simp only [readT]; rw [hb, hy, hno, hh, hp]; rfl
    rw [hrd]
    refine zV lab ?_;refine zn ?_;refine zcF ?_;refine zsk ?_;refine zQ ?_;refine zV laa ?_
    refine zY (las (next_a (r.next.2)) rfl (by refine ⟨_, _, rfl, (by exact LeU.of_eq rfl zo), (by exact Exists.intro _ rfl), ?_⟩;exact rfl) (by exact ⟨rfl, zo⟩) (by exact rfl) (by simp [namesL]) (by exact ⟨⟨zo, zo, zo⟩, zo⟩)) ?_
    refine zV lab ?_;refine zn ?_;refine zq ?_;refine zQ ?_;refine zV lao ?_;refine zV laa ?_;refine zn ?_;refine zbl ?_
    refine AW.gh (gh_lit [(0, .one (.ptr 1000 0)), (1, .one (.int .i64 ((n + 1 : Nat) : Int))), (4, .one (.ptr 4 0)), (5, .one (.str r.next.2.next.1)), (54, .agg wordsC), (55, .one (.int .i64 ((0 : Nat) : Int)))] [(1000, .obj (Rd.c r.next.2.next.2)), (4, .obj [.int .i64 0, .int .i64 0, .int .i64 0, .nilsl, .int .i64 0, .nilsl, .nilsl])] [] [] ⟨(zw rfl zo), (zw rfl zo), (zw rfl zo), (by exact WkU.of_eq rfl zo), (by exact WkU.of_eq rfl zo), (zw rfl zo), zo⟩ ⟨(by exact zb rfl), (by exact zb rfl), zo⟩ trivial zo rfl rfl ⟨⟨_, rfl⟩, zo, ⟨_, rfl⟩, zo, (by exact ⟨zo, zo, zo, zo, zo, zo, zo, zo, zo, zo, zo⟩), zo, zo⟩ ⟨(by exact ⟨zo, zo, zo⟩), (by exact ⟨zo, zo, zo, zo, zo, zo, zo, zo⟩), zo⟩) ?_
    refine AW.loop (fun m t' h => ∃ i : Nat, i ≤ 10 ∧ m = 10 - i ∧ wFrom r.next.2.next.1 10 = wFrom r.next.2.next.1 (10 - i) ∧ t' = tOfL [(0, .one (.ptr 1000 0)), (1, .one (.int .i64 ((n + 1 : Nat) : Int))), (4, .one (.ptr 4 0)), (5, .one (.str r.next.2.next.1)), (54, .agg wordsC), (55, .one (.int .i64 ((i : Nat) : Int)))] ∧ h = ofL [(1000, .obj (Rd.c r.next.2.next.2)), (4, .obj [.int .i64 0, .int .i64 0, .int .i64 0, .nilsl, .int .i64 0, .nilsl, .nilsl])]) 10 ⟨0, by omega, rfl, rfl, rfl, rfl⟩ ?_
    rintro m t' h ⟨i, hi, rfl, hinv, rfl, rfl⟩
    cases hlt : decide ((i : Int) < 10) with
    | false =>
      have hi4 : i = 10 := by have := of_decide_eq_false hlt; omega
      subst hi4
      rw [show wFrom r.next.2.next.1 10 = none by rw [hinv]; rfl]
      refine zQ ?_;refine zV lac ?_;refine zn ?_;refine zq ?_;refine zcF ?_;refine zex ?_;refine zQ ?_;refine zV laa ?_;refine zV lag ?_;refine zV lad ?_;refine zE lav ?_;refine zn ?_;refine zQ ?_;refine zV laq ?_;refine zE laf ?_;refine zn ?_;refine zre ?_
      refine rq ?_
      exact ret_tm (by exact .inr rfl) (by exact rfl) (by exact rfl) (fz := []) zo rfl tleaf (by exact rfl) (by exact wkRow_refl _)
    | true =>
    have hi4 : i < 10 := by have := of_decide_eq_true hlt; omega
    have hg := words_get hi4
    refine zQ ?_;refine zV lac ?_;refine zn ?_;refine zq ?_;refine zaT ?_;refine zsk ?_;refine zq ?_;refine zbl ?_;refine zQ ?_;refine zV laa ?_
    refine zV (loc_indexA (by exact rfl) (by exact rfl) hi4 hg) ?_
    refine zV lab ?_;refine zV lab ?_;refine zn ?_;refine zq ?_;refine zQ ?_;refine zV laa ?_
    refine zV (laN (b := sNil) (by exact rfl) (by exact rfl)) ?_
    cases h1 : sEq (wordsL.getD i sNil) sNil with
    | true =>
      have hk : wAt r.next.2.next.1 i = false := by unfold wAt; rw [h1]; rfl
      refine zV laa ?_;refine zs ?_;refine zs ?_;refine zs ?_;refine zV laA ?_;refine zn ?_;refine zcT ?_;refine zex ?_;refine zR ?_;refine zV laB ?_;refine zV laa ?_;refine zn ?_
      exact ⟨10 - (i + 1), _, _, by omega, (gh_lit [(0, .one (.ptr 1000 0)), (1, .one (.int .i64 ((n + 1 : Nat) : Int))), (4, .one (.ptr 4 0)), (5, .one (.str r.next.2.next.1)), (54, .agg wordsC), (55, .one (.int .i64 (((i + 1) : Nat) : Int)))] [(1000, .obj (Rd.c r.next.2.next.2)), (4, .obj [.int .i64 0, .int .i64 0, .int .i64 0, .nilsl, .int .i64 0, .nilsl, .nilsl])] [] [] ⟨(zw rfl zo), (zw rfl zo), (zw rfl zo), (by exact WkU.of_eq rfl zo), (by exact WkU.of_eq rfl zo), (zw rfl zo), zo⟩ ⟨(by exact zb rfl), (by exact zb rfl), zo⟩ trivial zo rfl rfl ⟨⟨_, rfl⟩, zo, ⟨_, rfl⟩, zo, (by exact ⟨zo, zo, zo, zo, zo, zo, zo, zo, zo, zo, zo⟩), zo, zo⟩ ⟨(by exact ⟨zo, zo, zo⟩), (by exact ⟨zo, zo, zo, zo, zo, zo, zo, zo⟩), zo⟩), i + 1, by omega, by omega, by rw [hinv, wFrom_step hi4, hk]; rfl, rfl, rfl⟩
    | false =>
    refine zV laa ?_;refine zI laa ?_;refine zI laa ?_
    refine zI (laO (by exact rfl) (by exact rfl)) ?_
    cases h2 : sEq (wordsL.getD i sNil) r.next.2.next.1 with
    | false =>
      have hk : wAt r.next.2.next.1 i = false := by unfold wAt; rw [h1, h2]; rfl
      refine zV lax ?_;refine zn ?_;refine zcT ?_;refine zex ?_;refine zR ?_;refine zV laB ?_;refine zV laa ?_;refine zn ?_
      exact ⟨10 - (i + 1), _, _, by omega, (gh_lit [(0, .one (.ptr 1000 0)), (1, .one (.int .i64 ((n + 1 : Nat) : Int))), (4, .one (.ptr 4 0)), (5, .one (.str r.next.2.next.1)), (54, .agg wordsC), (55, .one (.int .i64 (((i + 1) : Nat) : Int)))] [(1000, .obj (Rd.c r.next.2.next.2)), (4, .obj [.int .i64 0, .int .i64 0, .int .i64 0, .nilsl, .int .i64 0, .nilsl, .nilsl])] [] [] ⟨(zw rfl zo), (zw rfl zo), (zw rfl zo), (by exact WkU.of_eq rfl zo), (by exact WkU.of_eq rfl zo), (zw rfl zo), zo⟩ ⟨(by exact zb rfl), (by exact zb rfl), zo⟩ trivial zo rfl rfl ⟨⟨_, rfl⟩, zo, ⟨_, rfl⟩, zo, (by exact ⟨zo, zo, zo, zo, zo, zo, zo, zo, zo, zo, zo⟩), zo, zo⟩ ⟨(by exact ⟨zo, zo, zo⟩), (by exact ⟨zo, zo, zo, zo, zo, zo, zo, zo⟩), zo⟩), i + 1, by omega, by omega, by rw [hinv, wFrom_step hi4, hk]; rfl, rfl, rfl⟩
    | true =>
    have hk : wAt r.next.2.next.1 i = true := by unfold wAt; rw [h1, h2]; rfl
    rw [show wFrom r.next.2.next.1 10 = some i by rw [hinv, wFrom_step hi4, hk]; rfl]
    simp only
    have hk1 : ACalls Tryz.prog 49 [.one (.ptr 1000 0), .one (.int .i64 1)] [(1000, .obj (Rd.c (r.next.2.next.2)))] (readK 4 r.next.2.next.2).1.u [(1000, .obj (Rd.c ((readK 4 r.next.2.next.2).2)))] := kind_a 4 (by decide) r.next.2.next.2
    refine zV lax ?_;refine zn ?_;refine zcF ?_;refine zsk ?_;refine zQ ?_;refine zV laa ?_;refine zV laq ?_
    refine zM lah ?_
    refine zE laf ?_;refine zn ?_
    refine zq ?_
    refine AW.midB (fun t h => ∃ ty rd, (ty, rd) = (if ((i : Nat) : Int) == 7 || ((i : Nat) : Int) == 9 then readK 4 r.next.2.next.2 else (.any, r.next.2.next.2)) ∧ t = tOfL [(0, .one (.ptr 1000 0)), (1, .one (.int .i64 ((n + 1 : Nat) : Int))), (4, .one (.ptr 4 0)), (7, .one (.int .i64 ((i : Nat) : Int))), (9, .one (.ptr 9 0))] ∧ h = ofL [(1000, .obj (Rd.c rd)), (4, .obj [.int .i64 0, .int .i64 0, .int .i64 0, .nilsl, .int .i64 0, .nilsl, .nilsl]), (9, .obj [.int .i64 ((i : Nat) : Int), .int .i64 0, .int .i64 (Ty.k (ty)), slOf 2 (tyRows (Ty.l (ty))), .int .i64 0, .nilsl, .nilsl])]) ?_ ?_
    · cases h7 : (((i : Nat) : Int) == 7) with
      | true =>
        refine zQ ?_;refine zV laa ?_;refine zV lac ?_;refine zV laa ?_;refine zt ?_;refine zt ?_;refine zV (lam true) ?_;refine zn ?_;refine zcT ?_;refine zR ?_;refine zV laa ?_
        refine zY (las (hk1) rfl (by refine ⟨_, _, rfl, (by exact LeU.of_eq rfl zo), (by exact Exists.intro _ rfl), ?_⟩;refine zC ?_;exact rfl) (by exact ⟨rfl, zo⟩) (by exact rfl) (by simp [namesL]) (by exact ⟨⟨zo, zo, zo⟩, zo⟩)) ?_
        refine zV lad ?_;refine zE lav ?_;refine zn ?_
        exact ⟨_, _, (gh_lit [(0, .one (.ptr 1000 0)), (1, .one (.int .i64 ((n + 1 : Nat) : Int))), (4, .one (.ptr 4 0)), (7, .one (.int .i64 ((i : Nat) : Int))), (9, .one (.ptr 9 0))] [(1000, .obj (Rd.c (readK 4 r.next.2.next.2).2)), (4, .obj [.int .i64 0, .int .i64 0, .int .i64 0, .nilsl, .int .i64 0, .nilsl, .nilsl]), (9, .obj [.int .i64 ((i : Nat) : Int), .int .i64 0, .int .i64 (Ty.k ((readK 4 r.next.2.next.2).1)), slOf 2 (tyRows (Ty.l ((readK 4 r.next.2.next.2).1))), .int .i64 0, .nilsl, .nilsl])] [] [] ⟨(zw rfl zo), (zw rfl zo), (zw rfl zo), (zw rfl zo), (zw rfl zo), zo⟩ ⟨(by exact zb rfl), (by exact zb rfl), (by exact zb rfl), zo⟩ trivial zo rfl rfl ⟨⟨_, rfl⟩, zo, ⟨_, rfl⟩, zo, ⟨_, rfl⟩, zo⟩ ⟨(by exact ⟨zo, zo, zo⟩), (by exact ⟨zo, zo, zo, zo, zo, zo, zo, zo⟩), (by exact ⟨zo, zo, zo, zo, zo, zo, zo, zo⟩), zo⟩), (readK 4 r.next.2.next.2).1, (readK 4 r.next.2.next.2).2, rfl, rfl, rfl⟩
      | false =>
      cases h9 : (((i : Nat) : Int) == 9) with
      | true =>
        refine zQ ?_;refine zV laa ?_;refine zV lac ?_;refine zV laa ?_;refine zF laa ?_;refine zF lac ?_;refine zV (lam false) ?_;refine zn ?_;refine zaT ?_;refine zR ?_;refine zV laa ?_
        refine zY (las (hk1) rfl (by refine ⟨_, _, rfl, (by exact LeU.of_eq rfl zo), (by exact Exists.intro _ rfl), ?_⟩;refine zC ?_;exact rfl) (by exact ⟨rfl, zo⟩) (by exact rfl) (by simp [namesL]) (by exact ⟨⟨zo, zo, zo⟩, zo⟩)) ?_
        refine zV lad ?_;refine zE lav ?_;refine zn ?_
        exact ⟨_, _, (gh_lit [(0, .one (.ptr 1000 0)), (1, .one (.int .i64 ((n + 1 : Nat) : Int))), (4, .one (.ptr 4 0)), (7, .one (.int .i64 ((i : Nat) : Int))), (9, .one (.ptr 9 0))] [(1000, .obj (Rd.c (readK 4 r.next.2.next.2).2)), (4, .obj [.int .i64 0, .int .i64 0, .int .i64 0, .nilsl, .int .i64 0, .nilsl, .nilsl]), (9, .obj [.int .i64 ((i : Nat) : Int), .int .i64 0, .int .i64 (Ty.k ((readK 4 r.next.2.next.2).1)), slOf 2 (tyRows (Ty.l ((readK 4 r.next.2.next.2).1))), .int .i64 0, .nilsl, .nilsl])] [] [] ⟨(zw rfl zo), (zw rfl zo), (zw rfl zo), (zw rfl zo), (zw rfl zo), zo⟩ ⟨(by exact zb rfl), (by exact zb rfl), (by exact zb rfl), zo⟩ trivial zo rfl rfl ⟨⟨_, rfl⟩, zo, ⟨_, rfl⟩, zo, ⟨_, rfl⟩, zo⟩ ⟨(by exact ⟨zo, zo, zo⟩), (by exact ⟨zo, zo, zo, zo, zo, zo, zo, zo⟩), (by exact ⟨zo, zo, zo, zo, zo, zo, zo, zo⟩), zo⟩), (readK 4 r.next.2.next.2).1, (readK 4 r.next.2.next.2).2, rfl, rfl, rfl⟩
      | false =>
        refine zQ ?_;refine zV laa ?_;refine zV lac ?_;refine zV laa ?_;refine zF laa ?_;refine zF lac ?_;refine zV (lam false) ?_;refine zn ?_;refine zaF ?_;refine zsk ?_
        exact ⟨_, _, (gh_lit [(0, .one (.ptr 1000 0)), (1, .one (.int .i64 ((n + 1 : Nat) : Int))), (4, .one (.ptr 4 0)), (7, .one (.int .i64 ((i : Nat) : Int))), (9, .one (.ptr 9 0))] [(1000, .obj (Rd.c r.next.2.next.2)), (4, .obj [.int .i64 0, .int .i64 0, .int .i64 0, .nilsl, .int .i64 0, .nilsl, .nilsl]), (9, .obj [.int .i64 ((i : Nat) : Int), .int .i64 0, .int .i64 (Ty.k (.any)), slOf 2 (tyRows (Ty.l (.any))), .int .i64 0, .nilsl, .nilsl])] [] [] ⟨(zw rfl zo), (zw rfl zo), (zw rfl zo), (zw rfl zo), (zw rfl zo), zo⟩ ⟨(by exact zb rfl), (by exact zb rfl), (by (refine Or.inl ⟨_, rfl, ?_⟩; show All2 _ _ _; exact ⟨WkC.le (LeC.refl _), WkC.le (LeC.refl _), WkC.le (LeC.refl _), WkC.le (LeC.nil _), WkC.le (LeC.refl _), WkC.le (LeC.refl _), WkC.le (LeC.refl _), zo⟩)), zo⟩ trivial zo rfl rfl ⟨⟨_, rfl⟩, zo, ⟨_, rfl⟩, zo, ⟨_, rfl⟩, zo⟩ ⟨(by exact ⟨zo, zo, zo⟩), (by exact ⟨zo, zo, zo, zo, zo, zo, zo, zo⟩), (by exact ⟨zo, zo, zo, zo, zo, zo, zo, zo⟩), zo⟩), .any, r.next.2.next.2, rfl, rfl, rfl⟩
    · rintro t h ⟨ty, rd, htr, rfl, rfl⟩
      have hrb : readB (readT n) i r.next.2.next.2 = (.mk i 0 ty .any (readN (readT n) (arity i).toNat rd).1, (readN (readT n) (arity i).toNat rd).2.close) := by
        unfold readB; rw [← htr]
      have hrd : RdOk rd := by
        have : RdOk (ty, rd).2 := by
          rw [htr]
          split
          · exact readK_okR 4 _ hr2
          · exact hr2
        exact this
      obtain ⟨ar, har, ha3⟩ := arity_le hi4
      have har2 : (arity i).toNat = ar := by omega
      rw [hrb, har2]
      have hag := arity_get hi4
      rw [har] at hag
      refine zq ?_;refine zQ ?_;refine zV laa ?_;refine zV (loc_indexArrI rfl rfl (by omega) (by omega)) ?_;refine zV (laj rfl (by assumption)) ?_;refine zV laa ?_;refine zn ?_;refine zbl ?_
      refine AW.gh (gh_lit [(0, .one (.ptr 1000 0)), (1, .one (.int .i64 ((n + 1 : Nat) : Int))), (4, .one (.ptr 4 0)), (9, .one (.ptr 9 0)), (79, .one (.int .i64 ((ar : Nat) : Int))), (80, .one (.int .i64 ((0 : Nat) : Int)))] [(1000, .obj (Rd.c (readN (readT n) (0) rd).2)), (4, .obj [.int .i64 0, .int .i64 0, .int .i64 0, .nilsl, .int .i64 0, .nilsl, .nilsl]), (9, .obj [.int .i64 ((i : Nat) : Int), .int .i64 0, .int .i64 (Ty.k (ty)), slOf 2 (tyRows (Ty.l (ty))), .int .i64 0, .nilsl, .own 89 (0) (0)]), (89, .row 27 7 (0) (tmRows (readN (readT n) (0) rd).1))] [] [89] ⟨(zw rfl zo), (zw rfl zo), (zw rfl zo), (zw rfl zo), (zw rfl zo), (zw rfl zo), zo⟩ ⟨(by exact zb rfl), (by exact zb rfl), (by (refine Or.inl ⟨_, rfl, ?_⟩; show All2 _ _ _;exact ⟨WkC.le (LeC.refl _), WkC.le (LeC.refl _), WkC.le (LeC.refl _), WkC.le (LeC.refl _), WkC.le (LeC.refl _), WkC.le (LeC.refl _), WkC.nil (List.mem_cons_self ..), zo⟩)), (by exact Or.inr ⟨rfl, List.mem_cons_self .., _, _, by decide, rfl⟩), zo⟩ trivial ⟨rfl, zo⟩ rfl rfl ⟨⟨_, rfl⟩, zo, ⟨_, rfl⟩, ⟨_, rfl⟩, zo, zo, zo⟩ ⟨(by exact ⟨zo, zo, zo⟩), (by exact ⟨zo, zo, zo, zo, zo, zo, zo, zo⟩), (by exact ⟨zo, zo, zo, zo, zo, zo, ⟨_, _, _, _, rfl, Nat.le_refl _⟩, zo⟩), (okRows_closed (by exact rfl)), zo⟩) ?_
      refine AW.loop (fun m t h => ∃ j : Nat, j ≤ ar ∧ m = ar - j ∧ t = tOfL [(0, .one (.ptr 1000 0)), (1, .one (.int .i64 ((n + 1 : Nat) : Int))), (4, .one (.ptr 4 0)), (9, .one (.ptr 9 0)), (79, .one (.int .i64 ((ar : Nat) : Int))), (80, .one (.int .i64 ((j : Nat) : Int)))] ∧ h = ofL [(1000, .obj (Rd.c (readN (readT n) (j) rd).2)), (4, .obj [.int .i64 0, .int .i64 0, .int .i64 0, .nilsl, .int .i64 0, .nilsl, .nilsl]), (9, .obj [.int .i64 ((i : Nat) : Int), .int .i64 0, .int .i64 (Ty.k (ty)), slOf 2 (tyRows (Ty.l (ty))), .int .i64 0, .nilsl, .own 89 (j) (j)]), (89, .row 27 7 (j) (tmRows (readN (readT n) (j) rd).1))]) ar ⟨0, Nat.zero_le _, rfl, rfl, rfl⟩ ?_
      rintro m t h ⟨j, hj, rfl, rfl, rfl⟩
      have htk : (tmRows (readN (readT n) j rd).1).length = j := by rw [tmRows_length, (readN_ok (readT_ok n) j rd).2.1]
      cases hlt2 : decide ((j : Int) < ((ar : Nat) : Int)) with
      | false =>
        have hja : j = ar := by have := of_decide_eq_false hlt2; omega
        subst hja
        refine zQ ?_;refine zV lac ?_;refine zn ?_;refine zq ?_;refine zaF ?_;refine zex ?_;refine zQ ?_;refine zV laa ?_;refine zV laa ?_
        refine zY (las (next_a ((readN (readT n) j rd).2)) rfl (by refine ⟨_, _, rfl, (by exact LeU.of_eq rfl zo), (by exact Exists.intro _ rfl), ?_⟩;exact rfl) (by exact ⟨rfl, zo⟩) (by exact rfl) (by simp [namesL]) (by exact ⟨⟨zo, zo, zo⟩, zo⟩)) ?_
        skip
        refine zV (laO (b := sRp) (by exact rfl) (by exact rfl)) ?_
        cases hc : sEq (readN (readT n) j rd).2.next.1 sRp with
        | false =>
          refine zV laa ?_;refine zs ?_;refine zs ?_;refine zs ?_;refine zs ?_;refine zV laA ?_;refine zV lag ?_;refine zV lad ?_;refine zE lav ?_;refine zn ?_;refine zQ ?_;refine zV lai ?_;refine zE laf ?_;refine zn ?_;refine zre ?_
          refine rq ?_
          exact ret_tm (fz := [89]) (by exact .inr rfl) (by exact rfl) (by exact rfl) (by exact ⟨⟨_, rfl, closed_tmRows _⟩, zo⟩) rfl (by exact ⟨.le (.refl _), .le (.refl _), .le (.refl _), .le (.refl _), .le (.refl _), .le (.nil _), .row (List.mem_cons_self ..) rfl htk (LeRows.refl _), zo⟩) (by exact rfl) (by unfold Rd.close; rw [hc]; exact wkRow_refl _)
        | true =>
          refine zV laa ?_;refine zI laa ?_;refine zI lag ?_;refine zI lad ?_;refine zI lae ?_;refine zV lax ?_;refine zV lag ?_;refine zV lad ?_;refine zE lav ?_;refine zn ?_;refine zQ ?_;refine zV lai ?_;refine zE laf ?_;refine zn ?_;refine zre ?_
          refine rq ?_
          exact ret_tm (fz := [89]) (by exact .inr rfl) (by exact rfl) (by exact rfl) (by exact ⟨⟨_, rfl, closed_tmRows _⟩, zo⟩) rfl (by exact ⟨.le (.refl _), .le (.refl _), .le (.refl _), .le (.refl _), .le (.refl _), .le (.nil _), .row (List.mem_cons_self ..) rfl htk (LeRows.refl _), zo⟩) (by exact rfl) (by unfold Rd.close; rw [hc]; exact wkRow_refl _)
      | true =>
        have hja : j < ar := by have := of_decide_eq_true hlt2; omega
        have hsn := readN_snoc (readT n) j rd
        refine zQ ?_;refine zV lac ?_;refine zn ?_;refine zq ?_;refine zaT ?_;refine zsk ?_;refine zq ?_;refine zbl ?_;refine zRD ?_;refine zV lad ?_;refine zV lae ?_;refine zV laa ?_;refine zV laa ?_;refine zV laJ ?_
        refine zY (las (ih2 (readN (readT n) j rd).2 (readN_okR (readT_okR n) j rd hrd)) rfl (by refine ⟨_, _, rfl, (by exact LeU.of_eq rfl zo), (by exact Exists.intro _ rfl), ?_⟩;refine zC ?_;exact rfl) (by exact ⟨rfl, zo⟩) (by exact rfl) (by simp [namesL]) (by exact ⟨⟨zo, zo, zo⟩, zo⟩)) ?_
        refine zV laF ?_
        refine zM (laK (by exact rfl) (by exact rfl) (by exact rfl) (by exact .inl rfl) (by exact htk) (by exact ⟨rfl, zo⟩) (by simp only [List.length_cons, List.length_nil]; omega)) ?_
        have hrows : tmRows (readN (readT n) j rd).1 ++ [(readT n (readN (readT n) j rd).2).1.c] = tmRows (readN (readT n) (j + 1) rd).1 := by
          rw [hsn, tmRows_append]; simp [tmRows, Tm.cells_c]
        have he : (readT n (readN (readT n) j rd).2).2 = (readN (readT n) (j + 1) rd).2 := by rw [hsn]
        rw [hrows, he]
        refine zV lad ?_;refine zE lav ?_;refine znD ?_;refine zR ?_;refine zV laB ?_;refine zV laa ?_;refine zn ?_
        exact ⟨ar - (j + 1), _, _, by omega, (gh_lit [(0, .one (.ptr 1000 0)), (1, .one (.int .i64 ((n + 1 : Nat) : Int))), (4, .one (.ptr 4 0)), (9, .one (.ptr 9 0)), (79, .one (.int .i64 ((ar : Nat) : Int))), (80, .one (.int .i64 (((j + 1) : Nat) : Int)))] [(1000, .obj (Rd.c (readN (readT n) ((j + 1)) rd).2)), (4, .obj [.int .i64 0, .int .i64 0, .int .i64 0, .nilsl, .int .i64 0, .nilsl, .nilsl]), (9, .obj [.int .i64 ((i : Nat) : Int), .int .i64 0, .int .i64 (Ty.k (ty)), slOf 2 (tyRows (Ty.l (ty))), .int .i64 0, .nilsl, .own 89 ((j + 1)) ((j + 1))]), (89, .row 27 7 ((j + 1)) (tmRows (readN (readT n) ((j + 1)) rd).1))] [] [] ⟨(zw rfl zo), (zw rfl zo), (zw rfl zo), (zw rfl zo), (zw rfl zo), (zw rfl zo), zo⟩ ⟨(by exact zb rfl), (by exact zb rfl), (by exact zb rfl), (by exact zb rfl), zo⟩ trivial zo rfl rfl ⟨⟨_, rfl⟩, zo, ⟨_, rfl⟩, ⟨_, rfl⟩, zo, zo, zo⟩ ⟨(by exact ⟨zo, zo, zo⟩), (by exact ⟨zo, zo, zo, zo, zo, zo, zo, zo⟩), (by exact ⟨zo, zo, zo, zo, zo, zo, ⟨_, _, _, _, rfl, Nat.le_refl _⟩, zo⟩), (okRows_closed (by exact closed_tmRows _)), zo⟩), j + 1, by omega, rfl, rfl, rfl⟩
end Go.Proofs.YtnflnbdlgdjfmabGreatDoor
namespace Go.Proofs.YtnflnbdlgdjfmabGreatDoor
open Go.RowKit
set_option linter.unusedVariables false
set_option linter.unusedSimpArgs false
set_option maxRecDepth 100000
attribute [local irreducible] RunL AW LocOp ACalls Gh
theorem replaceK_len (old new : List UInt8) : ∀ (k : Nat) (s : List UInt8), (Lib.replaceK old new k s).length ≤ s.length + k * new.length
  | 0, s => by simp [Lib.replaceK]
  | k + 1, s => by
    simp only [Lib.replaceK]
    split
    · exact Nat.le_add_right _ _
    · have := replaceK_len old new k (s.drop ((Lib.index s old).toNat + old.length))
      simp only [List.length_append, List.length_take, List.length_drop] at this ⊢
      rw [Nat.succ_mul]
      omega
theorem replaceS_size (s old new : ByteArray) (h1 : 1 ≤ old.size) : (replaceS s old new).size ≤ s.size + s.size * new.size := by
  have hc : Lib.count s.data.toList old.data.toList ≤ s.size := Lib.countB_le old h1 s.size s (Nat.le_refl _)
  have hl : s.data.toList.length = s.size := Array.length_toList
  have hn : new.data.toList.length = new.size := Array.length_toList
  show (Lib.replaceAll s.data.toList old.data.toList new.data.toList).toArray.size ≤ _
  rw [List.size_toArray]
  unfold Lib.replaceAll Lib.replace
  split
  · omega
  · refine Nat.le_trans (replaceK_len _ _ _ _) ?_
    have h2 : Lib.replaceNum s.data.toList old.data.toList (-1) = Lib.count s.data.toList old.data.toList := by unfold Lib.replaceNum; rw [if_pos (.inl (by decide))]
    rw [h2, hl, hn]
    exact Nat.add_le_add_left (Nat.mul_le_mul_right _ hc) _
theorem spans_len (p : Nat → Bool) (s : ByteArray) : ∀ (f pos : Nat) (st : Option Nat) (acc : List (Nat × Nat)), (Lib.spansFromP p s f pos st acc).1.length ≤ acc.length + f
  | 0, _, _, acc => by simp [Lib.spansFromP]
  | f + 1, pos, st, acc => by
    simp only [Lib.spansFromP]
    split
    · split
      · split
        · rename_i a
          have := spans_len p s f (pos + (Utf8.decode s pos).2) none (acc ++ [(a, pos)]); simp at this; omega
        · have := spans_len p s f (pos + (Utf8.decode s pos).2) none acc; omega
      · split
        · rename_i a
          have := spans_len p s f (pos + (Utf8.decode s pos).2) (some a) acc; omega
        · have := spans_len p s f (pos + (Utf8.decode s pos).2) (some pos) acc; omega
    · simp
theorem fields_len (p : Nat → Bool) (s : ByteArray) : (Lib.goFieldsP p s).length ≤ s.size + 1 ∧ ∀ w ∈ Lib.goFieldsP p s, w.size ≤ s.size := by
  constructor
  · unfold Lib.goFieldsP Lib.spansOfP Lib.closeSpans
    have := spans_len p s s.size 0 none []
    rw [List.length_map]
    split
    · simp at this ⊢; omega
    · simp at this; omega
  · intro w hw
    unfold Lib.goFieldsP at hw
    obtain ⟨x, _, rfl⟩ := List.mem_map.1 hw
    rw [ByteArray.size_extract]; omega
def isGap (x : Nat) : Bool := x == 32 || x == 10
theorem gap_a (x : Nat) : ACalls Tryz.prog 30 [.one (.int .i32 x)] [] (.one (.bool (isGap x))) [] := by
  have e1 : ((x : Int) == 32) = (x == 32) := by rw [Bool.eq_iff_iff]; simp; omega
  have e2 : ((x : Int) == 10) = (x == 10) := by rw [Bool.eq_iff_iff]; simp; omega
  refine acalls_of_body Tryz.func30 rfl (by kernel_rfl) (Nat.le_of_ble_eq_true rfl) zo (by simp [namesL]) ?_
  unfold isGap
  cases h1 : (x == 32) with
  | true =>
    have h1' : ((x : Int) == 32) = true := e1.trans h1
    refine zQ ?_;refine zV lab ?_;refine zn ?_;refine zQ ?_;refine zV laa ?_;refine zV lac ?_;refine zV laa ?_;refine zt ?_;refine zt ?_;refine zV (lam true) ?_;refine zV lab ?_;refine zn ?_;refine zre ?_
    refine rq ?_
    exact ret_same (by exact .inr rfl) (by exact rfl) zo
  | false =>
    have h1' : ((x : Int) == 32) = false := e1.trans h1
    cases h2 : (x == 10) with
    | true =>
      have h2' : ((x : Int) == 10) = true := e2.trans h2
      refine zQ ?_;refine zV lab ?_;refine zn ?_;refine zQ ?_;refine zV laa ?_;refine zV lac ?_;refine zV laa ?_;refine zF laa ?_;refine zF lac ?_;refine zV (lam false) ?_;refine zV lab ?_;refine zn ?_;refine zre ?_
      rw [h2']
      refine rq ?_
      exact ret_same (by exact .inr rfl) (by exact rfl) zo
    | false =>
      have h2' : ((x : Int) == 10) = false := e2.trans h2
      refine zQ ?_;refine zV lab ?_;refine zn ?_;refine zQ ?_;refine zV laa ?_;refine zV lac ?_;refine zV laa ?_;refine zF laa ?_;refine zF lac ?_;refine zV (lam false) ?_;refine zV lab ?_;refine zn ?_;refine zre ?_
      rw [h2']
      refine rq ?_
      exact ret_same (by exact .inr rfl) (by exact rfl) zo
theorem gap_enter (args : Array Value) (w : World) : (callFunc 30 args).run Tryz.prog w = .ok (.enter 30 args) w := by
  have hb : ∃ c, Tryz.f30.body = some c := ⟨_, rfl⟩
  obtain ⟨c, hb⟩ := hb
  have h1 : Tryz.f30.name ≠ "runtime.NumGoroutine" := by
    have : (Tryz.f30.name == "runtime.NumGoroutine") = false := by kernel_rfl
    simpa using this
  simp [callFunc, Tryz.func30, h1, hb]
theorem words_ok {s : ByteArray} (h : ¬ 1000 < s.size) : RdOk ⟨wordsOf s, false⟩ ∧ (wordsOf s).length ≤ 20000 := by
  have h1 := replaceS_size s sLp ⟨#[32, 40, 32]⟩ (by decide)
  have h2 := replaceS_size (replaceS s sLp ⟨#[32, 40, 32]⟩) sRp ⟨#[32, 41, 32]⟩ (by decide)
  have e1 : (⟨#[32, 40, 32]⟩ : ByteArray).size = 3 := rfl
  have e2 : (⟨#[32, 41, 32]⟩ : ByteArray).size = 3 := rfl
  rw [e1] at h1
  rw [e2] at h2
  obtain ⟨h3, h4⟩ := fields_len isGap (replaceS (replaceS s sLp ⟨#[32, 40, 32]⟩) sRp ⟨#[32, 41, 32]⟩)
  refine ⟨fun w hw => ?_, ?_⟩
  · have := h4 w hw; omega
  · show (Lib.goFieldsP isGap _).length ≤ _; omega
theorem parse_ok (s : ByteArray) : TmOk (parse s).1 ∧ ((parse s).1.nodes : Int) ≤ 1048576 := by
  unfold parse
  split
  · exact ⟨zero_ok, by decide⟩
  · rename_i h
    simp only
    split
    · exact ⟨zero_ok, by decide⟩
    · rename_i hc
      obtain ⟨h1, h2⟩ := readT_ok 40 ⟨wordsOf s, false⟩
      obtain ⟨_, hw⟩ := words_ok h
      refine ⟨h1, ?_⟩
      simp only [Bool.or_eq_true, not_or, Bool.not_eq_true] at hc
      have := (h2 hc.1.1).1
      simp only at this ⊢
      omega
def parseU (s : ByteArray) : U := .tup [(parse s).1.u, .one (.int .i64 (parse s).2)]
theorem ret_pe {P : Program} {x z : Tmp} {tx : TypeId} {bx : Nat} {k : List C} {a : Tm} {n : Int} {e : Exit} {t : Nat → U} {h : Nat → Option Blk} [T : TAgg P tx 7] (he : e = .normal ∨ e = .ret) (hx : t x = .one (.ptr bx 0)) (hbx : h bx = some (.obj k)) (hk : All2 (WkC h [] []) k a.c) (hz : t z = .one (.int .i64 n)) : RetQ P #[.cell x tx, .tmp z] (.tup [a.u, .one (.int .i64 n)]) [] e t h :=
  ret_ct (O' := []) he hx hbx hk.length hz [] trivial hk (.le (.refl _)) trivial rfl ⟨⟨trivial, trivial, trivial, trivial, trivial, trivial, trivial, trivial⟩, trivial, trivial⟩ trivial rfl
set_option maxHeartbeats 8000000 in
theorem parse_a (s : ByteArray) : ACalls Tryz.prog 13 [.one (.str s)] [] (parseU s) [] := by
  refine acalls_of_body Tryz.func13 rfl (by kernel_rfl) (Nat.le_of_ble_eq_true rfl) zo (by simp [namesL]) ?_
  unfold parseU
  cases hlen : decide ((s.size : Int) > 1000) with
  | true =>
    have h1 : 1000 < s.size := by have := of_decide_eq_true hlen; omega
    rw [show parse s = (Tm.zero, 4) by unfold parse; rw [if_pos h1]]
    refine zQ ?_;refine zM lah ?_;refine zV lab ?_;refine zn ?_;refine zq ?_;refine zQ ?_;refine zV laa ?_;refine zV (loc_lenStr rfl) ?_;refine zV lac ?_;refine zn ?_;refine zaT ?_;refine zQ ?_;refine zV laq ?_;refine zE laf ?_;refine zV lab ?_;refine zn ?_;refine zre ?_
    refine rq ?_
    exact ret_pe (by exact .inr rfl) (by exact rfl) (by exact rfl) tleaf (by exact rfl)
  | false =>
    have h1 : ¬ 1000 < s.size := by have := of_decide_eq_false hlen; omega
    have z1 := replaceS_size s sLp ⟨#[32, 40, 32]⟩ (by decide)
    have z2 := replaceS_size (replaceS s sLp ⟨#[32, 40, 32]⟩) sRp ⟨#[32, 41, 32]⟩ (by decide)
    have e1 : (⟨#[32, 40, 32]⟩ : ByteArray).size = 3 := rfl
    have e2 : (⟨#[32, 41, 32]⟩ : ByteArray).size = 3 := rfl
    rw [e1] at z1
    rw [e2] at z2
    have c1 : Lib.countB s sLp ≤ s.size := Lib.countB_le sLp (by decide) s.size s (Nat.le_refl _)
    have c2 : Lib.countB (replaceS s sLp ⟨#[32, 40, 32]⟩) sRp ≤ (replaceS s sLp ⟨#[32, 40, 32]⟩).size := Lib.countB_le sRp (by decide) _ _ (Nat.le_refl _)
    obtain ⟨hrd, hwl⟩ := words_ok h1
    have hro := readT_ok 40 ⟨wordsOf s, false⟩
    generalize hp : readT 40 ⟨wordsOf s, false⟩ = p at hro
    have hparse : parse s = if p.2.bad || decide (0 < p.2.ws.length) || !p.1.Good 0 then (Tm.zero, 1) else (p.1, 0) := by unfold parse; rw [if_neg h1, hp]
    have hterm := term_a 40 (Nat.le_refl _) ⟨wordsOf s, false⟩ hrd
    rw [hp] at hterm
    refine zQ ?_;refine zM lah ?_;refine zV lab ?_;refine zn ?_;refine zq ?_;refine zQ ?_;refine zV laa ?_;refine zV (loc_lenStr rfl) ?_;refine zV lac ?_;refine zn ?_;refine zaF ?_;refine zsk ?_;refine zQ ?_;refine zV laa ?_
    refine zV (lal (replaceAll_a s sLp ⟨#[32, 40, 32]⟩ (by omega) (by decide) (by rw [e1]; omega)) rfl (by refine zC ?_;refine zC ?_;refine zC ?_;exact rfl)) ?_
    skip
    refine zV (lal (replaceAll_a (replaceS s sLp ⟨#[32, 40, 32]⟩) sRp ⟨#[32, 41, 32]⟩ (by omega) (by decide) (by rw [e2]; omega)) rfl (by refine zC ?_;refine zC ?_;refine zC ?_;exact rfl)) ?_
    refine zV lab ?_;refine zn ?_;refine zQ ?_;refine zV laa ?_
    refine zV (lal (fields_a 30 isGap (replaceS (replaceS s sLp ⟨#[32, 40, 32]⟩) sRp ⟨#[32, 41, 32]⟩) (by omega) (by kernel_rfl) gap_enter (fun x _ => gap_a x)) rfl (by refine zC ?_;refine zC ?_;exact rfl)) ?_
    refine zV laq ?_
    refine zM (laP 1000 (by exact rfl) (by exact rfl) (by exact rfl) (by exact rfl)) ?_
    refine zV lab ?_;refine zn ?_
    refine AW.gh (gh_lit [(2, .one (.ptr 2 0)), (3, .one (.int .i64 0)), (4, .one (.ptr 1000 0))] [(1000, .obj (Rd.c ⟨wordsOf s, false⟩)), (2, .obj [.int .i64 0, .int .i64 0, .int .i64 0, .nilsl, .int .i64 0, .nilsl, .nilsl])] [] [] ⟨(zw rfl zo), (zw rfl zo), (zw rfl zo), zo⟩ ⟨(by (refine Or.inl ⟨_, rfl, ?_⟩; show All2 _ _ _;exact ⟨WkC.le (LeC.slF (LeRows.refl _)), WkC.le (LeC.refl _), zo⟩)), (by exact zb rfl), zo⟩ trivial zo rfl rfl ⟨⟨_, rfl⟩, zo, ⟨_, rfl⟩, zo⟩ ⟨(by exact ⟨zo, zo, zo⟩), (by exact ⟨zo, zo, zo, zo, zo, zo, zo, zo⟩), zo⟩) ?_
    refine zQ ?_;refine zV laa ?_
    refine zY (las hterm rfl (by refine ⟨_, _, rfl, (by exact LeU.of_eq rfl zo), (by exact Exists.intro _ rfl), ?_⟩;refine zC ?_;exact rfl) (by exact ⟨rfl, zo⟩) (by exact rfl) (by simp [namesL]) (by exact ⟨⟨zo, zo, zo⟩, zo⟩)) ?_
    rw [hparse]
    cases hb : p.2.bad with
    | true =>
      rw [if_pos (by rfl)]
      refine zM lah ?_;refine zE laf ?_;refine zn ?_;refine zq ?_;refine zQ ?_;refine zV laa ?_;refine zV lag ?_;refine zV lad ?_;refine zV lae ?_;refine zV laa ?_;refine zt ?_;refine zt ?_;refine zt ?_;refine zt ?_;refine zt ?_;refine zt ?_;refine zV (lam true) ?_;refine zV laa ?_;refine zs ?_;refine zs ?_;refine zs ?_;refine zV laA ?_;refine zn ?_;refine zcT ?_;refine zQ ?_;refine zV laq ?_;refine zE laf ?_;refine zV lab ?_;refine zn ?_;refine zre ?_
      refine rq ?_
      exact ret_pe (by exact .inr rfl) (by exact rfl) (by exact rfl) tleaf (by exact rfl)
    | false =>
    cases hw : decide (0 < p.2.ws.length) with
    | true =>
      have hw' : decide ((((strRows p.2.ws).length : Nat) : Int) > 0) = true := by have := of_decide_eq_true hw; exact decide_eq_true (by simp only [strRows, List.length_map]; omega)
      rw [if_pos (by rfl)]
      refine zM lah ?_;refine zE laf ?_;refine zn ?_;refine zq ?_;refine zQ ?_;refine zV laa ?_;refine zV lag ?_;refine zV lad ?_;refine zV lae ?_;refine zV laa ?_;refine zF laa ?_;refine zF lag ?_;refine zF lad ?_;refine zF lae ?_;refine zF lay ?_;refine zF lac ?_;refine zV (lam false) ?_;refine zV laa ?_;refine zt ?_;refine zt ?_;refine zt ?_;refine zV (lam true) ?_;refine zn ?_;refine zcT ?_;refine zQ ?_;refine zV laq ?_;refine zE laf ?_;refine zV lab ?_;refine zn ?_;refine zre ?_
      refine rq ?_
      exact ret_pe (by exact .inr rfl) (by exact rfl) (by exact rfl) tleaf (by exact rfl)
    | false =>
      have hw' : decide ((((strRows p.2.ws).length : Nat) : Int) > 0) = false := by have := of_decide_eq_false hw; exact decide_eq_false (by simp only [strRows, List.length_map]; omega)
      have hn : p.1.nodes ≤ 1048576 := by have := (hro.2 hb).1; simp only at this; omega
      refine zM lah ?_;refine zE laf ?_;refine zn ?_;refine zq ?_;refine zQ ?_;refine zV laa ?_;refine zV lag ?_;refine zV lad ?_;refine zV lae ?_;refine zV laa ?_;refine zF laa ?_;refine zF lag ?_;refine zF lad ?_;refine zF lae ?_;refine zF lay ?_;refine zF lac ?_;refine zV (lam false) ?_;refine zV laa ?_;refine zF lai ?_
      refine zF (lal (tGood_a p.1 0 hro.1 hn) rfl (by refine zC7 ?_;refine zC ?_;exact rfl)) ?_
      cases hg : p.1.Good 0 with
      | true =>
        rw [if_neg (by decide)]
        refine zF laz ?_;refine zV (lam false) ?_;refine zn ?_;refine zcF ?_;refine zsk ?_;refine zQ ?_;refine zV lai ?_;refine zE laf ?_;refine zV lab ?_;refine zn ?_;refine zre ?_
        refine rq ?_
        exact ret_pe (by exact .inr rfl) (by exact rfl) (by exact rfl) (by exact wkRow_refl _) (by exact rfl)
      | false =>
        rw [if_pos (by rfl)]
        refine zF laz ?_;refine zV (lam false) ?_;refine zn ?_;refine zcT ?_;refine zQ ?_;refine zV laq ?_;refine zE laf ?_;refine zV lab ?_;refine zn ?_;refine zre ?_
        refine rq ?_
        exact ret_pe (by exact .inr rfl) (by exact rfl) (by exact rfl) tleaf (by exact rfl)
end Go.Proofs.YtnflnbdlgdjfmabGreatDoor
namespace Go.Proofs.YtnflnbdlgdjfmabGreatDoor
open Go.RowKit
set_option linter.unusedVariables false
set_option linter.unusedSimpArgs false
set_option maxRecDepth 100000
attribute [local irreducible] RunL AW LocOp ACalls Gh
def TextIs (s : ByteArray) (F : Int) (o : Out) (e : Int) : Prop := ((parse s).2 ≠ 0 ∧ o = .zero ∧ e = (parse s).2) ∨ ((parse s).2 = 0 ∧ RunIs (parse s).1 F o e)
theorem ret_oe {P : Program} {x z : Tmp} {tx : TypeId} {bx : Nat} {k : List C} {o : Out} {n : Int} {e : Exit} {t : Nat → U} {h : Nat → Option Blk} [T : TAgg P tx 3] (he : e = .normal ∨ e = .ret) (hx : t x = .one (.ptr bx 0)) (hbx : h bx = some (.obj k)) (hk : k = o.c) (hz : t z = .one (.int .i64 n)) : RetQ P #[.cell x tx, .tmp z] (.tup [o.u, .one (.int .i64 n)]) [] e t h := by
  subst hk
  exact ret_ct (O' := []) he hx hbx rfl hz [] trivial (wkRow_refl _) (.le (.refl _)) zo rfl ⟨⟨zo, zo, zo, zo⟩, zo, zo⟩ trivial rfl
end Go.Proofs.YtnflnbdlgdjfmabGreatDoor
namespace Go.Proofs.YtnflnbdlgdjfmabGreatDoor
open Go.RowKit
set_option linter.unusedVariables false
set_option linter.unusedSimpArgs false
set_option maxRecDepth 100000
attribute [local irreducible] RunL AW LocOp ACalls Gh
theorem good_wf : ∀ (a : Tm) (ar ow : Int), a.good ar ow = true → WfT a := fun a => by
  induction a using Tm.ind' with
  | h a ih =>
  intro ar ow hg
  obtain ⟨k, n, t, f, l⟩ := a
  rcases good_cases hg with ⟨e, el, hn, _⟩ | ⟨e, el, hn, _⟩ | ⟨e, el, hn, _⟩ | ⟨e, _, _, p, q, el, gp, gq⟩ | ⟨e, _, _, p, q, s, el, gp, gq, gs⟩ | ⟨e, _, ht, p, el, gp⟩ | ⟨e, _, ht, p, el, gp⟩ <;> simp only [Tm.k_mk, Tm.n_mk, Tm.t_mk, Tm.f_mk, Tm.l_mk] at *
  · subst e el; exact .ref hn
  · subst e el; exact .lit hn
  · subst e el; exact .says hn
  · subst el; exact .bin (by omega) (ih p (by simp) _ _ gp) (ih q (by simp) _ _ gq)
  · subst e el; exact .ife (ih p (by simp) _ _ gp) (ih q (by simp) _ _ gq) (ih s (by simp) _ _ gs)
  · subst e el; exact .fn (ih p (by simp) _ _ gp)
  · subst e el; exact .asc (ih p (by simp) _ _ gp)
theorem wf_erase {a : Tm} (h : WfT a) : WfT (eraseT a) := by
  induction h with
  | ref h => rw [erase_node (by decide) (by decide)]; exact .ref h
  | lit h => rw [erase_node (by decide) (by decide)]; exact .lit h
  | says h => rw [erase_node (by decide) (by decide)]; exact .says h
  | fn _ ih => rw [erase_node (by decide) (by decide)]; exact .fn ih
  | asc _ ih => rw [erase_as]; exact ih
  | cast _ _ _ ih => rw [erase_cast]; exact ih
  | ife _ _ _ iha ihb ihc => rw [erase_node (by decide) (by decide)]; exact .ife iha ihb ihc
  | bin hk _ _ iha ihb => rw [erase_node (by omega) (by omega)]; exact .bin hk iha ihb
def BareIs (a : Tm) (F : Int) (o : Out) (e : Int) : Prop := (a.Good 0 = false ∧ o = .zero ∧ e = 1) ∨ (a.Good 0 = true ∧ BeginIs (eraseT a) F o e)
theorem bare_ex (a : Tm) (F : Int) : ∃ o e, BareIs a F o e := by
  cases hg : a.Good 0 with
  | false => exact ⟨_, _, .inl ⟨hg, rfl, rfl⟩⟩
  | true =>
    obtain ⟨o, e, h⟩ := begin_ex (eraseT a) (wf_erase (good_wf a 0 0 (good_of_Good hg))) F
    exact ⟨o, e, .inr ⟨hg, h⟩⟩
theorem erase_low {a : Tm} (hok : TmOk a) (hg : a.Good 0 = true) : Low (eraseT a) := by
  obtain ⟨h1, h2, h3⟩ := erase_nb a 0 0 (good_of_Good hg) hok.nb
  have hsz : a.nodes ≤ 40 := by unfold Tm.Good at hg; simp at hg; have := hg.1; omega
  exact ⟨h1, fun f r n hf he => stack0_le h2 (by omega) hf he⟩
set_option maxHeartbeats 4000000 in
theorem bare_a (a : Tm) (hok : TmOk a) (hsz : a.nodes ≤ 1048576) (F : Int) (o : Out) (e : Int) (h : BareIs a F o e) : ACalls Tryz.prog 9 [a.u, .one (.int .i64 F)] [] (.tup [o.u, .one (.int .i64 e)]) [] := by
  have hgd := tGood_a a 0 hok hsz
  refine acalls_of_body Tryz.func9 rfl (by kernel_rfl) (Nat.le_of_ble_eq_true rfl) zo (by simp [namesL]) ?_
  refine zQ ?_;refine zM lan ?_;refine zM lah ?_;refine zV lab ?_;refine zn ?_;refine zq ?_;refine zQ ?_;refine zV lai ?_
  refine zV (lal hgd rfl (by refine zC7 ?_;refine zC ?_;exact rfl)) ?_
  rcases h with ⟨hg, rfl, rfl⟩ | ⟨hg, hb⟩
  · rw [hg]
    refine zV laz ?_;refine zn ?_;refine zcT ?_;refine zQ ?_;refine zV laq ?_;refine zE laf ?_;refine zV lab ?_;refine zn ?_;refine zre ?_
    refine rq ?_
    exact ret_oe (by exact .inr rfl) (by exact rfl) (by exact rfl) rfl (by exact rfl)
  · rw [hg]
    refine zV laz ?_;refine zn ?_;refine zcF ?_;refine zsk ?_;refine zQ ?_;refine zV lai ?_
    refine zV (lal (erase_a a hsz) rfl (by refine zC7 ?_;exact rfl)) ?_
    refine zV laa ?_
    refine zV (lal (begin_a (eraseT a) (erase_low hok hg) F o e hb) rfl (by refine zC7 ?_;refine zC ?_;exact rfl)) ?_
    refine zV lar ?_;refine zV lat ?_;refine zE laf ?_;refine zV lab ?_;refine zn ?_;refine zre ?_
    refine rq ?_
    exact ret_oe (by exact .inr rfl) (by exact rfl) (by exact rfl) rfl (by exact rfl)
end Go.Proofs.YtnflnbdlgdjfmabGreatDoor
namespace Go.Proofs.YtnflnbdlgdjfmabGreatDoor
open Go.RowKit
set_option linter.unusedVariables false
set_option linter.unusedSimpArgs false
set_option maxRecDepth 100000
attribute [local irreducible] RunL AW LocOp ACalls Gh
theorem eva_top {x : Tm} {f : Nat} {r : Res} (h : Ev (.tm x []) f r) (hw : WfT x) (hn : x.nodes ≤ 80) (hi : IC (.tm x [])) (hf : f ≤ 100) (g : Nat) : EvA g x [] f r :=
  ev_a g h ⟨hw, (fun v hv => by cases hv), by simp only [List.length_nil]; omega⟩ hi (by omega)
theorem envT0 : EnvT [] [] := ⟨Nat.le_refl _, fun i v ρ h => by simp at h⟩
set_option maxHeartbeats 4000000 in
theorem runTerm_a (a : Tm) (hok : TmOk a) (hdp : TmDp a) (hsz : a.nodes ≤ 1048576) (F : Int) (o : Out) (e : Int) (h : RunIs a F o e) : ACalls Tryz.prog 8 [a.u, .one (.int .i64 F)] [] (.tup [o.u, .one (.int .i64 e)]) [] := by
  have hch := checkTerm_a a hok hdp hsz
  refine acalls_of_body Tryz.func8 rfl (by kernel_rfl) (Nat.le_of_ble_eq_true rfl) zo (by simp [namesL]) ?_
  refine zQ ?_;refine zM lan ?_;refine zM lah ?_;refine zV lab ?_;refine zn ?_;refine zQ ?_;refine zV lai ?_
  rcases h with ⟨hg, rfl, rfl⟩ | ⟨hg, hw, rfl, rfl⟩ | ⟨x, k, hg, hw, hb⟩
  · rw [show checkU a = errU 1 by unfold checkU; rw [hg]; rfl] at hch
    unfold errU at hch
    refine zV (lal (hch) rfl (by refine zC7 ?_;exact rfl)) ?_
    refine zV laE ?_;refine zV lar ?_;refine zV lar ?_;refine zV lat ?_;refine zM lah ?_;refine zM lah ?_;refine zE laf ?_;refine zE laf ?_;refine zV lab ?_;refine zn ?_;refine zq ?_;refine zQ ?_;refine zV laa ?_;refine zV lac ?_;refine zV laa ?_;refine zs ?_;refine zs ?_;refine zs ?_;refine RunL.skip (.inr ⟨rfl, _, rfl, rfl⟩) ?_;refine RunL.skip (.inr ⟨rfl, _, rfl, rfl⟩) ?_;refine zs ?_;refine zV lax ?_;refine zn ?_;refine zcF ?_;refine zsk ?_;refine zq ?_;refine zQ ?_;refine zV laa ?_;refine zV lac ?_;refine zn ?_;refine zcT ?_;refine zQ ?_;refine zV laq ?_;refine zV laa ?_;refine zE laf ?_;refine zV lab ?_;refine zn ?_;refine zre ?_
    refine rq ?_;exact ret_oe (by exact .inr rfl) (by exact rfl) (by exact rfl) rfl (by exact rfl)
  · rw [show checkU a = errU 2 by unfold checkU; rw [hg, hw]; rfl] at hch
    unfold errU at hch
    refine zV (lal (hch) rfl (by refine zC7 ?_;exact rfl)) ?_
    refine zV laE ?_;refine zV lar ?_;refine zV lar ?_;refine zV lat ?_;refine zM lah ?_;refine zM lah ?_;refine zE laf ?_;refine zE laf ?_;refine zV lab ?_;refine zn ?_;refine zq ?_;refine zQ ?_;refine zV laa ?_;refine zV lac ?_;refine zV laa ?_;refine zs ?_;refine zs ?_;refine zs ?_;refine RunL.skip (.inr ⟨rfl, _, rfl, rfl⟩) ?_;refine RunL.skip (.inr ⟨rfl, _, rfl, rfl⟩) ?_;refine zs ?_;refine zV lax ?_;refine zn ?_;refine zcF ?_;refine zsk ?_;refine zq ?_;refine zQ ?_;refine zV laa ?_;refine zV lac ?_;refine zn ?_;refine zcT ?_;refine zQ ?_;refine zV laq ?_;refine zV laa ?_;refine zE laf ?_;refine zV lab ?_;refine zn ?_;refine zre ?_
    refine rq ?_;exact ret_oe (by exact .inr rfl) (by exact rfl) (by exact rfl) rfl (by exact rfl)
  · rw [show checkU a = walkU (some (x, k)) by unfold checkU; rw [hg, hw]; rfl] at hch
    unfold walkU at hch
    simp only at hch
    rcases hb with ⟨hF, rfl, rfl⟩ | ⟨f, rfl, hf, r, hr, rfl, rfl⟩
    · cases h0 : decide (F < 0) with
      | true =>
        refine zV (lal (hch) rfl (by refine zC7 ?_;exact rfl)) ?_
        refine zV laE ?_;refine zV lar ?_;refine zV lar ?_;refine zV lat ?_;refine zM lah ?_;refine zM lah ?_;refine zE laf ?_;refine zE laf ?_;refine zV lab ?_;refine zn ?_;refine zq ?_;refine zQ ?_;refine zV laa ?_;refine zV lac ?_;refine zV laa ?_;refine zI laa ?_;refine zI lac ?_;refine zI laa ?_;refine zt ?_;refine zt ?_;refine zI (lam true) ?_;refine zV laA ?_;refine zn ?_;refine zcT ?_;refine zR ?_;refine zV lab ?_;refine zn ?_;refine zq ?_;refine zQ ?_;refine zV laa ?_;refine zV lac ?_;refine zn ?_;refine zcT ?_;refine zQ ?_;refine zV laq ?_;refine zV laa ?_;refine zE laf ?_;refine zV lab ?_;refine zn ?_;refine zre ?_
        refine rq ?_;exact ret_oe (by exact .inr rfl) (by exact rfl) (by exact rfl) rfl (by exact rfl)
      | false =>
        have h1 : decide (F > 100) = true := by simp at h0 ⊢; omega
        refine zV (lal (hch) rfl (by refine zC7 ?_;exact rfl)) ?_
        refine zV laE ?_;refine zV lar ?_;refine zV lar ?_;refine zV lat ?_;refine zM lah ?_;refine zM lah ?_;refine zE laf ?_;refine zE laf ?_;refine zV lab ?_;refine zn ?_;refine zq ?_;refine zQ ?_;refine zV laa ?_;refine zV lac ?_;refine zV laa ?_;refine zI laa ?_;refine zI lac ?_;refine zI laa ?_;refine zF laa ?_;refine zF lac ?_;refine zI (lam false) ?_;refine zV laA ?_;refine zn ?_;refine zaT ?_;refine zR ?_;refine zV lab ?_;refine zn ?_;refine zq ?_;refine zQ ?_;refine zV laa ?_;refine zV lac ?_;refine zn ?_;refine zcT ?_;refine zQ ?_;refine zV laq ?_;refine zV laa ?_;refine zE laf ?_;refine zV lab ?_;refine zn ?_;refine zre ?_
        refine rq ?_;exact ret_oe (by exact .inr rfl) (by exact rfl) (by exact rfl) rfl (by exact rfl)
    · have h0 : decide (((f : Nat) : Int) < 0) = false := by simp
      have h1 : decide (((f : Nat) : Int) > 100) = false := by simp; omega
      have hT := (walk_low hok hg hw).2.1
      have hoc := outcome_a x f r (eva_top hr hT.wf (walk_small hg hw).2 (.inl ⟨k, [], envT0, hT⟩) hf) (ev_o hr)
      refine zV (lal (hch) rfl (by refine zC7 ?_;exact rfl)) ?_
      refine zV laE ?_;refine zV lar ?_;refine zV lar ?_;refine zV lat ?_;refine zM lah ?_;refine zM lah ?_;refine zE laf ?_;refine zE laf ?_;refine zV lab ?_;refine zn ?_;refine zq ?_;refine zQ ?_;refine zV laa ?_;refine zV lac ?_;refine zV laa ?_;refine zI laa ?_;refine zI lac ?_;refine zI laa ?_;refine zI laa ?_;refine zI lac ?_;refine zI lax ?_;refine zV laA ?_;refine zn ?_;refine zaF ?_;refine zsk ?_;refine zq ?_;refine zQ ?_;refine zV laa ?_;refine zV lac ?_;refine zn ?_;refine zcF ?_;refine zsk ?_;refine zQ ?_;refine zV lai ?_;refine zV laa ?_
      refine zV (lal (hoc) rfl (by refine zC7 ?_;refine zC ?_;exact rfl)) ?_
      refine zE laf ?_;refine zV lab ?_;refine zn ?_;refine zre ?_
      refine rq ?_;exact ret_oe (by exact .inr rfl) (by exact rfl) (by exact rfl) rfl (by exact rfl)
set_option maxHeartbeats 4000000 in
theorem bareTerm_a (a : Tm) (hok : TmOk a) (hdp : TmDp a) (hsz : a.nodes ≤ 1048576) (F : Int) (o : Out) (e : Int) (h : BareIs a F o e) : ACalls Tryz.prog 10 [a.u, .one (.int .i64 F)] [] (.tup [o.u, .one (.int .i64 e)]) [] := by
  have hit := isTerm_a a 0 hok hdp hsz
  refine acalls_of_body Tryz.func10 rfl (by kernel_rfl) (Nat.le_of_ble_eq_true rfl) zo (by simp [namesL]) ?_
  refine zQ ?_;refine zM lan ?_;refine zM lah ?_;refine zV lab ?_;refine zn ?_;refine zq ?_;refine zQ ?_;refine zV lai ?_
  rcases h with ⟨hg, rfl, rfl⟩ | ⟨hg, hb⟩
  · rw [hg] at hit
    refine zV (lal (hit) rfl (by refine zC7 ?_;refine zC ?_;exact rfl)) ?_
    refine zV laz ?_;refine zn ?_;refine zcT ?_;refine zQ ?_;refine zV laq ?_;refine zE laf ?_;refine zV lab ?_;refine zn ?_;refine zre ?_
    refine rq ?_;exact ret_oe (by exact .inr rfl) (by exact rfl) (by exact rfl) rfl (by exact rfl)
  · rw [hg] at hit
    rcases hb with ⟨hF, rfl, rfl⟩ | ⟨f, rfl, hf, r, hr, rfl, rfl⟩
    · cases h0 : decide (F < 0) with
      | true =>
        refine zV (lal (hit) rfl (by refine zC7 ?_;refine zC ?_;exact rfl)) ?_
        refine zV laz ?_;refine zn ?_;refine zcF ?_;refine zsk ?_;refine zq ?_;refine zQ ?_;refine zV laa ?_;refine zV lac ?_;refine zV laa ?_;refine zt ?_;refine zt ?_;refine zV (lam true) ?_;refine zn ?_;refine zcT ?_;refine zQ ?_;refine zV laq ?_;refine zE laf ?_;refine zV lab ?_;refine zn ?_;refine zre ?_
        refine rq ?_;exact ret_oe (by exact .inr rfl) (by exact rfl) (by exact rfl) rfl (by exact rfl)
      | false =>
        have h1 : decide (F > 100) = true := by simp at h0 ⊢; omega
        refine zV (lal (hit) rfl (by refine zC7 ?_;refine zC ?_;exact rfl)) ?_
        refine zV laz ?_;refine zn ?_;refine zcF ?_;refine zsk ?_;refine zq ?_;refine zQ ?_;refine zV laa ?_;refine zV lac ?_;refine zV laa ?_;refine zF laa ?_;refine zF lac ?_;refine zV (lam false) ?_;refine zn ?_;refine zaT ?_;refine zQ ?_;refine zV laq ?_;refine zE laf ?_;refine zV lab ?_;refine zn ?_;refine zre ?_
        refine rq ?_;exact ret_oe (by exact .inr rfl) (by exact rfl) (by exact rfl) rfl (by exact rfl)
    · have h0 : decide (((f : Nat) : Int) < 0) = false := by simp
      have h1 : decide (((f : Nat) : Int) > 100) = false := by simp; omega
      obtain ⟨g1, g2, g3⟩ := erase_nb a 0 0 (good_of_Good hg) hok.nb
      have hsm : a.nodes ≤ 40 := by unfold Tm.Good at hg; simp at hg; have := hg.1; omega
      have hoc := outcome_a (eraseT a) f r (eva_top hr (wf_erase (good_wf a 0 0 (good_of_Good hg))) (by omega) (.inr ⟨g2, (fun v hv => by cases hv), by omega⟩) hf) (ev_o hr)
      refine zV (lal (hit) rfl (by refine zC7 ?_;refine zC ?_;exact rfl)) ?_
      refine zV laz ?_;refine zn ?_;refine zcF ?_;refine zsk ?_;refine zq ?_;refine zQ ?_;refine zV laa ?_;refine zV lac ?_;refine zV laa ?_;refine zI laa ?_;refine zI lac ?_;refine zV lax ?_;refine zn ?_;refine zaF ?_;refine zsk ?_;refine zQ ?_;refine zV lai ?_
      refine zV (lal (eraseOf_a a hsz) rfl (by refine zC7 ?_;exact rfl)) ?_
      refine zV laa ?_
      refine zV (lal (hoc) rfl (by refine zC7 ?_;refine zC ?_;exact rfl)) ?_
      refine zE laf ?_;refine zV lab ?_;refine zn ?_;refine zre ?_
      refine rq ?_;exact ret_oe (by exact .inr rfl) (by exact rfl) (by exact rfl) rfl (by exact rfl)
end Go.Proofs.YtnflnbdlgdjfmabGreatDoor
namespace Go.Proofs.YtnflnbdlgdjfmabGreatDoor
open Go.RowKit
set_option linter.unusedVariables false
set_option linter.unusedSimpArgs false
set_option maxRecDepth 100000
attribute [local irreducible] RunL AW LocOp ACalls Gh
set_option maxHeartbeats 4000000 in
theorem rtext_a (s : ByteArray) (F : Int) (o : Out) (e : Int) (h : TextIs s F o e) : ACalls Tryz.prog 16 [.one (.str s), .one (.int .i64 F)] [] (.tup [o.u, .one (.int .i64 e)]) [] := by
  obtain ⟨hok, hn⟩ := parse_ok s
  have hp := parse_a s
  unfold parseU at hp
  unfold TextIs at h
  generalize parse s = q at hp h hok hn
  obtain ⟨a, pe⟩ := q
  simp only at hp h hok hn
  refine acalls_of_body Tryz.func16 rfl (by kernel_rfl) (Nat.le_of_ble_eq_true rfl) zo (by simp [namesL]) ?_
  refine zQ ?_;refine zM lah ?_;refine zV lab ?_;refine zn ?_;refine zQ ?_;refine zV laa ?_
  refine zV (lal hp rfl (by refine zC ?_;exact rfl)) ?_
  rcases h with ⟨h0, rfl, rfl⟩ | ⟨rfl, hr⟩
  · have h0' : (e != 0) = true := by simpa using h0
    refine zV laE ?_;refine zV lar ?_;refine zV lat ?_;refine zM lah ?_;refine zE laf ?_;refine zV lab ?_;refine zn ?_;refine zq ?_;refine zQ ?_;refine zV laa ?_;refine zV lac ?_;refine zn ?_;refine zaT ?_;refine zQ ?_;refine zV laq ?_;refine zV laa ?_;refine zE laf ?_;refine zV lab ?_;refine zn ?_;refine zre ?_
    refine rq ?_
    exact ret_oe (by exact .inr rfl) (by exact rfl) (by exact rfl) rfl (by exact rfl)
  · refine zV laE ?_; refine zV lar ?_; refine zV lat ?_; refine zM lah ?_; refine zE laf ?_; refine zV lab ?_; refine zn ?_; refine zq ?_; refine zQ ?_; refine zV laa ?_; refine zV lac ?_; refine zn ?_; refine zcF ?_; refine zsk ?_; refine zQ ?_; refine zV lai ?_; refine zV laa ?_
    refine zV (lal (run_a a hok (by omega) F o e hr) rfl (by refine zC7 ?_;refine zC ?_;exact rfl)) ?_
    refine zV lar ?_;refine zV lat ?_;refine zE laf ?_;refine zV lab ?_;refine zn ?_;refine zre ?_
    refine rq ?_
    exact ret_oe (by exact .inr rfl) (by exact rfl) (by exact rfl) rfl (by exact rfl)
def runsS : ByteArray := ⟨#[40, 99, 97, 108, 108, 32, 40, 102, 117, 110, 32, 97, 110, 121, 32, 40, 97, 100, 100, 32, 35, 48, 32, 49, 41, 41, 32, 40, 97, 115, 32, 97, 110, 121, 32, 54, 41, 41]⟩
def runsT : Tm := .mk 8 0 .any .any [.mk 7 0 .any .any [.mk 4 0 .any .any [.mk 1 0 .any .any [], .mk 2 1 .any .any []]], .mk 9 0 .any .any [.mk 2 6 .any .any []]]
def runsX : Tm := .mk 8 0 .any .any [.mk 7 0 .any .any [.mk 4 0 .any .any [.mk 10 3 .num .any [.mk 1 0 .any .any []], .mk 2 1 .any .any []]], .mk 9 0 .any .any [.mk 10 6 .any .num [.mk 2 6 .any .any []]]]
theorem runs_parse : parse runsS = (runsT, 0) := by kernel_rfl
theorem runs_good : runsT.Good 0 = true := by kernel_rfl
theorem runs_walk : walkT runsT [] 0 = some (runsX, .num) := by kernel_rfl
theorem runs_ev : Ev (.tm runsX []) 5 (.ok (.num 7) 4) := by
  have h1 : Ev (.tm (.mk 9 0 .any .any [.mk 10 6 .any .num [.mk 2 6 .any .any []]]) []) 5 (.ok (.tag (.num 6) .num) 5) := by
    have h := Ev.cast (n := 6) (t := .any) (f := .num) (l := []) (Ev.lit (n := 6) (t := .any) (f := .any) (l := []) (env := []) (F := 5))
    rw [castR_inl (u := .tag (.num 6) .num) (by kernel_rfl)] at h
    exact .asc h
  have h2 : Ev (.tm (.mk 10 3 .num .any [.mk 1 0 .any .any []]) [.tag (.num 6) .num]) 4 (.ok (.num 6) 4) := by
    have h := Ev.cast (n := 3) (t := .num) (f := .any) (l := []) (Ev.ref (n := 0) (t := .any) (f := .any) (l := []) (env := [.tag (.num 6) .num]) (F := 4) rfl)
    rw [castR_inl (u := .num 6) (by kernel_rfl)] at h
    exact h
  exact .call .fn h1 (.clo (.twoV (.inl rfl) h2 .lit (by kernel_rfl)))
theorem runs_text : TextIs runsS 5 ⟨1, 7, false⟩ 0 := by
  refine .inr ⟨by rw [runs_parse], ?_⟩
  rw [runs_parse]
  exact .inr (.inr ⟨runsX, .num, runs_good, runs_walk, .inr ⟨5, rfl, by decide, _, runs_ev, rfl, rfl⟩⟩)
set_option maxHeartbeats 2000000 in
theorem runs_a : ACalls Tryz.prog 12 [] [] (.one (.bool true)) [] := by
  have ht := rtext_a runsS 5 ⟨1, 7, false⟩ 0 runs_text
  refine acalls_of_body Tryz.func12 rfl (by kernel_rfl) (Nat.le_of_ble_eq_true rfl) zo (by simp [namesL]) ?_
  refine zQ ?_;refine zV lab ?_;refine zn ?_;refine zQ ?_
  refine zV (lal (ht) rfl (by refine zC ?_;refine zC ?_;exact rfl)) ?_
  refine zV laE ?_;refine zV lar ?_;refine zV lat ?_;refine zM lah ?_;refine zE laf ?_;refine zV lab ?_;refine zn ?_;refine zQ ?_;refine zV laa ?_;refine zV lac ?_;refine zV laa ?_;refine zI lai ?_;refine zI laq ?_
  refine zI (loc_eqOut (o := ⟨1, 7, false⟩) (p := ⟨1, 7, false⟩) (by exact rfl) (by exact rfl)) ?_
  rw [outEq_refl]
  refine zV laA ?_;refine zV lab ?_;refine zn ?_;refine zre ?_
  exact ret_same (.inr rfl) rfl zo
set_option maxHeartbeats 8000000 in
theorem runTells_a (a : Tm) (F : Int) (hok : TmOk a) (hdp : TmDp a) (hsz : a.nodes ≤ 1048576) : ACalls Tryz.prog 3 [a.u, .one (.int .i64 F)] [] (.one (.bool true)) [] := by
  obtain ⟨o, e, hrun⟩ := run_ex a F
  obtain ⟨o2, e2, hbare⟩ := bare_ex a F
  have hsa := rsameTm_a a a
  rw [sameT_rfl] at hsa
  refine acalls_of_body Tryz.func3 rfl (by kernel_rfl) (Nat.le_of_ble_eq_true rfl) zo (by simp [namesL]) ?_
  refine zQ ?_;refine zM lan ?_;refine zV lab ?_;refine zn ?_;refine zQ ?_;refine zV lai ?_
  refine zV (lal (copyTm_a a hok hsz) rfl (by refine zC7 ?_;exact rfl)) ?_
  refine zM lah ?_;refine zE laf ?_;refine zn ?_;refine zQ ?_;refine zV lai ?_;refine zV laa ?_
  refine zV (lal (run_a a hok hsz F o e hrun) rfl (by refine zC7 ?_;refine zC ?_;exact rfl)) ?_
  refine zV laE ?_;refine zV lar ?_;refine zV lat ?_;refine zM lah ?_;refine zE laf ?_;refine zV lab ?_;refine zn ?_;refine zQ ?_;refine zV lai ?_;refine zV laa ?_
  refine zV (lal (runTerm_a a hok hdp hsz F o e hrun) rfl (by refine zC7 ?_;refine zC ?_;exact rfl)) ?_
  refine zV laE ?_;refine zV lar ?_;refine zV lat ?_;refine zM lah ?_;refine zE laf ?_;refine zV lab ?_;refine zn ?_;refine zQ ?_;refine zV lai ?_;refine zV laa ?_
  refine zV (lal (bare_a a hok hsz F o2 e2 hbare) rfl (by refine zC7 ?_;refine zC ?_;exact rfl)) ?_
  refine zV laE ?_;refine zV lar ?_;refine zV lat ?_;refine zM lah ?_;refine zE laf ?_;refine zV lab ?_;refine zn ?_;refine zQ ?_;refine zV lai ?_;refine zV laa ?_
  refine zV (lal (bareTerm_a a hok hdp hsz F o2 e2 hbare) rfl (by refine zC7 ?_;refine zC ?_;exact rfl)) ?_
  refine zV laE ?_;refine zV lar ?_;refine zV lat ?_;refine zM lah ?_;refine zE laf ?_;refine zV lab ?_;refine zn ?_;refine zQ ?_;refine zV lai ?_;refine zV lai ?_
  refine zV (loc_eqOut (o := o) (p := o) (by exact rfl) (by exact rfl)) ?_
  rw [outEq_refl]
  have he : (e == e) = true := by simp
  have he2 : (e2 == e2) = true := by simp
  refine zV laa ?_;refine zI laa ?_;refine zI laa ?_;refine zI lac ?_;refine zV laA ?_;refine zV laa ?_;refine zT lai ?_;refine zT lai ?_
  refine zT (loc_eqOut (o := o2) (p := o2) (by exact rfl) (by exact rfl)) ?_
  rw [outEq_refl]
  refine zV (lam true) ?_;refine zV laa ?_;refine zI laa ?_;refine zI laa ?_;refine zI lac ?_;refine zV laA ?_;refine zV laa ?_;refine zT lai ?_;refine zT lai ?_
  refine zT (lal (hsa) rfl (by refine zC7 ?_;refine zC7 ?_;exact rfl)) ?_
  refine zV (lam true) ?_;refine zV laa ?_
  refine zI (lal (runs_a)) ?_
  refine zV laA ?_;refine zV lab ?_;refine zn ?_;refine zre ?_
  exact ret_same (.inr rfl) rfl zo
end Go.Proofs.YtnflnbdlgdjfmabGreatDoor
namespace Go.Proofs.YtnflnbdlgdjfmabGreatDoor
open Go.ChangeShapes Go.WideShapes Go.ChangeAt Go.RowKit Go.Joins Go.Deep
set_option linter.unusedVariables false
set_option linter.unusedSimpArgs false
def Old (w : World) : Nat → Prop := fun k => k < w.heap.size
theorem bulk_mem {H : Type} {d : DataW H} {l : List (DataW H)} (h : d ∈ l) : Rows.uptoBulk d ≤ Rows.uptoBulkAll l := by
  induction l with
  | nil => cases h
  | cons x r ih =>
    simp only [Rows.uptoBulkAll]
    cases List.mem_cons.1 h with
    | inl e => subst e; omega
    | inr e => have := ih e; omega
theorem bulk_pos {H : Type} (d : DataW H) : 1 ≤ Rows.uptoBulk d := by
  cases d with
  | lit l => cases l <;> simp [Rows.uptoBulk]
  | _ => simp [Rows.uptoBulk]
theorem bulk_lenAll {H : Type} (l : List (DataW H)) : l.length ≤ Rows.uptoBulkAll l := by
  induction l with
  | nil => simp [Rows.uptoBulkAll]
  | cons x r ih => have := bulk_pos x; simp only [List.length_cons, Rows.uptoBulkAll]; omega
section
variable {H : Type} {enc : TypeId × Value → H} {w : World} {sp : Nat → Bool} {held : Bool} {F : Nat → Prop}
theorem open_rows {α : Type} [Inhabited α] {P : Program} {t e k fuel : Nat} {cs : List Value} {x : DataW H × List MemPlace} (c : α → List C) (sz : α → Nat) (G : α → Prop) (ht : P.underlying t = some (.slice e)) (hk : P.cellsOf e = k) (hk0 : 0 < k) (hc : ∀ y, (c y).length = k)
    (h : DataW.trod enc P w 0 sp held fuel t cs = some x) (hb : Rows.uptoBulk x.1 ≤ 1048576)
    (elem : ∀ (n : Nat) (cs' : List Value) (d' : DataW H) (ps' : List MemPlace), Rows.uptoBulk d' < Rows.uptoBulk x.1 → DataW.trod enc P w 0 sp held n e cs' = some (d', ps') → ∃ y : α, All2 (relK (Old w) w) (c y) cs' ∧ G y ∧ sz y ≤ Rows.uptoBulk d') :
    ∃ (l : List α) (v : Value), cs = [v] ∧ relK (Old w) w (slOf k (l.map c)) v ∧ (∀ y ∈ l, G y) ∧ (l.map sz).sum + 1 ≤ Rows.uptoBulk x.1 ∧ l.length < Rows.uptoBulk x.1 := by
  rcases open_slice ht h with ⟨rfl, rfl⟩ | ⟨a, len, cap, m, n, D, Pl, rfl, _, hle, hcap, hm, rfl, hel⟩
  · exact ⟨[], _, rfl, ⟨none, 0, rfl, Nat.zero_le _, Nat.zero_le _, fun i hi => absurd hi (Nat.not_lt_zero _)⟩, fun y hy => (by cases hy), by simp [Rows.uptoBulk], by simp [Rows.uptoBulk]⟩
  · have hlm : len ≤ m := by rw [hm]; split <;> omega
    have hbk : Rows.uptoBulk (DataW.slice ((List.range len).map D) ((List.range (m - len)).map fun j => D (len + j))) = Rows.uptoBulkAll ((List.range len).map D) + Rows.uptoBulkAll ((List.range (m - len)).map fun j => D (len + j)) + 1 := by simp [Rows.uptoBulk]
    simp only at hb elem ⊢
    rw [hbk] at hb
    have part : ∀ i, ∃ y : α, i < len → (∀ j, j < k → ∃ u, w.cell? (a.add (i * k + j)) = some u ∧ relK (Old w) w (rowF (c y) j) u) ∧ G y ∧ sz y ≤ Rows.uptoBulk (D i) := by
      intro i
      by_cases hi : i < len
      · obtain ⟨cs', hcs, hd⟩ := hel i (by omega)
        rw [hk] at hcs
        have hDi : Rows.uptoBulk (D i) ≤ Rows.uptoBulkAll ((List.range len).map D) := bulk_mem (List.mem_map.2 ⟨i, List.mem_range.2 hi, rfl⟩)
        obtain ⟨y, h1, h2, h3⟩ := elem n cs' (D i) (Pl i) (by rw [hbk]; omega) hd
        obtain ⟨_, hlen, hat⟩ := World.cells?_some hcs
        refine ⟨y, fun _ => ⟨fun j hj => ?_, h2, h3⟩⟩
        have hjc : j < (c y).length := by rw [hc]; exact hj
        obtain ⟨u, hu, hr⟩ := h1.get j _ (List.getElem?_eq_getElem hjc)
        refine ⟨u, ?_, ?_⟩
        · have := hat j hj
          rw [hu] at this
          rw [← this, Go.Deep.add_add]
        · rw [show rowF (c y) j = (c y)[j] by simp [rowF, hjc]]; exact hr
      · exact ⟨default, fun h => absurd h hi⟩
    obtain ⟨T, hT⟩ := Classical.axiomOfChoice part
    have hlen2 : len ≤ 1048576 := by
      have := bulk_lenAll ((List.range len).map D)
      simp at this; omega
    refine ⟨(List.range len).map T, _, rfl, ⟨some a, cap, by simp, by simpa using hle, by simp [maxLen]; omega, fun i hi => ?_⟩, fun y hy => ?_, ?_, ?_⟩
    · have hi : i < len := by simpa using hi
      obtain ⟨h1, _, _⟩ := hT i hi
      obtain ⟨u0, hu0, _⟩ := h1 0 hk0
      have hsp : a.spot = none := by
        obtain ⟨h2, _, _⟩ := hT 0 (by omega)
        obtain ⟨u1, hu1, _⟩ := h2 0 hk0
        rw [show (0 * k + 0) = 0 by omega, show a.add 0 = a from rfl] at hu1
        unfold World.cell? at hu1
        split at hu1
        · split at hu1
          · cases hu1
          · rename_i hne; simpa using hne
        · cases hu1
      obtain ⟨ab, ao, asp⟩ := a
      simp only at hsp
      subst hsp
      have hadd : ∀ n, (⟨ab, ao, none⟩ : Addr).add n = ⟨ab, ao + n, none⟩ := fun n => by
        unfold Addr.add
        split
        · rename_i h0; rw [h0]; rfl
        · rfl
      refine ⟨ab, ao, rfl, ?_, fun j hj => ?_⟩
      · rw [hadd] at hu0
        exact World.block_lt_of_cell? _ _ hu0
      · obtain ⟨u, hu, hr⟩ := h1 j hj
        rw [hadd] at hu
        refine ⟨u, by rw [Nat.add_assoc];exact hu, ?_⟩
        simpa [hi] using hr
    · obtain ⟨i, hi, rfl⟩ := List.mem_map.1 hy
      exact (hT i (List.mem_range.1 hi)).2.1
    · rw [hbk]
      have hsum : ∀ (l : List Nat), (∀ i ∈ l, i < len) → ((l.map T).map sz).sum ≤ Rows.uptoBulkAll (l.map D) := by
        intro l
        induction l with
        | nil => intro _; simp
        | cons i l ihl =>
          intro hl
          have h1 := (hT i (hl i (List.mem_cons_self ..))).2.2
          have h2 := ihl fun j hj => hl j (List.mem_cons_of_mem _ hj)
          simp only [List.map_cons, List.sum_cons, Rows.uptoBulkAll]
          omega
      have := hsum (List.range len) fun i hi => List.mem_range.1 hi
      omega
    · have := bulk_lenAll ((List.range len).map D)
      simp at this ⊢
      rw [hbk]; omega
end
theorem len5 {α : Type} {l : List α} (h : l.length = 5) : ∃ a b c d e, l = [a, b, c, d, e] := by
  match l, h with
  | [a, b, c, d, e], _ => exact ⟨a, b, c, d, e, rfl⟩
theorem len7 {α : Type} {l : List α} (h : l.length = 7) : ∃ a b c d e f g, l = [a, b, c, d, e, f, g] := by
  match l, h with
  | [a, b, c, d, e, f, g], _ => exact ⟨a, b, c, d, e, f, g, rfl⟩
instance : Inhabited Ty := ⟨.any⟩
mutual
def Ty.size : Ty → Nat
  | .mk _ l => 1 + sizeL l
def sizeL : List Ty → Nat
  | [] => 0
  | t :: l => Ty.size t + sizeL l
end
theorem sizeL_sum : ∀ l : List Ty, sizeL l = (l.map Ty.size).sum
  | [] => rfl
  | a :: l => by simp [sizeL, sizeL_sum l]
theorem struct_Type : ∃ f0 f1 : Field, Tryz.prog.underlying 24 = some (.struct #[f0, f1]) ∧ f0.type = 3 ∧ f0.offset = 0 ∧ f1.type = 22 ∧ f1.offset = 1 := ⟨_, _, Tryz.underlying24, rfl, rfl, rfl, rfl⟩
theorem cells_int : Tryz.prog.cellsOf 3 = 1 := by kernel_rfl
theorem cells_types : Tryz.prog.cellsOf 22 = 1 := by kernel_rfl
theorem cells_Type : Tryz.prog.cellsOf 24 = 2 := by kernel_rfl
section
variable {H : Type} {enc : TypeId × Value → H} {w : World} {sp : Nat → Bool} {held : Bool}
theorem trod_Ty : ∀ (N fuel : Nat) (cs : List Value) (d : DataW H) (ps : List MemPlace), Rows.uptoBulk d ≤ N → N ≤ 1048576 → DataW.trod enc Tryz.prog w 0 sp held fuel 24 cs = some (d, ps) →
    ∃ t : Ty, All2 (relK (Old w) w) t.c cs ∧ Thin t ∧ t.size ≤ Rows.uptoBulk d := by
  intro N
  induction N with
  | zero => intro fuel cs d ps hN; have := bulk_pos d; omega
  | succ N ih =>
    intro fuel cs d ps hN hmax h
    obtain ⟨f0, f1, hu, t0, o0, t1, o1⟩ := struct_Type
    obtain ⟨y0, y1, n, hx, hlen, h0, h1⟩ := trod_struct2 hu h
    simp only [Prod.mk.injEq] at hx
    obtain ⟨rfl, rfl⟩ := hx
    rw [cells_Type] at hlen
    obtain ⟨c0, c1, rfl⟩ := len2 hlen
    rw [t0, o0, cells_int] at h0
    rw [t1, o1, cells_types] at h1
    simp only [List.drop_zero, List.take_succ_cons, List.take_zero, List.drop_succ_cons] at h0 h1
    obtain ⟨k, hk, hy0, _⟩ := DataW.trod_int Tryz.underlying3 h0
    obtain rfl : c0 = .int .i64 k := by simpa using hk
    have hb : Rows.uptoBulk (DataW.agg [y0.1, y1.1]) = Rows.uptoBulk y1.1 + 2 := by rw [hy0]; simp [Rows.uptoBulk, Rows.uptoBulkAll]; omega
    rw [hb] at hN
    obtain ⟨l, v, hv, hr, hG, hs, hl⟩ := open_rows (α := Ty) Ty.c Ty.size Thin Tryz.underlying22 cells_Type (by decide) (fun y => rfl) h1 (by omega) (fun n cs' d' ps' hd h => by
      obtain ⟨t, h1, h2, h3⟩ := ih n cs' d' ps' (by omega) (by omega) h
      exact ⟨t, h1, h2, h3⟩)
    obtain rfl : c1 = v := by simpa using hv
    refine ⟨.mk k l, ⟨rfl, ?_, zo⟩, .mk k l (by omega) hG, ?_⟩
    · show relK (Old w) w (slOf 2 (tyRows l)) c1
      rw [tyRows_map]; exact hr
    · simp only [Ty.size, sizeL_sum]; omega
end
end Go.Proofs.YtnflnbdlgdjfmabGreatDoor
namespace Go.Proofs.YtnflnbdlgdjfmabGreatDoor
open Go.ChangeShapes Go.WideShapes Go.ChangeAt Go.RowKit Go.Joins Go.Deep
set_option linter.unusedVariables false
set_option linter.unusedSimpArgs false
instance : Inhabited Tm := ⟨.mk 0 0 .any .any []⟩
theorem nodesL_sum : ∀ l : List Tm, nodesL l = (l.map Tm.nodes).sum
  | [] => rfl
  | a :: l => by simp [nodesL, nodesL_sum l]
inductive TmFit : Tm → Prop
  | mk {t : Tm} (ht : t.t.size ≤ 1048576) (hf : t.f.size ≤ 1048576) (hl : ∀ x ∈ t.l, TmFit x) : TmFit t
theorem struct_Term : ∃ f0 f1 f2 f3 f4 : Field, Tryz.prog.underlying 27 = some (.struct #[f0, f1, f2, f3, f4]) ∧ (f0.type = 3 ∧ f0.offset = 0) ∧ (f1.type = 3 ∧ f1.offset = 1) ∧ (f2.type = 24 ∧ f2.offset = 2) ∧ (f3.type = 24 ∧ f3.offset = 4) ∧ (f4.type = 25 ∧ f4.offset = 6) := ⟨_, _, _, _, _, Tryz.underlying27, ⟨rfl, rfl⟩, ⟨rfl, rfl⟩, ⟨rfl, rfl⟩, ⟨rfl, rfl⟩, ⟨rfl, rfl⟩⟩
theorem cells_terms : Tryz.prog.cellsOf 25 = 1 := by kernel_rfl
theorem cells_Term : Tryz.prog.cellsOf 27 = 7 := by kernel_rfl
section
variable {H : Type} {enc : TypeId × Value → H} {w : World} {sp : Nat → Bool} {held : Bool}
theorem trod_Tm : ∀ (N fuel : Nat) (cs : List Value) (d : DataW H) (ps : List MemPlace), Rows.uptoBulk d ≤ N → N ≤ 1048576 → DataW.trod enc Tryz.prog w 0 sp held fuel 27 cs = some (d, ps) →
    ∃ t : Tm, All2 (relK (Old w) w) t.c cs ∧ (TmOk t ∧ TmFit t) ∧ t.nodes ≤ Rows.uptoBulk d := by
  intro N
  induction N with
  | zero => intro fuel cs d ps hN; have := bulk_pos d; omega
  | succ N ih =>
    intro fuel cs d ps hN hmax h
    obtain ⟨f0, f1, f2, f3, f4, hu, ⟨t0, o0⟩, ⟨t1, o1⟩, ⟨t2, o2⟩, ⟨t3, o3⟩, ⟨t4, o4⟩⟩ := struct_Term
    obtain ⟨xs, n, rfl, hx, hlen, hxs, hf⟩ := DataW.trod_struct hu h
    simp only [Prod.mk.injEq] at hx
    obtain ⟨rfl, rfl⟩ := hx
    rw [cells_Term] at hlen
    obtain ⟨c0, c1, c2, c3, c4, c5, c6, rfl⟩ := len7 hlen
    obtain ⟨y0, y1, y2, y3, y4, rfl⟩ := len5 hxs
    have g0 := hf 0 f0 rfl
    have g1 := hf 1 f1 rfl
    have g2 := hf 2 f2 rfl
    have g3 := hf 3 f3 rfl
    have g4 := hf 4 f4 rfl
    rw [t0, o0, cells_int] at g0
    rw [t1, o1, cells_int] at g1
    rw [t2, o2, cells_Type] at g2
    rw [t3, o3, cells_Type] at g3
    rw [t4, o4, cells_terms] at g4
    simp only [List.drop_zero, List.take_succ_cons, List.take_zero, List.drop_succ_cons, List.getElem?_cons_zero, List.getElem?_cons_succ] at g0 g1 g2 g3 g4
    obtain ⟨k, hk, hy0, _⟩ := DataW.trod_int Tryz.underlying3 g0
    obtain rfl : c0 = .int .i64 k := by simpa using hk
    obtain ⟨m, hm, hy1, hwf⟩ := DataW.trod_int Tryz.underlying3 g1
    obtain rfl : c1 = .int .i64 m := by simpa using hm
    have hmm : m ≤ 9223372036854775807 := by
      simp only [Lit.wf, Bool.and_eq_true, decide_eq_true_eq] at hwf
      have h9 : IntKind.i64.max = 9223372036854775807 := by decide
      rw [← h9]; exact hwf.2
    have hb : Rows.uptoBulk (DataW.agg ([y0, y1, y2, y3, y4].map (·.1))) = Rows.uptoBulk y2.1 + Rows.uptoBulk y3.1 + Rows.uptoBulk y4.1 + 3 := by rw [hy0, hy1]; simp [Rows.uptoBulk, Rows.uptoBulkAll]; omega
    rw [hb] at hN
    obtain ⟨T, hT, hTt, hTs⟩ := trod_Ty 1048576 n _ y2.1 y2.2 (by omega) (Nat.le_refl _) g2
    obtain ⟨Fm, hFm, hFt, hFs⟩ := trod_Ty 1048576 n _ y3.1 y3.2 (by omega) (Nat.le_refl _) g3
    obtain ⟨l, v, hv, hr, hG, hs, hl⟩ := open_rows (α := Tm) Tm.c Tm.nodes (fun t => TmOk t ∧ TmFit t) Tryz.underlying25 cells_Term (by decide) (fun y => rfl) g4 (by omega) (fun n cs' d' ps' hd h => by
      obtain ⟨t, h1, h2, h3⟩ := ih n cs' d' ps' (by omega) (by omega) h
      exact ⟨t, h1, h2, h3⟩)
    obtain rfl : c6 = v := by simpa using hv
    obtain ⟨hT0, hT1, _⟩ := hT
    obtain ⟨hF0, hF1, _⟩ := hFm
    refine ⟨.mk k m T Fm l, ⟨rfl, rfl, hT0, hT1, hF0, hF1, ?_, zo⟩, ⟨.mk hmm hTt hFt fun x hx => (hG x hx).1, .mk (by show T.size ≤ _; omega) (by show Fm.size ≤ _; omega) fun x hx => (hG x hx).2⟩, ?_⟩
    · show relK (Old w) w (slOf 7 (tmRows l)) c6
      rw [tmRows_map]; exact hr
    · rw [hb]; simp only [Tm.nodes, nodesL_sum]; omega
end
end Go.Proofs.YtnflnbdlgdjfmabGreatDoor
namespace Go.Proofs.YtnflnbdlgdjfmabGreatDoor
set_option linter.unusedVariables false
theorem deep_size : ∀ a : Ty, a.deep ≤ a.size := Ty.ind fun k l ih => by
  rw [deep_eta]
  simp only [Ty.l_mk, Ty.size]
  have : ∀ m : List Ty, (∀ t ∈ m, t.deep ≤ t.size) → deepL m ≤ sizeL m := by
    intro m
    induction m with
    | nil => intro _; simp [deepL]
    | cons b m ihm =>
      intro h
      have h1 := h b (by simp)
      have h2 := ihm fun t ht => h t (by simp [ht])
      simp only [deepL, sizeL]
      omega
  have := this l ih
  omega
theorem fit_dp : ∀ {t : Tm}, TmFit t → TmDp t := fun {t} => by
  induction t using Tm.ind' with
  | h t ih =>
  intro h
  cases h with
  | mk ht hf hl =>
    have := deep_size t.t
    exact .mk (by omega) fun x hx => ih x hx (hl x hx)
end Go.Proofs.YtnflnbdlgdjfmabGreatDoor
namespace Go.Proofs.YtnflnbdlgdjfmabGreatDoor
open Go.ChangeShapes Go.WideShapes Go.ChangeAt Go.RowKit Go.Joins Go.Deep
set_option linter.unusedVariables false
set_option linter.unusedSimpArgs false
def ρ0 : Nat → Lc := fun _ => ⟨none, 0, 0⟩
structure GlobIn (W : World) : Prop where
  gl : ∀ g c, glob g = some c → relK (Old W) W c (.pointer (some ⟨g, 0, none⟩))
  gx : ∀ g p, globX g = some p → ∃ cs t fz, p cs ∧ W.heap[g]? = some (.cells cs t fz)
theorem hrel_old {W : World} (hg : GlobIn W) : HRel (Old W) ρ0 (ofL []) W :=
  ⟨fun b x h => (by cases h), fun b b' g h => absurd rfl h, fun b g h => absurd rfl h, fun k h => h, fun b x h => (by cases h), hg.gl, fun g p h => by
    obtain ⟨cs, t, fz, hp, hh⟩ := hg.gx g p h
    exact ⟨(Array.getElem?_eq_some_iff.1 hh).1, cs, t, fz, hp, hh⟩⟩
theorem law_calls {f : FuncId} {us : List U} {vals : List Value} {W : World} (hc : ACalls Tryz.prog f us [] (.one (.bool true)) []) (hg : GlobIn W) (ha : All2 (fun u v => relU (Old W) ρ0 W u v ∧ okU (ofL []) u) us vals) :
    Calls Tryz.prog f vals.toArray W fun e W' => e = .returned (.bool true) ∧ Below W.heap.size W W' := by
  refine (hc.2 (Old W) ρ0 W vals (hrel_old hg) ha).mono fun e W' ⟨v, F', ρ', he, hM, hr, _⟩ => ?_
  have hr : v = .bool true := hr
  subst hr
  exact ⟨he, hM.os, hM.tape, hM.output, hM.size, fun k hk => hM.kept k hk fun b hb => absurd rfl hb⟩
theorem ok_Tm (t : Tm) : okU (ofL []) t.u := okU_of (u := t.u) ⟨trivial, trivial, trivial, trivial, trivial, trivial, trivial, trivial⟩
set_option maxRecDepth 100000 in
theorem open_TmF {H : Type} {enc : TypeId × Value → H} {W : World} {r : Reach} {b0 : Nat} {v : Value} {d : DataW H} {p : List MemPlace} (hv : Value.okWide Tryz.prog W r b0 27 v)
    (h : DataW.Trod enc Tryz.prog W 0 (fun _ => true) true 27 v d p) (hb : Rows.uptoBulk d ≤ 1048576) : ∃ t : Tm, relU (Old W) ρ0 W t.u v ∧ (TmOk t ∧ TmFit t) ∧ t.nodes ≤ 1048576 := by
  obtain ⟨f0, f1, f2, f3, f4, hu, _⟩ := struct_Term
  obtain ⟨cs, rfl, hsz⟩ := okWide_struct hu hv
  obtain ⟨fuel, hf⟩ := h
  obtain ⟨t, ht, hok, hn⟩ := trod_Tm 1048576 fuel _ d p hb (Nat.le_refl _) hf
  simp only [Value.cells] at ht
  refine ⟨t, ⟨cs.toList, by simp, ?_⟩, hok, by omega⟩
  exact ht.mono fun c _ v h => relC_relK h
set_option maxRecDepth 100000 in
theorem open_Int {H : Type} {enc : TypeId × Value → H} {W : World} {r : Reach} {b0 : Nat} {v : Value} {d : DataW H} {p : List MemPlace} (hv : Value.okWide Tryz.prog W r b0 3 v)
    (h : DataW.Trod enc Tryz.prog W 0 (fun _ => true) true 3 v d p) : ∃ n : Int, v = .int .i64 n ∧ -9223372036854775808 ≤ n ∧ n ≤ 9223372036854775807 := by
  obtain ⟨n, rfl, _, _, hw⟩ := open_int Tryz.underlying3 hv h
  simp only [Lit.wf, Bool.and_eq_true, decide_eq_true_eq] at hw
  have h8 : IntKind.i64.min = -9223372036854775808 := by decide
  have h9 : IntKind.i64.max = 9223372036854775807 := by decide
  exact ⟨n, rfl, by rw [← h8]; exact hw.1, by rw [← h9]; exact hw.2⟩
theorem laidOutP : laidOutB Tryz.prog = true := by kernel_rfl
theorem readable_Term : Tryz.prog.readableRec 27 = true := by kernel_rfl
theorem rowed_Term : 27 < Tryz.prog.types.size := of_decide_eq_true (by kernel_rfl)
theorem readable_int : Tryz.prog.readableRec 3 = true := by kernel_rfl
theorem rowed_int : 3 < Tryz.prog.types.size := of_decide_eq_true (by kernel_rfl)
theorem again_Tm {H : Type} {enc : TypeId × Value → H} {W W' : World} {v : Value} {d : DataW H} {p : List MemPlace} (hx : Below W.heap.size W W') (h : DataW.Trod enc Tryz.prog W 0 (fun _ => true) true 27 v d p) (hlt : ∀ x ∈ p, x.block < W.heap.size) :
    DataW.Trod enc Tryz.prog W' 0 (fun b => decide (b < W.heap.size)) true 27 v d p := Below.trod laidOutP readable_Term rowed_Term h hx hlt
theorem again_Int {H : Type} {enc : TypeId × Value → H} {W W' : World} {v : Value} {d : DataW H} {p : List MemPlace} (hx : Below W.heap.size W W') (h : DataW.Trod enc Tryz.prog W 0 (fun _ => true) true 3 v d p) (hlt : ∀ x ∈ p, x.block < W.heap.size) :
    DataW.Trod enc Tryz.prog W' 0 (fun b => decide (b < W.heap.size)) true 3 v d p := Below.trod laidOutP readable_int rowed_int h hx hlt
theorem law_post {H : Type} {enc : TypeId × Value → H} {f : Func} {s : ChangeSpec} {W W' : World} {args : Array Value} {ds : List (DataW H)} {before pa : List MemPlace}
    (hW : DataW.Whole enc Tryz.prog f.params.toList s.vars false W args.toList ds [] before) (hvars : s.vars = []) (hr : f.resultTypes = #[4]) (hs : s.fn H (ds ++ []) = { results := [.lit (.bool true)], args := ds })
    (hx : Below W.heap.size W W') (hargs : DataW.TrodAll enc Tryz.prog W' 0 (fun b => decide (b < W.heap.size)) true f.params.toList args.toList ds pa) :
    s.post enc Tryz.prog f false true false false W args (.bool true) W' := by
  refine ⟨ds, [], before, [], pa, [], hW, ?_, by rw [hs];exact hargs, ?_, Below.frame hx _, fun h => by cases h⟩
  · rw [hs, hr]
    exact trodAll_cons_mk (shut_bool Tryz.underlying4 _) trodAll_mk0
  · rw [hvars, hs]
    rfl
theorem own : ownKnob Tryz.prog.godebug = none := by kernel_rfl
end Go.Proofs.YtnflnbdlgdjfmabGreatDoor
namespace Go.Proofs.YtnflnbdlgdjfmabGreatDoor
open Go.ChangeShapes Go.WideShapes Go.ChangeAt Go.RowKit Go.Joins Go.Deep
set_option linter.unusedVariables false
set_option linter.unusedSimpArgs false
def strData {H : Type} (zs : List (List UInt8)) : DataW H := .agg (zs.map fun z => .lit (.string z))
theorem cells_of_strs {H : Type} {enc : TypeId × Value → H} {P : Program} {w : World} {base : Nat} {sp : Nat → Bool} {held : Bool} {fuel : Nat} {t e : TypeId} {n : Nat} {cs : List Value} {zs : List (List UInt8)} {p : List MemPlace}
    (ht : P.underlying t = some (.array n e)) (he : P.underlying e = some .string) (hce : P.cellsOf e = 1) (hct : P.cellsOf t = n)
    (h : DataW.trod enc P w base sp held fuel t cs = some (strData zs, p)) : cs = zs.map fun z => Value.string ⟨z.toArray⟩ := by
  cases fuel with
  | zero => simp [DataW.trod] at h
  | succ fuel =>
    simp only [DataW.trod, ht, hce, hct, Nat.mul_one] at h
    split at h
    · rename_i hl
      obtain ⟨xs, hm, hx⟩ := Option.map_eq_some_iff.1 h
      have hxs : xs.map (·.1) = zs.map fun z => (DataW.lit (.string z) : DataW H) := by
        have := congrArg Prod.fst hx
        simpa [strData] using this
      have hxl : xs.length = n := by simpa using Lib.mapM_length hm
      have hzl : zs.length = n := by
        have := congrArg List.length hxs
        simp at this
        omega
      apply List.ext_getElem?
      intro i
      by_cases hi : i < n
      · obtain ⟨b, hb, hf⟩ := Lib.mapM_at hm i i (by simp [hi])
        obtain ⟨s, hc, rfl, _⟩ := DataW.trod_string he hf
        have h1 : cs[i]? = some (.string s) := by
          have := congrArg (·[0]?) hc
          simpa [List.getElem?_take, List.getElem?_drop] using this
        have h2 : (xs.map (·.1))[i]? = some (DataW.lit (.string s.data.toList) : DataW H) := by simp [hb]
        rw [hxs] at h2
        simp only [List.getElem?_map, Option.map_eq_some_iff, DataW.lit.injEq, Lit.string.injEq] at h2
        obtain ⟨z', hz', rfl⟩ := h2
        simp [h1, hz']
      · rw [List.getElem?_eq_none (by omega), List.getElem?_eq_none (by simp; omega)]
    · cases h
theorem strs_of_head {P : Program} {W : World} {name : String} {zs : List (List UInt8)} {rest : List (String × DataW Unit)} {g : Nat} {t e : TypeId} {n : Nat}
    (hg : P.globalNamed name = some g) (hty : (P.globals[g]?).map (·.type) = some t) (ht : P.underlying t = some (.array n e)) (he : P.underlying e = some .string) (hce : P.cellsOf e = 1) (hct : P.cellsOf t = n)
    (h : laidMet P ((name, strData zs) :: rest) W) : W.var? P name = some (zs.map fun z => Value.string ⟨z.toArray⟩).toArray := by
  obtain ⟨ps, ⟨g', t', cs, fuel, p, q, hg', ht', hvar, hd, _, _⟩, _⟩ := h
  obtain rfl := Option.some.inj (hg.symm.trans hg')
  obtain rfl := Option.some.inj (hty.symm.trans ht')
  rw [hvar, ← cells_of_strs ht he hce hct hd]
theorem heap_of_var {P : Program} {W : World} {name : String} {g : Nat} {cs : Array Value} (hg : P.globalNamed name = some g) (h : W.var? P name = some cs) : ∃ t fz, W.heap[g]? = some (.cells cs t fz) := by
  unfold World.var? at h
  rw [hg] at h
  simp only [Option.bind_some] at h
  split at h
  · rename_i hh; cases h; exact ⟨_, _, hh⟩
  · cases h
theorem fpo_of_var {P : Program} {W : World} {name : String} {g : Nat} {cs : Array Value} {l : List C} (hg : P.globalNamed name = some g) (h : W.var? P name = some cs) (hr : All2 (relK (Old W) W) l cs.toList) (h0 : 0 < l.length) : relK (Old W) W (fpo l 0) (.pointer (some ⟨g, 0, none⟩)) := by
  obtain ⟨t, fz, hh⟩ := heap_of_var hg h
  refine ⟨g, 0, rfl, (Array.getElem?_eq_some_iff.1 hh).1, fun j hj => ?_⟩
  have hj : j < l.length := by simpa using hj
  obtain ⟨u, hu, hk⟩ := hr.get j l[j] (List.getElem?_eq_getElem hj)
  refine ⟨u, ?_, ?_⟩
  · have := World.var?_cell hg h j
    rw [Nat.zero_add, this]; simpa using hu
  · simp only [rowF, Nat.zero_add, List.getD_eq_getElem?_getD, List.getElem?_eq_getElem hj, Option.getD_some]; exact hk
abbrev laidT : List (String × DataW Unit) := Rows.runTellsUptoRow.laid
theorem hArr : Tryz.prog.cellsOf 97 = 10 := by kernel_rfl
theorem hArrS : Tryz.prog.cellsOf 95 = 10 := by kernel_rfl
theorem hArrK : Tryz.prog.cellsOf 137 = 4 := by kernel_rfl
theorem hArrP : Tryz.prog.cellsOf 215 = 20 := by kernel_rfl
theorem hU64 : Tryz.prog.cellsOf 196 = 1 := by kernel_rfl
theorem hStr : Tryz.prog.cellsOf 9 = 1 := by kernel_rfl
theorem hErr : Tryz.prog.cellsOf 213 = 1 := by kernel_rfl
theorem gAr : Tryz.prog.globalNamed "chaperone/term.arity" = some 1 := by kernel_rfl
theorem gWo : Tryz.prog.globalNamed "chaperone/term.words" = some 0 := by kernel_rfl
theorem gKi : Tryz.prog.globalNamed "chaperone/term.kinds" = some 2 := by kernel_rfl
theorem gPo : Tryz.prog.globalNamed "internal/strconv.uint64pow10" = some 10 := by kernel_rfl
theorem gES : Tryz.prog.globalNamed "strconv.ErrSyntax" = some 8 := by kernel_rfl
theorem gER : Tryz.prog.globalNamed "strconv.ErrRange" = some 9 := by kernel_rfl
theorem star : "*" ++ "errors.errorString" = "*errors.errorString" := by decide
theorem rowErr (u : TypeId) (h : Tryz.prog.typeName? 3 u = some "*errors.errorString") : u = 211 :=
  typeName_ptr_named (nm := "errors.errorString") (by rw [star]; kernel_rfl) (by kernel_rfl) (by decide) u (by rw [star]; exact h)
theorem max_in {W : World} (hsh : W.ShapedOpen Tryz.prog) : ∃ cs t fz, (∃ m, cs = #[.int .i64 m]) ∧ W.heap[5]? = some (.cells cs t fz) := by
  obtain ⟨cs, hh, hs, _⟩ := hsh.1 5 #[.int .i64 0] 3 (of_decide_eq_true (by kernel_rfl)) (by kernel_rfl)
  obtain ⟨m, hm⟩ := cell_of_shapedOpen_int (zero := #[.int .i64 0]) (t := 3) (g := 5) hsh (of_decide_eq_true (by kernel_rfl)) (by kernel_rfl) rfl (by kernel_rfl) (by kernel_rfl) Tryz.underlying3
  have hm0 : cs[0]? = some (.int .i64 m) := by simpa [World.cell?, hh] using hm
  refine ⟨cs, _, _, ⟨m, ?_⟩, hh⟩
  have hs : cs.size = 1 := hs
  apply Array.ext_getElem?
  intro i
  match i with
  | 0 => simpa using hm0
  | i + 1 => rw [Array.getElem?_eq_none (by omega), Array.getElem?_eq_none (by simp)]
set_option maxRecDepth 100000 in
theorem glob_in {W : World} (hL : laidMetH Tryz.prog laidT W) (hsh : W.ShapedOpen Tryz.prog) : GlobIn W := by
  have h0 : laidMet Tryz.prog laidT W := hL
  have h2 := h0.tail.tail
  have h4 := h2.tail.tail
  have h5 := h4.tail
  have h6 := h5.tail
  have h7 := h6.tail
  have h8 := h7.tail
  have vP0 := Lib.tabIs_of_head (k := .u64) (zs := [1, 10, 100, 1000, 10000, 100000, 1000000, 10000000, 100000000, 1000000000, 10000000000, 100000000000, 1000000000000, 10000000000000, 100000000000000, 1000000000000000, 10000000000000000, 100000000000000000, 1000000000000000000, 10000000000000000000]) gPo (t := 215) (by kernel_rfl) Tryz.underlying215 Tryz.underlying196 hU64 hArrP h2
  have vP : W.var? Tryz.prog "internal/strconv.uint64pow10" = some pow10V := by
    unfold Lib.TabIs at vP0
    rw [vP0]
    simp [pow10V]
  obtain ⟨a4, s4, v4, _⟩ := laid_sentinel h4 gER (ti := 131) (by kernel_rfl) Tryz.underlying131 rowErr Tryz.underlying211 Tryz.underlying213 rfl rfl Tryz.underlying9 hErr hStr
  obtain ⟨a5, s5, v5, _⟩ := laid_sentinel h5 gES (ti := 131) (by kernel_rfl) Tryz.underlying131 rowErr Tryz.underlying211 Tryz.underlying213 rfl rfl Tryz.underlying9 hErr hStr
  have vA : W.var? Tryz.prog "chaperone/term.arity" = some #[.int .i64 0, .int .i64 0, .int .i64 0, .int .i64 0, .int .i64 2, .int .i64 2, .int .i64 3, .int .i64 1, .int .i64 2, .int .i64 1] := Lib.tabIs_of_head (zs := [0, 0, 0, 0, 2, 2, 3, 1, 2, 1]) gAr (t := 97) (by kernel_rfl) Tryz.underlying97 Tryz.underlying3 cells_int hArr h6
  have vW := strs_of_head (zs := [[], [], [], [], [97, 100, 100], [108, 101, 115, 115], [105, 102], [102, 117, 110], [99, 97, 108, 108], [97, 115]]) gWo (t := 95) (by kernel_rfl) Tryz.underlying95 Tryz.underlying9 hStr hArrS h7
  have vK := strs_of_head (zs := [[97, 110, 121], [110, 117, 109], [116, 114, 117, 116, 104], [116, 111]]) gKi (t := 137) (by kernel_rfl) Tryz.underlying137 Tryz.underlying9 hStr hArrK h8
  refine ⟨fun g c hgc => ?_, fun g p hgp => ?_⟩
  · unfold glob at hgc
    cases hb : Nat.beq g 1 with
    | true =>
      rw [hb] at hgc; cases hgc
      rw [Nat.eq_of_beq_eq_true hb]
      exact fpo_of_var gAr vA ⟨rfl, rfl, rfl, rfl, rfl, rfl, rfl, rfl, rfl, rfl, zo⟩ (by decide)
    | false =>
    rw [hb] at hgc
    cases hb1 : Nat.beq g 0 with
    | true =>
      rw [hb1] at hgc; cases hgc
      rw [Nat.eq_of_beq_eq_true hb1]
      exact fpo_of_var gWo vW ⟨rfl, rfl, rfl, rfl, rfl, rfl, rfl, rfl, rfl, rfl, zo⟩ (by decide)
    | false =>
    rw [hb1] at hgc
    cases hb2 : Nat.beq g 2 with
    | true =>
      rw [hb2] at hgc; cases hgc
      rw [Nat.eq_of_beq_eq_true hb2]
      exact fpo_of_var gKi vK ⟨rfl, rfl, rfl, rfl, zo⟩ (by decide)
    | false => rw [hb2] at hgc; cases hgc
  · unfold globX at hgp
    cases hb : Nat.beq g 5 with
    | true =>
      rw [hb] at hgp; cases hgp
      rw [Nat.eq_of_beq_eq_true hb]
      exact max_in hsh
    | false =>
    rw [hb] at hgp
    cases hb1 : Nat.beq g 8 with
    | true =>
      rw [hb1] at hgp; cases hgp
      rw [Nat.eq_of_beq_eq_true hb1]
      obtain ⟨t, fz, hh⟩ := heap_of_var gES v5
      exact ⟨_, t, fz, ⟨_, _, rfl⟩, hh⟩
    | false =>
    rw [hb1] at hgp
    cases hb2 : Nat.beq g 9 with
    | true =>
      rw [hb2] at hgp; cases hgp
      rw [Nat.eq_of_beq_eq_true hb2]
      obtain ⟨t, fz, hh⟩ := heap_of_var gER v4
      exact ⟨_, t, fz, ⟨_, _, rfl⟩, hh⟩
    | false =>
    rw [hb2] at hgp
    cases hb3 : Nat.beq g 10 with
    | true =>
      rw [hb3] at hgp; cases hgp
      rw [Nat.eq_of_beq_eq_true hb3]
      obtain ⟨t, fz, hh⟩ := heap_of_var gPo vP
      exact ⟨_, t, fz, rfl, hh⟩
    | false => rw [hb3] at hgp; cases hgp
noncomputable def laidWorld (os : Os) : World := World.laidAll Tryz.prog os laidT
theorem laid_met (os : Os) (args : Array Value) : laidMet Tryz.prog laidT ((laidWorld os).forCall (fun _ _ => 0) ⟨#[], args, []⟩).memory := laidMet_laidAll args (by kernel_rfl) (by kernel_rfl)
end Go.Proofs.YtnflnbdlgdjfmabGreatDoor
