/-
  The walks of the functions on types (3): Join. Conditions: the lists within the types are not longer than 2^20.
-/
import Derived.Test.YtnflnbdlgdjfmaaDoorKind2
namespace Go.Proofs.YtnflnbdlgdjfmaaDoor
open Go.RowKit
set_option linter.unusedVariables false
set_option linter.unusedSimpArgs false
set_option maxRecDepth 100000
attribute [local irreducible] RunL AW LocOp ACalls Gh

theorem tyRows_len2 (l : List Ty) : ∀ r ∈ tyRows l, r.length = 2 := fun r hr => by
  rw [tyRows_map] at hr
  obtain ⟨a, _, rfl⟩ := List.mem_map.1 hr
  rfl
theorem Thin.len' {a : Ty} (h : Thin a) : a.l.length ≤ 1048576 := by cases a; exact h.len
theorem Thin.part' {a : Ty} (h : Thin a) : ∀ t ∈ a.l, Thin t := by cases a; exact h.part
theorem join_eta (a b : Ty) : a.join b = if a.k == b.k && a.l.length == b.l.length then .mk a.k (joinL a.l b.l) else .mk 0 [] := by cases a; cases b; simp [Ty.join]

set_option maxHeartbeats 2000000 in
theorem join_a : ∀ a b : Ty, Thin a → ACalls Tryd.prog 49 [a.u, b.u] [] (a.join b).u [] := by
  intro a
  induction a using Ty.ind' with
  | h a ih =>
  intro b hthin
  refine acalls_of_body Tryd.func49 rfl (by kernel_rfl) (Nat.le_of_ble_eq_true rfl) trivial (by simp [namesL]) ?_
  cases hk : (a.k != b.k) with
  | true =>
    refine AW.seq ?_; refine AW.region (by kernel_rfl) ?_; refine RunL.mem (by exact rfl) (loc_boxD rfl rfl rfl) ?_; refine RunL.mem (by exact rfl) (loc_boxD rfl rfl rfl) ?_; refine RunL.mem (by exact rfl) (loc_allocD rfl rfl) ?_; refine RunL.nil ?_; refine AW.seq ?_; refine AW.seq ?_; refine AW.region (by kernel_rfl) ?_; refine RunL.val (by exact rfl) (loc_fieldAddr rfl) ?_; refine RunL.val (by exact rfl) (loc_load rfl rfl rfl) ?_; refine RunL.val (by exact rfl) (loc_fieldAddr rfl) ?_; refine RunL.val (by exact rfl) (loc_load rfl rfl rfl) ?_; refine RunL.val (by exact rfl) (loc_binInt rfl rfl rfl) ?_; refine RunL.val (by exact rfl) (loc_moveC rfl) ?_; refine RunL.skip (.inl ⟨_, _, rfl, rfl, guard_eq true (by assumption) rfl⟩) ?_; refine RunL.skip (.inl ⟨_, _, rfl, rfl, guard_eq true (by assumption) rfl⟩) ?_; refine RunL.skip (.inl ⟨_, _, rfl, rfl, guard_eq true (by assumption) rfl⟩) ?_; refine RunL.skip (.inl ⟨_, _, rfl, rfl, guard_eq true (by assumption) rfl⟩) ?_; refine RunL.skip (.inl ⟨_, _, rfl, rfl, guard_eq true (by assumption) rfl⟩) ?_; refine RunL.skip (.inl ⟨_, _, rfl, rfl, guard_eq true (by assumption) rfl⟩) ?_; refine RunL.skip (.inl ⟨_, _, rfl, rfl, guard_eq true (by assumption) rfl⟩) ?_; refine RunL.val (by exact rfl) (loc_pickI true (by assumption) rfl rfl) ?_; refine RunL.nil ?_; refine AW.condT (by exact rfl) ?_; refine AW.seq ?_; refine AW.region (by kernel_rfl) ?_; refine RunL.val (by exact rfl) (loc_build (by exact rfl) (by exact Cut.all (by exact rfl)) (by exact rfl)) ?_; refine RunL.eff (by exact rfl) (loc_storeW rfl rfl rfl rfl (by exact rfl) (by exact rfl)) ?_; refine RunL.nil ?_; refine AW.ret ?_
    rw [show a.join b = .mk 0 [] by rw [join_eta]; simp at hk; simp [hk]]
    refine rq ?_
    refine ret_cell (by exact .inr rfl) (by exact rfl) (by exact rfl) (by exact rfl) [] trivial (l' := (Ty.mk 0 []).c) (by exact ⟨.le (.refl _), .le (.nil _), trivial⟩) (by exact ⟨trivial, trivial, trivial⟩) (by exact rfl)
  | false =>
    have hkk : a.k = b.k := by simpa using hk
    refine AW.seq ?_; refine AW.region (by kernel_rfl) ?_; refine RunL.mem (by exact rfl) (loc_boxD rfl rfl rfl) ?_; refine RunL.mem (by exact rfl) (loc_boxD rfl rfl rfl) ?_; refine RunL.mem (by exact rfl) (loc_allocD rfl rfl) ?_; refine RunL.nil ?_; refine AW.seq ?_; refine AW.seq ?_; refine AW.region (by kernel_rfl) ?_; refine RunL.val (by exact rfl) (loc_fieldAddr rfl) ?_; refine RunL.val (by exact rfl) (loc_load rfl rfl rfl) ?_; refine RunL.val (by exact rfl) (loc_fieldAddr rfl) ?_; refine RunL.val (by exact rfl) (loc_load rfl rfl rfl) ?_; refine RunL.val (by exact rfl) (loc_binInt rfl rfl rfl) ?_; refine RunL.val (by exact rfl) (loc_moveC rfl) ?_; refine RunL.val (by exact .inl ⟨_, _, rfl, rfl, guard_eq false (by assumption) rfl⟩) (loc_fieldAddr rfl) ?_; refine RunL.val (by exact .inl ⟨_, _, rfl, rfl, guard_eq false (by assumption) rfl⟩) (loc_load rfl rfl rfl) ?_; refine RunL.val (by exact .inl ⟨_, _, rfl, rfl, guard_eq false (by assumption) rfl⟩) (loc_lenSl rfl) ?_; refine RunL.val (by exact .inl ⟨_, _, rfl, rfl, guard_eq false (by assumption) rfl⟩) (loc_fieldAddr rfl) ?_; refine RunL.val (by exact .inl ⟨_, _, rfl, rfl, guard_eq false (by assumption) rfl⟩) (loc_load rfl rfl rfl) ?_; refine RunL.val (by exact .inl ⟨_, _, rfl, rfl, guard_eq false (by assumption) rfl⟩) (loc_lenSl rfl) ?_; refine RunL.val (by exact .inl ⟨_, _, rfl, rfl, guard_eq false (by assumption) rfl⟩) (loc_binInt rfl rfl rfl) ?_; refine RunL.val (by exact rfl) (loc_pickI false (by assumption) rfl rfl) ?_; refine RunL.nil ?_
    refine AW.cond (by exact rfl) (fun hc => ?_) (fun hc => ?_)
    · refine AW.seq ?_; refine AW.region (by kernel_rfl) ?_; refine RunL.val (by exact rfl) (loc_build (by exact rfl) (by exact Cut.all (by exact rfl)) (by exact rfl)) ?_; refine RunL.eff (by exact rfl) (loc_storeW rfl rfl rfl rfl (by exact rfl) (by exact rfl)) ?_; refine RunL.nil ?_; refine AW.ret ?_
      have hne : a.l.length ≠ b.l.length := by
        have := int_ne_of hc
        rwa [tyRows_length, tyRows_length] at this
      rw [show a.join b = .mk 0 [] by rw [join_eta]; simp [hne]]
      refine rq ?_
      refine ret_cell (by exact .inr rfl) (by exact rfl) (by exact rfl) (by exact rfl) [] trivial (l' := (Ty.mk 0 []).c) (by exact ⟨.le (.refl _), .le (.nil _), trivial⟩) (by exact ⟨trivial, trivial, trivial⟩) (by exact rfl)
    · have hlen : a.l.length = b.l.length := by
        have := int_eq_of hc
        rwa [tyRows_length, tyRows_length] at this
      have hthl := hthin.len'
      rw [show a.join b = .mk a.k (joinL a.l b.l) by rw [join_eta]; simp [hkk, hlen]]
      have hjl : (joinL a.l b.l).length = a.l.length := joinL_length hlen
      refine AW.skip ?_; refine AW.seq ?_; refine AW.region (by kernel_rfl) ?_; refine RunL.val (by exact rfl) (loc_fieldAddr rfl) ?_; refine RunL.val (by exact rfl) (loc_load rfl rfl rfl) ?_; refine RunL.val (by exact rfl) (loc_build (by exact rfl) (by exact Cut.all (by exact rfl)) (by exact rfl)) ?_; refine RunL.mem (by exact rfl) (loc_allocD rfl rfl) ?_; refine RunL.eff (by exact rfl) (loc_storeW rfl rfl rfl rfl (by exact rfl) (by exact rfl)) ?_; refine RunL.nil ?_; refine AW.seq ?_; refine AW.seq ?_; refine AW.region (by kernel_rfl) ?_; refine RunL.val (by exact rfl) (loc_fieldAddr rfl) ?_; refine RunL.val (by exact rfl) (loc_load rfl rfl rfl) ?_; refine RunL.val (by exact rfl) (loc_lenSl rfl) ?_; refine RunL.val (by exact rfl) (loc_moveC rfl) ?_; refine RunL.nil ?_; refine AW.block ?_
      refine AW.gh (gh_lit [(2, .one (.ptr 2 0)), (3, .one (.ptr 3 0)), (4, .one (.ptr 4 0)), (5, .one (.ptr 5 0)), (26, .one (slOf 2 (tyRows a.l))), (27, .one (.int .i64 ((tyRows a.l).length : Nat))), (28, .one (.int .i64 ((0 : Nat) : Int)))] [(2, .obj a.c), (3, .obj b.c), (4, .obj [.int .i64 0, .nilsl]), (5, .obj [.int .i64 a.k, .own 105 0 0]), (105, .row 24 2 0 [])] [] [105] ⟨(WkU.of_eq rfl trivial), (WkU.of_eq rfl trivial), (WkU.of_eq rfl trivial), (WkU.of_eq rfl trivial), (by exact WkU.of_eq rfl trivial), (WkU.of_eq rfl trivial), (WkU.of_eq rfl trivial), trivial⟩ ⟨(by exact Or.inl ⟨_, rfl, WkBlk.refl _⟩), (by exact Or.inl ⟨_, rfl, WkBlk.refl _⟩), (by exact Or.inl ⟨_, rfl, WkBlk.refl _⟩), (by (refine Or.inl ⟨_, rfl, ?_⟩; show All2 _ _ _; refine And.intro ?_ ?_; exact WkC.le (LeC.refl _); refine And.intro ?_ ?_; exact WkC.nil (List.mem_cons_self ..); exact trivial)), (by exact Or.inr ⟨rfl, List.mem_cons_self .., _, _, by decide, rfl⟩), trivial⟩ trivial ⟨rfl, trivial⟩ rfl rfl ⟨⟨_, rfl⟩, ⟨_, rfl⟩, ⟨_, rfl⟩, ⟨_, rfl⟩, trivial, trivial, trivial, trivial⟩ ⟨(by refine And.intro ?_ ?_; exact trivial; refine And.intro ?_ ?_; exact trivial; exact trivial), (by refine And.intro ?_ ?_; exact trivial; refine And.intro ?_ ?_; exact trivial; exact trivial), (by refine And.intro ?_ ?_; exact trivial; refine And.intro ?_ ?_; exact trivial; exact trivial), (by refine And.intro ?_ ?_; exact trivial; refine And.intro ?_ ?_; exact ⟨_, _, _, _, rfl, Nat.le_refl _⟩; exact trivial), (okRows_closed (by exact rfl)), trivial⟩) ?_
      refine AW.lenSl 26 rfl fun hmax => ?_
      refine AW.loop (fun m t h => ∃ i : Nat, i ≤ a.l.length ∧ m = a.l.length - i ∧ t = tOfL [(2, .one (.ptr 2 0)), (3, .one (.ptr 3 0)), (4, .one (.ptr 4 0)), (5, .one (.ptr 5 0)), (26, .one (slOf 2 (tyRows a.l))), (27, .one (.int .i64 ((tyRows a.l).length : Nat))), (28, .one (.int .i64 ((i : Nat) : Int)))] ∧ h = ofL [(2, .obj a.c), (3, .obj b.c), (4, .obj [.int .i64 0, .nilsl]), (5, .obj [.int .i64 a.k, .own 105 (i) (i)]), (105, .row 24 2 (i) (tyRows ((joinL a.l b.l).take (i))))]) a.l.length ⟨0, Nat.zero_le _, rfl, rfl, rfl⟩ ?_
      rintro m t h ⟨i, hi, rfl, rfl, rfl⟩
      have hL := tyRows_length a.l
      have htk : (tyRows ((joinL a.l b.l).take i)).length = i := by rw [tyRows_length, List.length_take]; omega
      cases hlt : decide ((i : Int) < ((tyRows a.l).length : Nat)) with
      | false =>
        have hil : i = a.l.length := by simp at hlt; omega
        refine AW.seq ?_; refine AW.region (by kernel_rfl) ?_; refine RunL.val (by exact rfl) (loc_binInt rfl rfl rfl) ?_; refine RunL.nil ?_; refine AW.seq ?_; refine AW.condFa (by exact rfl) (by assumption) ?_; refine AW.exit ?_; refine AW.seq ?_; refine AW.region (by kernel_rfl) ?_; refine RunL.val (by exact rfl) (loc_loadA rfl rfl (by exact Cut.all (by exact rfl))) ?_; refine RunL.eff (by exact rfl) (loc_storeW rfl rfl rfl rfl (by exact rfl) (by exact rfl)) ?_; refine RunL.nil ?_; refine AW.ret ?_
        refine rq ?_
        refine ret_cell (by exact .inr rfl) (by exact rfl) (by exact rfl) (by exact rfl) [105] (by exact ⟨⟨_, rfl, closed_tyRows _⟩, trivial⟩) (l' := (Ty.mk a.k (joinL a.l b.l)).c) (by exact ⟨.le (.refl _), .row (List.mem_cons_self ..) rfl htk (by rw [hil, ← hjl, List.take_length]; exact LeRows.refl _), trivial⟩) (by exact ⟨trivial, trivial, trivial⟩) (by exact rfl)
      | true =>
        have hil : i < a.l.length := by simp at hlt; omega
        have hilb : i < b.l.length := by omega
        have hr1 := tyRows_get hil
        have hr2 := tyRows_get hilb
        refine AW.seq ?_; refine AW.region (by kernel_rfl) ?_; refine RunL.val (by exact rfl) (loc_binInt rfl rfl rfl) ?_; refine RunL.nil ?_; refine AW.seq ?_; refine AW.condTa (by exact rfl) (by assumption) ?_; refine AW.skip ?_; refine AW.seq ?_; refine AW.block ?_; refine AW.seq ?_; refine AW.region (by kernel_rfl) ?_; refine RunL.val (by exact rfl) (loc_moveC rfl) ?_; refine RunL.val (by exact rfl) (loc_assignC rfl) ?_; refine RunL.nil ?_; refine AW.regionD (by kernel_rfl) (by kernel_rfl) (by kernel_rfl) ?_; refine RunL.val (by exact rfl) (loc_fieldAddr rfl) ?_; refine RunL.val (by exact rfl) (loc_load rfl rfl rfl) ?_; refine RunL.val (by exact rfl) (loc_fieldAddr rfl) ?_; refine RunL.val (by exact rfl) (loc_load rfl rfl rfl) ?_; refine RunL.val (by exact rfl) (loc_moveC rfl) ?_; refine RunL.val (by exact rfl) (loc_indexSl _ rfl rfl rfl (by assumption) rfl) ?_; refine RunL.val (by exact rfl) (loc_loadFA rfl (by exact Cut.all (by exact rfl))) ?_; refine RunL.val (by exact rfl) (loc_fieldAddr rfl) ?_; refine RunL.val (by exact rfl) (loc_load rfl rfl rfl) ?_; refine RunL.val (by exact rfl) (loc_moveC rfl) ?_; refine RunL.val (by exact rfl) (loc_indexSl _ rfl rfl rfl (by assumption) rfl) ?_; refine RunL.val (by exact rfl) (loc_loadFA rfl (by exact Cut.all (by exact rfl))) ?_
        refine RunL.val (by exact rfl) (loc_fun (ih a.l[i] (List.getElem_mem _) b.l[i] (hthin.part' _ (List.getElem_mem _))) rfl (by refine ⟨_, _, rfl, (by exact LeU.of_eq rfl trivial), (by (refine And.intro ?_ ?_; exact trivial; refine And.intro ?_ ?_; exact trivial; exact trivial)), ?_⟩; refine ⟨_, _, rfl, (by exact LeU.of_eq rfl trivial), (by (refine And.intro ?_ ?_; exact trivial; refine And.intro ?_ ?_; exact trivial; exact trivial)), ?_⟩; exact rfl)) ?_
        refine RunL.val (by exact rfl) (loc_sliceLit (by exact rfl) (by exact rfl) (by decide) (by decide) (by exact RowsOf.cons (by exact rfl) RowsOf.nil) (by exact AllP.cons (by exact rfl) AllP.nil) (by exact rfl)) ?_
        refine RunL.mem (by exact rfl) (loc_appendAll (by exact rfl) (by exact rfl) (by exact rfl) (by exact .inl rfl) (by exact htk) (by exact ⟨rfl, trivial⟩) (by simp only [List.length_cons, List.length_nil]; omega) (by decide)) ?_
        have hrows : tyRows ((joinL a.l b.l).take i) ++ [(a.l[i].join b.l[i]).c] = tyRows ((joinL a.l b.l).take (i + 1)) := by
          rw [joinL_take hil hilb, tyRows_append]; simp [tyRows, Ty.cells_c]
        rw [hrows]
        refine RunL.val (by exact rfl) (loc_fieldAddr rfl) ?_; refine RunL.eff (by exact rfl) (loc_store (by exact rfl) (by exact rfl) (by exact rfl) (by exact rfl) (by exact rfl) (by exact Nat.le_of_ble_eq_true rfl) (by exact rfl)) ?_; refine RunL.nilD (by kernel_rfl) ?_; refine AW.region (by kernel_rfl) ?_; refine RunL.val (by exact rfl) (loc_inc rfl rfl (by omega)) ?_; refine RunL.val (by exact rfl) (loc_moveC rfl) ?_; refine RunL.nil ?_
        exact ⟨a.l.length - (i + 1), _, _, by omega, (gh_lit [(2, .one (.ptr 2 0)), (3, .one (.ptr 3 0)), (4, .one (.ptr 4 0)), (5, .one (.ptr 5 0)), (26, .one (slOf 2 (tyRows a.l))), (27, .one (.int .i64 ((tyRows a.l).length : Nat))), (28, .one (.int .i64 ((i + 1 : Nat) : Int)))] [(2, .obj a.c), (3, .obj b.c), (4, .obj [.int .i64 0, .nilsl]), (5, .obj [.int .i64 a.k, .own 105 (i + 1) (i + 1)]), (105, .row 24 2 (i + 1) (tyRows ((joinL a.l b.l).take (i + 1))))] [] [] ⟨(WkU.of_eq rfl trivial), (WkU.of_eq rfl trivial), (WkU.of_eq rfl trivial), (WkU.of_eq rfl trivial), (by exact WkU.of_eq rfl trivial), (WkU.of_eq rfl trivial), (WkU.of_eq rfl trivial), trivial⟩ ⟨(by exact Or.inl ⟨_, rfl, WkBlk.refl _⟩), (by exact Or.inl ⟨_, rfl, WkBlk.refl _⟩), (by exact Or.inl ⟨_, rfl, WkBlk.refl _⟩), (by exact Or.inl ⟨_, rfl, WkBlk.refl _⟩), (by exact Or.inl ⟨_, rfl, WkBlk.refl _⟩), trivial⟩ trivial trivial rfl rfl ⟨⟨_, rfl⟩, ⟨_, rfl⟩, ⟨_, rfl⟩, ⟨_, rfl⟩, trivial, trivial, trivial, trivial⟩ ⟨(by refine And.intro ?_ ?_; exact trivial; refine And.intro ?_ ?_; exact trivial; exact trivial), (by refine And.intro ?_ ?_; exact trivial; refine And.intro ?_ ?_; exact trivial; exact trivial), (by refine And.intro ?_ ?_; exact trivial; refine And.intro ?_ ?_; exact trivial; exact trivial), (by refine And.intro ?_ ?_; exact trivial; refine And.intro ?_ ?_; exact ⟨_, _, _, _, rfl, Nat.le_refl _⟩; exact trivial), (okRows_closed (by exact closed_tyRows _)), trivial⟩), i + 1, by omega, rfl, rfl, rfl⟩
end Go.Proofs.YtnflnbdlgdjfmaaDoor
