/-
  The walks of Check, Sites and Erase. Conditions: the term is not too large, its numbers are ints.
-/
import Derived.Test.YtnflnbdlgdjfmaaDoorChkW
import Derived.Test.YtnflnbdlgdjfmaaDoorChkD
namespace Go.Proofs.YtnflnbdlgdjfmaaDoor
open Go.RowKit
set_option linter.unusedVariables false
set_option linter.unusedSimpArgs false
set_option maxRecDepth 100000
attribute [local irreducible] RunL AW LocOp ACalls Gh

theorem closed_siteRows : ∀ l : List Site, closedRows (siteRows l) = true
  | [] => rfl
  | a :: l => by
    show closedRows (a.c :: siteRows l) = true
    simp only [closedRows, closed_siteRows l, Bool.and_true]; rfl

set_option maxHeartbeats 1000000 in
theorem check_a (a : Tm) (hok : TmOk a) (hsz : a.nodes ≤ 1048576) : ACalls Tryd.prog 12 [a.u] [] (checkU a) [] := by
  refine acalls_of_body Tryd.func12 rfl (by kernel_rfl) (Nat.le_of_ble_eq_true rfl) trivial (by simp [namesL]) ?_
  refine AW.seq ?_; refine AW.region (by kernel_rfl) ?_; refine RunL.mem (by exact rfl) (loc_boxD rfl rfl rfl) ?_; refine RunL.mem (by exact rfl) (loc_allocD rfl rfl) ?_; refine RunL.mem (by exact rfl) (loc_allocD rfl rfl) ?_; refine RunL.val (by exact rfl) (loc_assignC rfl) ?_; refine RunL.nil ?_; refine AW.seq ?_; refine AW.seq ?_; refine AW.region (by kernel_rfl) ?_; refine RunL.val (by exact rfl) (loc_loadA rfl rfl (by exact Cut.all (by exact rfl))) ?_
  refine RunL.val (by exact rfl) (loc_fun (tGood_a a 0 hok hsz) rfl (by refine ⟨_, _, rfl, (by exact LeU.of_eq rfl trivial), (by (refine And.intro ?_ ?_; exact trivial; refine And.intro ?_ ?_; exact trivial; refine And.intro ?_ ?_; exact trivial; refine And.intro ?_ ?_; exact trivial; refine And.intro ?_ ?_; exact trivial; refine And.intro ?_ ?_; exact trivial; refine And.intro ?_ ?_; exact trivial; exact trivial)), ?_⟩; refine ⟨_, _, rfl, (by exact LeU.of_eq rfl trivial), (by exact trivial), ?_⟩; exact rfl)) ?_
  cases hg : a.Good 0 with
  | false =>
    refine RunL.val (by exact rfl) (loc_not rfl) ?_; refine RunL.nil ?_; refine AW.condT (by exact rfl) ?_; refine AW.seq ?_; refine AW.region (by kernel_rfl) ?_; refine RunL.val (by exact rfl) (loc_build (by exact rfl) (by exact Cut.all (by exact rfl)) (by exact rfl)) ?_; refine RunL.val (by exact rfl) (loc_build (by exact rfl) (by exact Cut.all (by exact rfl)) (by exact rfl)) ?_; refine RunL.eff (by exact rfl) (loc_storeW rfl rfl rfl rfl (by exact rfl) (by exact rfl)) ?_; refine RunL.eff (by exact rfl) (loc_storeW rfl rfl rfl rfl (by exact rfl) (by exact rfl)) ?_; refine RunL.val (by exact rfl) (loc_assignC rfl) ?_; refine RunL.nil ?_; refine AW.ret ?_
    rw [show checkU a = errU 1 by unfold checkU; rw [hg]; rfl]
    refine rq ?_
    refine ret_cct (by exact .inr rfl) (by exact rfl) (by exact rfl) (by exact rfl) (by exact rfl) (by exact rfl) (by exact rfl) (by exact rfl) [] trivial (l' := Tm.zero.c) (k' := Ty.any.c)
      (by exact ⟨.le (.refl _), .le (.refl _), .le (.refl _), .le (.nil _), .le (.refl _), .le (.nil _), .le (.nil _), trivial⟩) (by exact ⟨.le (.refl _), .le (.nil _), trivial⟩) (by exact .le (.refl _)) (by exact trivial) (by exact rfl) (by refine And.intro ?_ ?_; refine And.intro ?_ ?_; exact trivial; refine And.intro ?_ ?_; exact trivial; refine And.intro ?_ ?_; exact trivial; refine And.intro ?_ ?_; exact trivial; refine And.intro ?_ ?_; exact trivial; refine And.intro ?_ ?_; exact trivial; refine And.intro ?_ ?_; exact trivial; exact trivial; refine And.intro ?_ ?_; refine And.intro ?_ ?_; exact trivial; refine And.intro ?_ ?_; exact trivial; exact trivial; refine And.intro ?_ ?_; exact trivial; exact trivial) (by exact trivial) (by exact rfl)
  | true =>
    have hg' := hg
    unfold Tm.Good at hg'
    simp only [Bool.and_eq_true, decide_eq_true_eq] at hg'
    have hw := walk_a a [] 0 hg'.2 hok (fun t ht => by cases ht) (Int.le_refl 0) (by omega) (by simp; omega)
    rw [show checkU a = walkU (walkT a [] 0) by unfold checkU; rw [hg]; rfl]
    refine RunL.val (by exact rfl) (loc_not rfl) ?_; refine RunL.nil ?_; refine AW.condF (by exact rfl) ?_; refine AW.skip ?_; refine AW.seq ?_; refine AW.region (by kernel_rfl) ?_; refine RunL.val (by exact rfl) (loc_build (by exact rfl) (by exact Cut.all (by exact rfl)) (by exact rfl)) ?_
    refine RunL.mem (by exact rfl) (loc_box 1000 (by exact rfl) (by exact rfl) (by exact rfl) (by exact rfl)) ?_
    refine RunL.val (by exact rfl) (loc_assignC rfl) ?_; refine RunL.nil ?_; refine AW.seq ?_; refine AW.region (by kernel_rfl) ?_; refine RunL.val (by exact rfl) (loc_moveC rfl) ?_; refine RunL.val (by exact rfl) (loc_loadA rfl rfl (by exact Cut.all (by exact rfl))) ?_
    refine RunL.many (by exact rfl) (loc_funE hw rfl (by refine ⟨_, _, rfl, (by exact LeU.of_eq rfl trivial), (by exact Exists.intro _ rfl), ?_⟩; refine ⟨_, _, rfl, (by exact LeU.of_eq rfl trivial), (by (refine And.intro ?_ ?_; exact trivial; refine And.intro ?_ ?_; exact trivial; refine And.intro ?_ ?_; exact trivial; refine And.intro ?_ ?_; exact trivial; refine And.intro ?_ ?_; exact trivial; refine And.intro ?_ ?_; exact trivial; refine And.intro ?_ ?_; exact trivial; exact trivial)), ?_⟩; refine ⟨_, _, rfl, (by exact LeU.one' rfl (LeC.nil _)), (by exact trivial), ?_⟩; exact rfl) (by exact ⟨rfl, trivial⟩) (by exact rfl) (by simp [namesL]) (by exact ⟨⟨trivial, trivial⟩, trivial⟩)) ?_
    cases hq : walkT a [] 0 with
    | none =>
      refine RunL.val (by exact rfl) (loc_extractA rfl rfl) ?_; refine RunL.val (by exact rfl) (loc_extractA rfl rfl) ?_; refine RunL.val (by exact rfl) (loc_extractC rfl rfl) ?_; refine RunL.eff (by exact rfl) (loc_storeW rfl rfl rfl rfl (by exact rfl) (by exact rfl)) ?_; refine RunL.eff (by exact rfl) (loc_storeW rfl rfl rfl rfl (by exact rfl) (by exact rfl)) ?_; refine RunL.val (by exact rfl) (loc_assignC rfl) ?_; refine RunL.nil ?_; refine AW.ret ?_
      refine rq ?_
      refine ret_cct (by exact .inr rfl) (by exact rfl) (by exact rfl) (by exact rfl) (by exact rfl) (by exact rfl) (by exact rfl) (by exact rfl) [] trivial (l' := Tm.zero.c) (k' := Ty.any.c)
        (by exact wkRow_refl _) (by exact wkRow_refl _) (by exact .le (.refl _)) (by exact trivial) (by exact rfl) (by refine And.intro ?_ ?_; refine And.intro ?_ ?_; exact trivial; refine And.intro ?_ ?_; exact trivial; refine And.intro ?_ ?_; exact trivial; refine And.intro ?_ ?_; exact trivial; refine And.intro ?_ ?_; exact trivial; refine And.intro ?_ ?_; exact trivial; refine And.intro ?_ ?_; exact trivial; exact trivial; refine And.intro ?_ ?_; refine And.intro ?_ ?_; exact trivial; refine And.intro ?_ ?_; exact trivial; exact trivial; refine And.intro ?_ ?_; exact trivial; exact trivial) (by exact trivial) (by exact rfl)
    | some q =>
      obtain ⟨x, k⟩ := q
      refine RunL.val (by exact rfl) (loc_extractA rfl rfl) ?_; refine RunL.val (by exact rfl) (loc_extractA rfl rfl) ?_; refine RunL.val (by exact rfl) (loc_extractC rfl rfl) ?_; refine RunL.eff (by exact rfl) (loc_storeW rfl rfl rfl rfl (by exact rfl) (by exact rfl)) ?_; refine RunL.eff (by exact rfl) (loc_storeW rfl rfl rfl rfl (by exact rfl) (by exact rfl)) ?_; refine RunL.val (by exact rfl) (loc_assignC rfl) ?_; refine RunL.nil ?_; refine AW.ret ?_
      refine rq ?_
      refine ret_cct (by exact .inr rfl) (by exact rfl) (by exact rfl) (by exact rfl) (by exact rfl) (by exact rfl) (by exact rfl) (by exact rfl) [] trivial (l' := x.c) (k' := k.c)
        (by exact wkRow_refl _) (by exact wkRow_refl _) (by exact .le (.refl _)) (by exact trivial) (by exact rfl) (by refine And.intro ?_ ?_; refine And.intro ?_ ?_; exact trivial; refine And.intro ?_ ?_; exact trivial; refine And.intro ?_ ?_; exact trivial; refine And.intro ?_ ?_; exact trivial; refine And.intro ?_ ?_; exact trivial; refine And.intro ?_ ?_; exact trivial; refine And.intro ?_ ?_; exact trivial; exact trivial; refine And.intro ?_ ?_; refine And.intro ?_ ?_; exact trivial; refine And.intro ?_ ?_; exact trivial; exact trivial; refine And.intro ?_ ?_; exact trivial; exact trivial) (by exact trivial) (by exact rfl)

/-- A row of the call's own is answered. -/
theorem ret_own {P : Program} {x : Tmp} {b v n k : Nat} {e' : TypeId} {rows rows' : List (List C)} {e : Exit} {t : Nat → U} {h : Nat → Option Blk} (he : e = .normal ∨ e = .ret) (hx : t x = .one (.own b v n)) (hb : h b = some (.row e' k v rows)) (hn : rows.length = n) (hc : closedRows rows = true) (hr : rows = rows') : RetQ P #[.tmp x] (.one (slOf k rows')) [] e t h := by
  subst hr
  exact ret_one he hx trivial [b] ⟨⟨_, hb, hc⟩, trivial⟩ (WkC.row (List.mem_cons_self ..) hb hn (LeRows.refl _)) trivial

set_option maxHeartbeats 1000000 in
theorem sites_a : ∀ a : Tm, a.nodes ≤ 1048576 → ACalls Tryd.prog 19 [a.u] [] (.one (slOf 5 (siteRows (sitesT a)))) [] := by
  intro a
  induction a using Tm.ind' with
  | h a ih =>
  intro hsz
  have hne := nodes_eta a
  refine acalls_of_body Tryd.func19 rfl (by kernel_rfl) (Nat.le_of_ble_eq_true rfl) trivial (by simp [namesL]) ?_
  refine AW.seq ?_; refine AW.region (by kernel_rfl) ?_; refine RunL.mem (by exact rfl) (loc_boxD rfl rfl rfl) ?_; refine RunL.val (by exact rfl) (loc_assignC rfl) ?_; refine RunL.nil ?_; refine AW.seq ?_; refine AW.region (by kernel_rfl) ?_; refine RunL.val (by exact rfl) (loc_assignC rfl) ?_; refine RunL.nil ?_; refine AW.seq ?_; refine AW.seq ?_; refine AW.region (by kernel_rfl) ?_; refine RunL.val (by exact rfl) (loc_fieldAddr rfl) ?_; refine RunL.val (by exact rfl) (loc_load rfl rfl rfl) ?_; refine RunL.val (by exact rfl) (loc_binInt rfl rfl rfl) ?_; refine RunL.nil ?_
  refine AW.midB (fun t h => t = tOfL [(1, .one (.ptr 1 0)), (3, .one (.own 18 (0) (ownSite a).length))] ∧ h = ofL [(1, .obj a.c), (18, .row 48 5 0 (siteRows (ownSite a)))]) ?_ ?_
  · cases h10 : (a.k == 10) with
    | false =>
      refine AW.condF (by exact rfl) ?_; refine AW.skip ?_
      have hs : ownSite a = [] := by unfold ownSite; rw [h10]; rfl
      rw [hs]
      exact ⟨_, _, (gh_lit [(1, .one (.ptr 1 0)), (3, .one (.own 18 0 0))] [(1, .obj a.c), (18, .row 48 5 0 [])] [] [18] ⟨(WkU.of_eq rfl trivial), (by exact WkC.nil (List.mem_cons_self ..)), trivial⟩ ⟨(by exact Or.inl ⟨_, rfl, WkBlk.refl _⟩), (by exact Or.inr ⟨rfl, List.mem_cons_self .., _, _, by decide, rfl⟩), trivial⟩ trivial ⟨rfl, trivial⟩ rfl rfl ⟨⟨_, rfl⟩, ⟨_, _, _, _, rfl, Nat.le_refl _⟩, trivial⟩ ⟨(by refine And.intro ?_ ?_; exact trivial; refine And.intro ?_ ?_; exact trivial; refine And.intro ?_ ?_; exact trivial; refine And.intro ?_ ?_; exact trivial; refine And.intro ?_ ?_; exact trivial; refine And.intro ?_ ?_; exact trivial; refine And.intro ?_ ?_; exact trivial; exact trivial), (okRows_closed (by exact rfl)), trivial⟩), rfl, rfl⟩
    | true =>
      have hs : ownSite a = [⟨a.n, a.f, a.t⟩] := by unfold ownSite; rw [h10]; rfl
      refine AW.condT (by exact rfl) ?_; refine AW.region (by kernel_rfl) ?_; refine RunL.val (by exact rfl) (loc_moveC rfl) ?_; refine RunL.val (by exact rfl) (loc_fieldAddr rfl) ?_; refine RunL.val (by exact rfl) (loc_load rfl rfl rfl) ?_; refine RunL.val (by exact rfl) (loc_fieldAddr rfl) ?_; refine RunL.val (by exact rfl) (loc_loadA rfl rfl (by exact Cut.cons (by exact rfl) (Cut.cons (by exact rfl) Cut.nil))) ?_; refine RunL.val (by exact rfl) (loc_fieldAddr rfl) ?_; refine RunL.val (by exact rfl) (loc_loadA rfl rfl (by exact Cut.cons (by exact rfl) (Cut.cons (by exact rfl) Cut.nil))) ?_; refine RunL.val (by exact rfl) (loc_build (by exact rfl) (by exact Cut.all (by exact rfl)) (by exact rfl)) ?_; refine RunL.val (by exact rfl) (loc_sliceLit (by exact rfl) (by exact rfl) (by decide) (by decide) (by exact RowsOf.cons (by exact rfl) RowsOf.nil) (by exact AllP.cons (by exact rfl) AllP.nil) (by exact rfl)) ?_
      refine RunL.mem (by exact rfl) (loc_appendD (rows := []) (by exact rfl) (by exact rfl) (by exact .inr ⟨rfl, rfl⟩) (by exact .inl rfl) (by simp) (by exact ⟨rfl, trivial⟩) (by intro r hr; cases hr) (by exact rfl) (by exact rfl) (by simp) (by decide)) ?_
      refine RunL.val (by exact rfl) (loc_assignC rfl) ?_; refine RunL.nil ?_
      rw [hs]
      exact ⟨_, _, (gh_lit [(1, .one (.ptr 1 0)), (3, .one (.own 18 0 1))] [(1, .obj a.c), (18, .row 48 5 0 [(Site.mk a.n a.f a.t).c])] [] [] ⟨(WkU.of_eq rfl trivial), (by exact WkU.of_eq rfl trivial), trivial⟩ ⟨(by exact Or.inl ⟨_, rfl, WkBlk.refl _⟩), (by exact Or.inl ⟨_, rfl, WkBlk.refl _⟩), trivial⟩ trivial trivial rfl rfl ⟨⟨_, rfl⟩, ⟨_, _, _, _, rfl, Nat.le_refl _⟩, trivial⟩ ⟨(by refine And.intro ?_ ?_; exact trivial; refine And.intro ?_ ?_; exact trivial; refine And.intro ?_ ?_; exact trivial; refine And.intro ?_ ?_; exact trivial; refine And.intro ?_ ?_; exact trivial; refine And.intro ?_ ?_; exact trivial; refine And.intro ?_ ?_; exact trivial; exact trivial), (okRows_closed (by exact rfl)), trivial⟩), rfl, rfl⟩
  · rintro t h ⟨rfl, rfl⟩
    have hs1 : (ownSite a).length ≤ 1 := by unfold ownSite; split <;> simp
    have hsl : ∀ i, (sitesL (a.l.take i)).length ≤ a.nodes := fun i => by
      have h1 := nodesL_take_le a.l i
      have h2 : ∀ l : List Tm, (sitesL l).length ≤ nodesL l := by
        intro l
        induction l with
        | nil => simp [sitesL]
        | cons b l ihl => have := sites_len b; simp only [sitesL, nodesL, List.length_append]; omega
      have := h2 (a.l.take i)
      omega
    rw [show ownSite a = ownSite a ++ sitesL (a.l.take 0) by simp [sitesL]]
    refine AW.seq ?_; refine AW.seq ?_; refine AW.region (by kernel_rfl) ?_; refine RunL.val (by exact rfl) (loc_fieldAddr rfl) ?_; refine RunL.val (by exact rfl) (loc_load rfl rfl rfl) ?_; refine RunL.val (by exact rfl) (loc_lenSl rfl) ?_; refine RunL.val (by exact rfl) (loc_moveC rfl) ?_; refine RunL.nil ?_; refine AW.block ?_
    refine AW.gh (gh_lit [(3, .one (.own 18 (0) (ownSite a ++ sitesL (a.l.take (0))).length)), (20, .one (slOf 7 (tmRows a.l))), (21, .one (.int .i64 ((tmRows a.l).length : Nat))), (22, .one (.int .i64 ((0 : Nat) : Int)))] [(18, .row 48 5 (0) (siteRows (ownSite a ++ sitesL (a.l.take (0)))))] [] [] ⟨(by exact WkU.of_eq rfl trivial), (by exact WkU.of_eq rfl trivial), (WkU.of_eq rfl trivial), (WkU.of_eq rfl trivial), trivial⟩ ⟨(by exact Or.inl ⟨_, rfl, WkBlk.refl _⟩), trivial⟩ trivial trivial rfl rfl ⟨⟨_, _, _, _, rfl, Nat.le_refl _⟩, trivial, trivial, trivial, trivial⟩ ⟨(okRows_closed (by exact closed_siteRows _)), trivial⟩) ?_
    refine AW.lenSl 20 rfl fun hmax => ?_
    refine AW.loop (fun m t h => ∃ i v : Nat, i ≤ a.l.length ∧ m = a.l.length - i ∧ t = tOfL [(3, .one (.own 18 (v) (ownSite a ++ sitesL (a.l.take (i))).length)), (20, .one (slOf 7 (tmRows a.l))), (21, .one (.int .i64 ((tmRows a.l).length : Nat))), (22, .one (.int .i64 ((i : Nat) : Int)))] ∧ h = ofL [(18, .row 48 5 (v) (siteRows (ownSite a ++ sitesL (a.l.take (i)))))]) a.l.length ⟨0, 0, Nat.zero_le _, rfl, rfl, rfl⟩ ?_
    rintro m t h ⟨i, v, hi, rfl, rfl, rfl⟩
    have hL := tmRows_length a.l
    cases hlt : decide ((i : Int) < ((tmRows a.l).length : Nat)) with
    | false =>
      have hil : i = a.l.length := by simp at hlt; omega
      refine AW.seq ?_; refine AW.region (by kernel_rfl) ?_; refine RunL.val (by exact rfl) (loc_binInt rfl rfl rfl) ?_; refine RunL.nil ?_; refine AW.seq ?_; refine AW.condFa (by exact rfl) (by assumption) ?_; refine AW.exit ?_; refine AW.seq ?_; refine AW.region (by kernel_rfl) ?_; refine RunL.val (by exact rfl) (loc_moveC rfl) ?_; refine RunL.val (by exact rfl) (loc_assignC rfl) ?_; refine RunL.nil ?_; refine AW.ret ?_
      refine rq ?_
      exact ret_own (.inr rfl) rfl rfl (by simp [siteRows]) (closed_siteRows _) (by rw [hil, List.take_length, sitesT_eta])
    | true =>
      have hil : i < a.l.length := by simp at hlt; omega
      have hr1 := tmRows_get hil
      have hn3 := nodes_mem (List.getElem_mem hil)
      have hsn := sites_len a.l[i]
      have hb := hsl i
      refine AW.seq ?_; refine AW.region (by kernel_rfl) ?_; refine RunL.val (by exact rfl) (loc_binInt rfl rfl rfl) ?_; refine RunL.nil ?_; refine AW.seq ?_; refine AW.condTa (by exact rfl) (by assumption) ?_; refine AW.skip ?_; refine AW.seq ?_; refine AW.block ?_; refine AW.seq ?_; refine AW.region (by kernel_rfl) ?_; refine RunL.val (by exact rfl) (loc_indexSl _ rfl rfl rfl (by assumption) rfl) ?_; refine RunL.val (by exact rfl) (loc_loadFA rfl (by exact Cut.all (by exact rfl))) ?_; refine RunL.mem (by exact rfl) (loc_allocD rfl rfl) ?_; refine RunL.eff (by exact rfl) (loc_storeW rfl rfl rfl rfl (by exact rfl) (by exact rfl)) ?_; refine RunL.nil ?_; refine AW.region (by kernel_rfl) ?_; refine RunL.val (by exact rfl) (loc_moveC rfl) ?_; refine RunL.val (by exact rfl) (loc_loadA rfl rfl (by exact Cut.all (by exact rfl))) ?_
      refine RunL.val (by exact rfl) (loc_fun (ih a.l[i] (List.getElem_mem _) (by omega)) rfl (by refine ⟨_, _, rfl, (by exact LeU.of_eq rfl trivial), (by (refine And.intro ?_ ?_; exact trivial; refine And.intro ?_ ?_; exact trivial; refine And.intro ?_ ?_; exact trivial; refine And.intro ?_ ?_; exact trivial; refine And.intro ?_ ?_; exact trivial; refine And.intro ?_ ?_; exact trivial; refine And.intro ?_ ?_; exact trivial; exact trivial)), ?_⟩; exact rfl)) ?_
      refine RunL.mem (by exact rfl) (loc_appendAll (by exact rfl) (by exact rfl) (by exact rfl) (by exact .inr (.inl rfl)) (by simp [siteRows]) (allP_iff.2 (siteRows_len5 _)) (by simp only [siteRows, List.length_map, List.length_append]; omega) (by decide)) ?_
      have e1 : siteRows (ownSite a ++ sitesL (a.l.take i)) ++ siteRows (sitesT a.l[i]) = siteRows (ownSite a ++ sitesL (a.l.take (i + 1))) := by
        rw [sitesL_take hil, ← siteRows_append, List.append_assoc]
      have e2 : (ownSite a ++ sitesL (a.l.take i)).length + (siteRows (sitesT a.l[i])).length = (ownSite a ++ sitesL (a.l.take (i + 1))).length := by
        rw [sitesL_take hil]; simp [siteRows]; omega
      rw [e1, e2]
      refine RunL.val (by exact rfl) (loc_assignC rfl) ?_; refine RunL.nil ?_; refine AW.region (by kernel_rfl) ?_; refine RunL.val (by exact rfl) (loc_inc rfl rfl (by omega)) ?_; refine RunL.val (by exact rfl) (loc_moveC rfl) ?_; refine RunL.nil ?_
      exact ⟨a.l.length - (i + 1), _, _, by omega, (gh_lit [(3, .one (.own 18 (v + 1) (ownSite a ++ sitesL (a.l.take ((i + 1)))).length)), (20, .one (slOf 7 (tmRows a.l))), (21, .one (.int .i64 ((tmRows a.l).length : Nat))), (22, .one (.int .i64 (((i + 1) : Nat) : Int)))] [(18, .row 48 5 (v + 1) (siteRows (ownSite a ++ sitesL (a.l.take ((i + 1))))))] [] [] ⟨(by exact WkU.of_eq rfl trivial), (by exact WkU.of_eq rfl trivial), (WkU.of_eq rfl trivial), (WkU.of_eq rfl trivial), trivial⟩ ⟨(by exact Or.inl ⟨_, rfl, WkBlk.refl _⟩), trivial⟩ trivial trivial rfl rfl ⟨⟨_, _, _, _, rfl, Nat.le_refl _⟩, trivial, trivial, trivial, trivial⟩ ⟨(okRows_closed (by exact closed_siteRows _)), trivial⟩), i + 1, v + 1, by omega, rfl, rfl, rfl⟩

set_option maxHeartbeats 1000000 in
theorem erase_a : ∀ a : Tm, a.nodes ≤ 1048576 → ACalls Tryd.prog 20 [a.u] [] (eraseT a).u [] := by
  intro a
  induction a using Tm.ind' with
  | h a ih =>
  intro hsz
  have hne := nodes_eta a
  have hL := tmRows_length a.l
  refine acalls_of_body Tryd.func20 rfl (by kernel_rfl) (Nat.le_of_ble_eq_true rfl) trivial (by simp [namesL]) ?_
  refine AW.seq ?_
  refine AW.region (by kernel_rfl) ?_
  refine RunL.mem (by exact rfl) (loc_boxD rfl rfl rfl) ?_; refine RunL.mem (by exact rfl) (loc_allocD rfl rfl) ?_; refine RunL.nil ?_
  refine AW.seq ?_
  refine AW.seq ?_
  refine AW.midB (fun t h => t = tOfL [(1, .one (.ptr 1 0)), (2, .one (.ptr 2 0)), (19, .one (.bool ((a.k == 10 || a.k == 9) && a.l.length == 1)))] ∧ h = ofL [(1, .obj a.c), (2, .obj Tm.zero.c)]) ?_ ?_
  · have e1 : ((((tmRows a.l).length : Nat) : Int) == 1) = (a.l.length == 1) := by rw [hL, Bool.eq_iff_iff]; simp; omega
    cases h10 : (a.k == 10) with
    | true =>
      refine AW.region (by kernel_rfl) ?_; refine RunL.val (by exact rfl) (loc_fieldAddr rfl) ?_; refine RunL.val (by exact rfl) (loc_load rfl rfl rfl) ?_; refine RunL.val (by exact rfl) (loc_binInt rfl rfl rfl) ?_; refine RunL.val (by exact rfl) (loc_moveC rfl) ?_; refine RunL.skip (.inl ⟨_, _, rfl, rfl, guard_eq true (by assumption) rfl⟩) ?_; refine RunL.skip (.inl ⟨_, _, rfl, rfl, guard_eq true (by assumption) rfl⟩) ?_; refine RunL.skip (.inl ⟨_, _, rfl, rfl, guard_eq true (by assumption) rfl⟩) ?_; refine RunL.val (by exact rfl) (loc_pickI true (by assumption) rfl rfl) ?_; refine RunL.val (by exact rfl) (loc_moveC rfl) ?_; refine RunL.val (by exact .inl ⟨_, _, rfl, rfl, rfl⟩) (loc_fieldAddr rfl) ?_; refine RunL.val (by exact .inl ⟨_, _, rfl, rfl, rfl⟩) (loc_load rfl rfl rfl) ?_; refine RunL.val (by exact .inl ⟨_, _, rfl, rfl, rfl⟩) (loc_lenSl rfl) ?_; refine RunL.val (by exact .inl ⟨_, _, rfl, rfl, rfl⟩) (loc_binInt rfl rfl rfl) ?_; refine RunL.val (by exact rfl) (loc_pickT rfl rfl) ?_; refine RunL.nil ?_
      rw [e1]
      exact ⟨_, _, (gh_lit [(1, .one (.ptr 1 0)), (2, .one (.ptr 2 0)), (19, .one (.bool (a.l.length == 1)))] [(1, .obj a.c), (2, .obj Tm.zero.c)] [] [] ⟨(WkU.of_eq rfl trivial), (WkU.of_eq rfl trivial), (WkU.of_eq rfl trivial), trivial⟩ ⟨(by exact Or.inl ⟨_, rfl, WkBlk.refl _⟩), (by (refine Or.inl ⟨_, rfl, ?_⟩; show All2 _ _ _; refine And.intro ?_ ?_; exact WkC.le (LeC.refl _); refine And.intro ?_ ?_; exact WkC.le (LeC.refl _); refine And.intro ?_ ?_; exact WkC.le (LeC.refl _); refine And.intro ?_ ?_; exact WkC.le (LeC.nil _); refine And.intro ?_ ?_; exact WkC.le (LeC.refl _); refine And.intro ?_ ?_; exact WkC.le (LeC.nil _); refine And.intro ?_ ?_; exact WkC.le (LeC.nil _); exact trivial)), trivial⟩ trivial trivial rfl rfl ⟨⟨_, rfl⟩, ⟨_, rfl⟩, trivial, trivial⟩ ⟨(by refine And.intro ?_ ?_; exact trivial; refine And.intro ?_ ?_; exact trivial; refine And.intro ?_ ?_; exact trivial; refine And.intro ?_ ?_; exact trivial; refine And.intro ?_ ?_; exact trivial; refine And.intro ?_ ?_; exact trivial; refine And.intro ?_ ?_; exact trivial; exact trivial), (by refine And.intro ?_ ?_; exact trivial; refine And.intro ?_ ?_; exact trivial; refine And.intro ?_ ?_; exact trivial; refine And.intro ?_ ?_; exact trivial; refine And.intro ?_ ?_; exact trivial; refine And.intro ?_ ?_; exact trivial; refine And.intro ?_ ?_; exact trivial; exact trivial), trivial⟩), by simp, rfl⟩
    | false =>
    cases h9 : (a.k == 9) with
    | true =>
      refine AW.region (by kernel_rfl) ?_; refine RunL.val (by exact rfl) (loc_fieldAddr rfl) ?_; refine RunL.val (by exact rfl) (loc_load rfl rfl rfl) ?_; refine RunL.val (by exact rfl) (loc_binInt rfl rfl rfl) ?_; refine RunL.val (by exact rfl) (loc_moveC rfl) ?_; refine RunL.val (by exact .inl ⟨_, _, rfl, rfl, guard_eq false (by assumption) rfl⟩) (loc_fieldAddr rfl) ?_; refine RunL.val (by exact .inl ⟨_, _, rfl, rfl, guard_eq false (by assumption) rfl⟩) (loc_load rfl rfl rfl) ?_; refine RunL.val (by exact .inl ⟨_, _, rfl, rfl, guard_eq false (by assumption) rfl⟩) (loc_binInt rfl rfl rfl) ?_; refine RunL.val (by exact rfl) (loc_pickI false (by assumption) rfl rfl) ?_; refine RunL.val (by exact rfl) (loc_moveC rfl) ?_; refine RunL.val (by exact .inl ⟨_, _, rfl, rfl, guard_eq true (by assumption) rfl⟩) (loc_fieldAddr rfl) ?_; refine RunL.val (by exact .inl ⟨_, _, rfl, rfl, guard_eq true (by assumption) rfl⟩) (loc_load rfl rfl rfl) ?_; refine RunL.val (by exact .inl ⟨_, _, rfl, rfl, guard_eq true (by assumption) rfl⟩) (loc_lenSl rfl) ?_; refine RunL.val (by exact .inl ⟨_, _, rfl, rfl, guard_eq true (by assumption) rfl⟩) (loc_binInt rfl rfl rfl) ?_; refine RunL.val (by exact rfl) (loc_pickI true (by assumption) rfl rfl) ?_; refine RunL.nil ?_
      rw [e1]
      exact ⟨_, _, (gh_lit [(1, .one (.ptr 1 0)), (2, .one (.ptr 2 0)), (19, .one (.bool (a.l.length == 1)))] [(1, .obj a.c), (2, .obj Tm.zero.c)] [] [] ⟨(WkU.of_eq rfl trivial), (WkU.of_eq rfl trivial), (WkU.of_eq rfl trivial), trivial⟩ ⟨(by exact Or.inl ⟨_, rfl, WkBlk.refl _⟩), (by (refine Or.inl ⟨_, rfl, ?_⟩; show All2 _ _ _; refine And.intro ?_ ?_; exact WkC.le (LeC.refl _); refine And.intro ?_ ?_; exact WkC.le (LeC.refl _); refine And.intro ?_ ?_; exact WkC.le (LeC.refl _); refine And.intro ?_ ?_; exact WkC.le (LeC.nil _); refine And.intro ?_ ?_; exact WkC.le (LeC.refl _); refine And.intro ?_ ?_; exact WkC.le (LeC.nil _); refine And.intro ?_ ?_; exact WkC.le (LeC.nil _); exact trivial)), trivial⟩ trivial trivial rfl rfl ⟨⟨_, rfl⟩, ⟨_, rfl⟩, trivial, trivial⟩ ⟨(by refine And.intro ?_ ?_; exact trivial; refine And.intro ?_ ?_; exact trivial; refine And.intro ?_ ?_; exact trivial; refine And.intro ?_ ?_; exact trivial; refine And.intro ?_ ?_; exact trivial; refine And.intro ?_ ?_; exact trivial; refine And.intro ?_ ?_; exact trivial; exact trivial), (by refine And.intro ?_ ?_; exact trivial; refine And.intro ?_ ?_; exact trivial; refine And.intro ?_ ?_; exact trivial; refine And.intro ?_ ?_; exact trivial; refine And.intro ?_ ?_; exact trivial; refine And.intro ?_ ?_; exact trivial; refine And.intro ?_ ?_; exact trivial; exact trivial), trivial⟩), by simp, rfl⟩
    | false =>
      refine AW.region (by kernel_rfl) ?_; refine RunL.val (by exact rfl) (loc_fieldAddr rfl) ?_; refine RunL.val (by exact rfl) (loc_load rfl rfl rfl) ?_; refine RunL.val (by exact rfl) (loc_binInt rfl rfl rfl) ?_; refine RunL.val (by exact rfl) (loc_moveC rfl) ?_; refine RunL.val (by exact .inl ⟨_, _, rfl, rfl, guard_eq false (by assumption) rfl⟩) (loc_fieldAddr rfl) ?_; refine RunL.val (by exact .inl ⟨_, _, rfl, rfl, guard_eq false (by assumption) rfl⟩) (loc_load rfl rfl rfl) ?_; refine RunL.val (by exact .inl ⟨_, _, rfl, rfl, guard_eq false (by assumption) rfl⟩) (loc_binInt rfl rfl rfl) ?_; refine RunL.val (by exact rfl) (loc_pickI false (by assumption) rfl rfl) ?_; refine RunL.val (by exact rfl) (loc_moveC rfl) ?_; refine RunL.skip (.inl ⟨_, _, rfl, rfl, guard_eq false (by assumption) rfl⟩) ?_; refine RunL.skip (.inl ⟨_, _, rfl, rfl, guard_eq false (by assumption) rfl⟩) ?_; refine RunL.skip (.inl ⟨_, _, rfl, rfl, guard_eq false (by assumption) rfl⟩) ?_; refine RunL.skip (.inl ⟨_, _, rfl, rfl, guard_eq false (by assumption) rfl⟩) ?_; refine RunL.val (by exact rfl) (loc_pickI false (by assumption) rfl rfl) ?_; refine RunL.nil ?_
      exact ⟨_, _, (gh_lit [(1, .one (.ptr 1 0)), (2, .one (.ptr 2 0)), (19, .one (.bool false))] [(1, .obj a.c), (2, .obj Tm.zero.c)] [] [] ⟨(WkU.of_eq rfl trivial), (WkU.of_eq rfl trivial), (WkU.of_eq rfl trivial), trivial⟩ ⟨(by exact Or.inl ⟨_, rfl, WkBlk.refl _⟩), (by (refine Or.inl ⟨_, rfl, ?_⟩; show All2 _ _ _; refine And.intro ?_ ?_; exact WkC.le (LeC.refl _); refine And.intro ?_ ?_; exact WkC.le (LeC.refl _); refine And.intro ?_ ?_; exact WkC.le (LeC.refl _); refine And.intro ?_ ?_; exact WkC.le (LeC.nil _); refine And.intro ?_ ?_; exact WkC.le (LeC.refl _); refine And.intro ?_ ?_; exact WkC.le (LeC.nil _); refine And.intro ?_ ?_; exact WkC.le (LeC.nil _); exact trivial)), trivial⟩ trivial trivial rfl rfl ⟨⟨_, rfl⟩, ⟨_, rfl⟩, trivial, trivial⟩ ⟨(by refine And.intro ?_ ?_; exact trivial; refine And.intro ?_ ?_; exact trivial; refine And.intro ?_ ?_; exact trivial; refine And.intro ?_ ?_; exact trivial; refine And.intro ?_ ?_; exact trivial; refine And.intro ?_ ?_; exact trivial; refine And.intro ?_ ?_; exact trivial; exact trivial), (by refine And.intro ?_ ?_; exact trivial; refine And.intro ?_ ?_; exact trivial; refine And.intro ?_ ?_; exact trivial; refine And.intro ?_ ?_; exact trivial; refine And.intro ?_ ?_; exact trivial; refine And.intro ?_ ?_; exact trivial; refine And.intro ?_ ?_; exact trivial; exact trivial), trivial⟩), by simp, rfl⟩
  · rintro t h ⟨rfl, rfl⟩
    cases hc : ((a.k == 10 || a.k == 9) && a.l.length == 1) with
    | true =>
      have hl1 : a.l.length = 1 := by simp at hc; exact hc.2
      obtain ⟨b, hb⟩ := len1 hl1
      have hr1 : (tmRows a.l)[0]? = some b.c := by rw [hb]; simp [tmRows, Tm.cells_c]
      have hn3 := nodes_mem (l := a.l) (a := b) (by rw [hb]; simp)
      refine AW.condT (by exact rfl) ?_; refine AW.seq ?_; refine AW.region (by kernel_rfl) ?_; refine RunL.val (by exact rfl) (loc_fieldAddr rfl) ?_; refine RunL.val (by exact rfl) (loc_load rfl rfl rfl) ?_; refine RunL.val (by exact rfl) (loc_indexSl _ rfl rfl rfl (by assumption) rfl) ?_; refine RunL.val (by exact rfl) (loc_loadFA rfl (by exact Cut.all (by exact rfl))) ?_
      refine RunL.val (by exact rfl) (loc_fun (ih b (by rw [hb]; simp) (by omega)) rfl (by refine ⟨_, _, rfl, (by exact LeU.of_eq rfl trivial), (by (refine And.intro ?_ ?_; exact trivial; refine And.intro ?_ ?_; exact trivial; refine And.intro ?_ ?_; exact trivial; refine And.intro ?_ ?_; exact trivial; refine And.intro ?_ ?_; exact trivial; refine And.intro ?_ ?_; exact trivial; refine And.intro ?_ ?_; exact trivial; exact trivial)), ?_⟩; exact rfl)) ?_
      refine RunL.eff (by exact rfl) (loc_storeW rfl rfl rfl rfl (by exact rfl) (by exact rfl)) ?_; refine RunL.nil ?_; refine AW.ret ?_
      rw [eraseT_one hc hb]
      refine rq ?_
      refine ret_cell (by exact .inr rfl) (by exact rfl) (by exact rfl) (by exact rfl) [] trivial (l' := (eraseT b).c) (by exact wkRow_refl _) (by refine And.intro ?_ ?_; exact trivial; refine And.intro ?_ ?_; exact trivial; refine And.intro ?_ ?_; exact trivial; refine And.intro ?_ ?_; exact trivial; refine And.intro ?_ ?_; exact trivial; refine And.intro ?_ ?_; exact trivial; refine And.intro ?_ ?_; exact trivial; exact trivial) (by exact rfl)
    | false =>
      rw [eraseT_all hc]
      refine AW.condF (by exact rfl) ?_; refine AW.skip ?_; refine AW.seq ?_; refine AW.region (by kernel_rfl) ?_; refine RunL.val (by exact rfl) (loc_fieldAddr rfl) ?_; refine RunL.val (by exact rfl) (loc_load rfl rfl rfl) ?_; refine RunL.val (by exact rfl) (loc_fieldAddr rfl) ?_; refine RunL.val (by exact rfl) (loc_load rfl rfl rfl) ?_; refine RunL.val (by exact rfl) (loc_build (by exact rfl) (by exact Cut.all (by exact rfl)) (by exact rfl)) ?_; refine RunL.mem (by exact rfl) (loc_allocD rfl rfl) ?_; refine RunL.eff (by exact rfl) (loc_storeW rfl rfl rfl rfl (by exact rfl) (by exact rfl)) ?_; refine RunL.nil ?_; refine AW.seq ?_; refine AW.seq ?_; refine AW.region (by kernel_rfl) ?_; refine RunL.val (by exact rfl) (loc_fieldAddr rfl) ?_; refine RunL.val (by exact rfl) (loc_load rfl rfl rfl) ?_; refine RunL.val (by exact rfl) (loc_lenSl rfl) ?_; refine RunL.val (by exact rfl) (loc_moveC rfl) ?_; refine RunL.nil ?_; refine AW.block ?_
      refine AW.gh (gh_lit [(2, .one (.ptr 2 0)), (3, .one (.ptr 3 0)), (31, .one (slOf 7 (tmRows a.l))), (32, .one (.int .i64 ((tmRows a.l).length : Nat))), (33, .one (.int .i64 ((0 : Nat) : Int)))] [(2, .obj Tm.zero.c), (3, .obj [.int .i64 a.k, .int .i64 a.n, .int .i64 0, slOf 2 [], .int .i64 0, slOf 2 [], .own 105 (0) (0)]), (105, .row 27 7 (0) (tmRows (eraseL (a.l.take (0)))))] [] [105] ⟨(WkU.of_eq rfl trivial), (WkU.of_eq rfl trivial), (by exact WkU.of_eq rfl trivial), (WkU.of_eq rfl trivial), (WkU.of_eq rfl trivial), trivial⟩ ⟨(by exact Or.inl ⟨_, rfl, WkBlk.refl _⟩), (by (refine Or.inl ⟨_, rfl, ?_⟩; show All2 _ _ _; refine And.intro ?_ ?_; exact WkC.le (LeC.refl _); refine And.intro ?_ ?_; exact WkC.le (LeC.refl _); refine And.intro ?_ ?_; exact WkC.le (LeC.refl _); refine And.intro ?_ ?_; exact WkC.le (LeC.nil _); refine And.intro ?_ ?_; exact WkC.le (LeC.refl _); refine And.intro ?_ ?_; exact WkC.le (LeC.nil _); refine And.intro ?_ ?_; exact WkC.nil (List.mem_cons_self ..); exact trivial)), (by exact Or.inr ⟨rfl, List.mem_cons_self .., _, _, by decide, rfl⟩), trivial⟩ trivial ⟨rfl, trivial⟩ rfl rfl ⟨⟨_, rfl⟩, ⟨_, rfl⟩, trivial, trivial, trivial, trivial⟩ ⟨(by refine And.intro ?_ ?_; exact trivial; refine And.intro ?_ ?_; exact trivial; refine And.intro ?_ ?_; exact trivial; refine And.intro ?_ ?_; exact trivial; refine And.intro ?_ ?_; exact trivial; refine And.intro ?_ ?_; exact trivial; refine And.intro ?_ ?_; exact trivial; exact trivial), (by refine And.intro ?_ ?_; exact trivial; refine And.intro ?_ ?_; exact trivial; refine And.intro ?_ ?_; exact trivial; refine And.intro ?_ ?_; exact trivial; refine And.intro ?_ ?_; exact trivial; refine And.intro ?_ ?_; exact trivial; refine And.intro ?_ ?_; exact ⟨_, _, _, _, rfl, Nat.le_refl _⟩; exact trivial), (okRows_closed (by exact rfl)), trivial⟩) ?_
      refine AW.lenSl 31 rfl fun hmax => ?_
      refine AW.loop (fun m t h => ∃ i : Nat, i ≤ a.l.length ∧ m = a.l.length - i ∧ t = tOfL [(2, .one (.ptr 2 0)), (3, .one (.ptr 3 0)), (31, .one (slOf 7 (tmRows a.l))), (32, .one (.int .i64 ((tmRows a.l).length : Nat))), (33, .one (.int .i64 ((i : Nat) : Int)))] ∧ h = ofL [(2, .obj Tm.zero.c), (3, .obj [.int .i64 a.k, .int .i64 a.n, .int .i64 0, slOf 2 [], .int .i64 0, slOf 2 [], .own 105 (i) (i)]), (105, .row 27 7 (i) (tmRows (eraseL (a.l.take (i)))))]) a.l.length ⟨0, Nat.zero_le _, rfl, rfl, rfl⟩ ?_
      rintro m t h ⟨i, hi, rfl, rfl, rfl⟩
      have htk : (tmRows (eraseL (a.l.take i))).length = i := by rw [tmRows_length, eraseL_length, List.length_take]; omega
      have hnn := nodesL_len a.l
      cases hlt : decide ((i : Int) < ((tmRows a.l).length : Nat)) with
      | false =>
        have hil : i = a.l.length := by simp at hlt; omega
        refine AW.seq ?_; refine AW.region (by kernel_rfl) ?_; refine RunL.val (by exact rfl) (loc_binInt rfl rfl rfl) ?_; refine RunL.nil ?_; refine AW.seq ?_; refine AW.condFa (by exact rfl) (by assumption) ?_; refine AW.exit ?_; refine AW.seq ?_; refine AW.region (by kernel_rfl) ?_; refine RunL.val (by exact rfl) (loc_loadA rfl rfl (by exact Cut.all (by exact rfl))) ?_; refine RunL.eff (by exact rfl) (loc_storeW rfl rfl rfl rfl (by exact rfl) (by exact rfl)) ?_; refine RunL.nil ?_; refine AW.ret ?_
        refine rq ?_
        refine ret_cell (by exact .inr rfl) (by exact rfl) (by exact rfl) (by exact rfl) [105] (by exact ⟨⟨_, rfl, closed_tmRows _⟩, trivial⟩) (l' := (Tm.mk a.k a.n .any .any (eraseL a.l)).c) (by exact ⟨.le (.refl _), .le (.refl _), .le (.refl _), .le (.refl _), .le (.refl _), .le (.refl _), .row (List.mem_cons_self ..) rfl htk (by rw [hil, List.take_length]; exact LeRows.refl _), trivial⟩) (by refine And.intro ?_ ?_; exact trivial; refine And.intro ?_ ?_; exact trivial; refine And.intro ?_ ?_; exact trivial; refine And.intro ?_ ?_; exact trivial; refine And.intro ?_ ?_; exact trivial; refine And.intro ?_ ?_; exact trivial; refine And.intro ?_ ?_; exact trivial; exact trivial) (by exact rfl)
      | true =>
        have hil : i < a.l.length := by simp at hlt; omega
        have hr1 := tmRows_get hil
        have hn3 := nodes_mem (List.getElem_mem hil)
        refine AW.seq ?_; refine AW.region (by kernel_rfl) ?_; refine RunL.val (by exact rfl) (loc_binInt rfl rfl rfl) ?_; refine RunL.nil ?_; refine AW.seq ?_; refine AW.condTa (by exact rfl) (by assumption) ?_; refine AW.skip ?_; refine AW.seq ?_; refine AW.block ?_; refine AW.seq ?_; refine AW.region (by kernel_rfl) ?_; refine RunL.val (by exact rfl) (loc_indexSl _ rfl rfl rfl (by assumption) rfl) ?_; refine RunL.val (by exact rfl) (loc_loadFA rfl (by exact Cut.all (by exact rfl))) ?_; refine RunL.mem (by exact rfl) (loc_allocD rfl rfl) ?_; refine RunL.eff (by exact rfl) (loc_storeW rfl rfl rfl rfl (by exact rfl) (by exact rfl)) ?_; refine RunL.nil ?_; refine AW.regionD (by kernel_rfl) (by kernel_rfl) (by kernel_rfl) ?_; refine RunL.val (by exact rfl) (loc_fieldAddr rfl) ?_; refine RunL.val (by exact rfl) (loc_load rfl rfl rfl) ?_; refine RunL.val (by exact rfl) (loc_loadA rfl rfl (by exact Cut.all (by exact rfl))) ?_
        refine RunL.val (by exact rfl) (loc_fun (ih a.l[i] (List.getElem_mem _) (by omega)) rfl (by refine ⟨_, _, rfl, (by exact LeU.of_eq rfl trivial), (by (refine And.intro ?_ ?_; exact trivial; refine And.intro ?_ ?_; exact trivial; refine And.intro ?_ ?_; exact trivial; refine And.intro ?_ ?_; exact trivial; refine And.intro ?_ ?_; exact trivial; refine And.intro ?_ ?_; exact trivial; refine And.intro ?_ ?_; exact trivial; exact trivial)), ?_⟩; exact rfl)) ?_
        refine RunL.val (by exact rfl) (loc_sliceLit (by exact rfl) (by exact rfl) (by decide) (by decide) (by exact RowsOf.cons (by exact rfl) RowsOf.nil) (by exact AllP.cons (by exact rfl) AllP.nil) (by exact rfl)) ?_
        refine RunL.mem (by exact rfl) (loc_appendAll (by exact rfl) (by exact rfl) (by exact rfl) (by exact .inl rfl) (by exact htk) (by exact ⟨rfl, trivial⟩) (by simp only [List.length_cons, List.length_nil]; omega) (by decide)) ?_
        have hrows : tmRows (eraseL (a.l.take i)) ++ [(eraseT a.l[i]).c] = tmRows (eraseL (a.l.take (i + 1))) := by
          rw [eraseL_take hil, tmRows_append]; simp [tmRows, Tm.cells_c]
        rw [hrows]
        refine RunL.val (by exact rfl) (loc_fieldAddr rfl) ?_; refine RunL.eff (by exact rfl) (loc_store (by exact rfl) (by exact rfl) (by exact rfl) (by exact rfl) (by exact rfl) (by exact Nat.le_of_ble_eq_true rfl) (by exact rfl)) ?_; refine RunL.nilD (by kernel_rfl) ?_; refine AW.region (by kernel_rfl) ?_; refine RunL.val (by exact rfl) (loc_inc rfl rfl (by omega)) ?_; refine RunL.val (by exact rfl) (loc_moveC rfl) ?_; refine RunL.nil ?_
        exact ⟨a.l.length - (i + 1), _, _, by omega, (gh_lit [(2, .one (.ptr 2 0)), (3, .one (.ptr 3 0)), (31, .one (slOf 7 (tmRows a.l))), (32, .one (.int .i64 ((tmRows a.l).length : Nat))), (33, .one (.int .i64 (((i + 1) : Nat) : Int)))] [(2, .obj Tm.zero.c), (3, .obj [.int .i64 a.k, .int .i64 a.n, .int .i64 0, slOf 2 [], .int .i64 0, slOf 2 [], .own 105 ((i + 1)) ((i + 1))]), (105, .row 27 7 ((i + 1)) (tmRows (eraseL (a.l.take ((i + 1))))))] [] [] ⟨(WkU.of_eq rfl trivial), (WkU.of_eq rfl trivial), (by exact WkU.of_eq rfl trivial), (WkU.of_eq rfl trivial), (WkU.of_eq rfl trivial), trivial⟩ ⟨(by exact Or.inl ⟨_, rfl, WkBlk.refl _⟩), (by exact Or.inl ⟨_, rfl, WkBlk.refl _⟩), (by exact Or.inl ⟨_, rfl, WkBlk.refl _⟩), trivial⟩ trivial trivial rfl rfl ⟨⟨_, rfl⟩, ⟨_, rfl⟩, trivial, trivial, trivial, trivial⟩ ⟨(by refine And.intro ?_ ?_; exact trivial; refine And.intro ?_ ?_; exact trivial; refine And.intro ?_ ?_; exact trivial; refine And.intro ?_ ?_; exact trivial; refine And.intro ?_ ?_; exact trivial; refine And.intro ?_ ?_; exact trivial; refine And.intro ?_ ?_; exact trivial; exact trivial), (by refine And.intro ?_ ?_; exact trivial; refine And.intro ?_ ?_; exact trivial; refine And.intro ?_ ?_; exact trivial; refine And.intro ?_ ?_; exact trivial; refine And.intro ?_ ?_; exact trivial; refine And.intro ?_ ?_; exact trivial; refine And.intro ?_ ?_; exact ⟨_, _, _, _, rfl, Nat.le_refl _⟩; exact trivial), (okRows_closed (by exact closed_tmRows _)), trivial⟩), i + 1, by omega, rfl, rfl, rfl⟩
end Go.Proofs.YtnflnbdlgdjfmaaDoor
