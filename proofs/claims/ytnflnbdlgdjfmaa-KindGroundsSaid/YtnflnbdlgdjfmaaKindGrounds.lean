/-
  chaperonekeep.KindGrounds returns true. Conditions: the arguments lie in memory as trees.
-/
import Derived.Test.YtnflnbdlgdjfmaaKindW4
import Derived.Test.YtnflnbdlgdjfmaaKindP
import Derived.Test.YtnflnbdlgdjfmaaOpen
import Derived.Test.YtnflnbdlgdjfmaaRows
import Derived.WalkKit
import Derived.ProofKit
import Derived.OpenShut
import Derived.Deep.Cut
namespace Go.Proofs.Ytnflnbdlgdjfmaa
open Go.ChangeShapes Go.WideShapes Go.ChangeAt Go.RowKit
set_option linter.unusedVariables false
set_option linter.unusedSimpArgs false

set_option maxHeartbeats 4000000 in
theorem grounds_walk (t : Ty) (w : World) (va : Value) (ht : TyV All w t va) :
    Calls Try.prog 5 #[va] w fun e w' => e = .returned (.bool true) ∧ Ext w w' := by
  obtain ⟨sa, rfl, ha⟩ := ht
  obtain ⟨a1, c1, rfl, hmax, _⟩ := ha.form
  have HA := Lib.hid ha; clear ha
  go_enter Try.func5, Try.ntmps5
  go_upto_region 1 with fail
  obtain ⟨W1, hW1⟩ : ∃ W1, W1 = (w.alloc (Obj.cells #[Value.int IntKind.i64 t.k, Value.slice a1 t.l.length c1] 25)) := ⟨_, rfl⟩
  have HE := Lib.hid (show Ext w W1 by rw [hW1]; exact (ext_refl w).alloc _)
  have K0 := Lib.hid (show ∀ x, Ext W1 x → x.cell? ⟨w.heap.size, 0, none⟩ = some (.int .i64 t.k) from fun x h => h.cell (by rw [hW1]; simp [go_sem]))
  have K1 := Lib.hid (show ∀ x, Ext W1 x → x.cell? ⟨w.heap.size, 1, none⟩ = some (.slice a1 t.l.length c1) from fun x h => h.cell (by rw [hW1]; simp [go_sem]))
  have VA := Lib.hid (show ∀ x, Ext W1 x → TyV All x t (.agg #[.int .i64 t.k, .slice a1 t.l.length c1]) from fun x h => ⟨_, rfl, HA.out.ext (HE.out.trans h)⟩)
  rw [← hW1]
  clear hW1
  by_cases hg : t.good 4 = true ∧ t.k ≠ 0
  · obtain ⟨hg, hk⟩ := hg
    refine wp_region_seq Ext (fun x => Ext W1 x) [0, 1, 2, 3, 4, 5, 6, 7] [some 4, some 5, some 6, some 7, some 8, some 9, some 10, some 11] [(SRel.is _ ?vr1f_0), (SRel.is _ (.bool (t.good 4))), (SRel.is _ ?vr1f_2), (SRel.is _ ?vr1f_3), (SRel.when ?pr1f_4 (SRel.is _ ?vr1f_4)), (SRel.when ?pr1f_5 (SRel.is _ ?vr1f_5)), (SRel.when ?pr1f_6 (SRel.is _ ?vr1f_6)), (SRel.is _ ?vr1f_7)] 38 rfl rfl (by kernel_rfl) rfl (by kernel_rfl) ?hC ⟨?o0, ?o1, ?o2, ?o3, ?o4, ?o5, ?o6, ?o7, trivial⟩ ?fin
    case o0 => rintro _ ⟨⟩; exact owes_now (guard_none rfl) (Eq.refl _) (does_load (knows_is rfl (Eq.refl _)) ext_refl fun a w hC h => (by simp [go_sem, h, K0.out, K1.out, hC]; rfl))
    case o1 => rintro _ ⟨⟩; exact owes_now (guard_none rfl) (Eq.refl _) (does_call1 (R := (SRel.is _ (.bool (t.good 4)))) Try.func8 (by kernel_rfl) (by kernel_rfl) (knows_is rfl (Eq.refl _)) (fun w' v0 hC h0 => by
        obtain rfl := h0
        refine (Good_calls t _ _ _ (VA.out w' hC)).mono ?_
        rintro e w'' ⟨rfl, hx⟩
        exact ⟨_, rfl, rfl, hC.trans hx, hx⟩))
    case o2 => rintro _ ⟨⟩; exact owes_now (guard_none rfl) (Eq.refl _) (does_unOp (knows_is rfl (Eq.refl _)) ext_refl fun a w hC h => (by simp [go_sem, h]; rfl))
    case o3 => rintro _ ⟨⟩; exact owes_now (guard_none rfl) (Eq.refl _) (does_move (knows_is rfl (Eq.refl _)) ext_refl fun a w hC h => (by simp [go_sem, h]; rfl))
    case o4 => rintro _ ⟨⟩; exact owes_when rfl rfl (knows_is rfl (Eq.refl _)) (Eq.refl _) (by rfl) fun hp => (does_fieldAddr (knows_is rfl (Eq.refl _)) ext_refl fun a w hC h => (by simp [go_sem, h]; rfl))
    case o5 => rintro _ ⟨⟩; exact owes_when rfl rfl (knows_is rfl (Eq.refl _)) (Eq.refl _) (by rfl) fun hp => (does_load (knows_whenis rfl (Eq.refl _) hp) ext_refl fun a w hC h => (by simp [go_sem, h, K0.out, K1.out, hC]; rfl))
    case o6 => rintro _ ⟨⟩; exact owes_when rfl rfl (knows_is rfl (Eq.refl _)) (Eq.refl _) (by rfl) fun hp => (does_binOpC (knows_whenis rfl (Eq.refl _) hp) ext_refl fun a w hC h => (by simp [go_sem, h, K0.out, K1.out]; rfl))
    case o7 => rintro _ ⟨⟩; exact owes_now (guard_none rfl) (Eq.refl _) (does_or (knows_is rfl (Eq.refl _)) (fun hx => (knows_whenis rfl (Eq.refl _) hx)) ext_refl (by rfl))
    case hC => exact (ext_refl _)
    case fin =>
      intro w1 hC1
      simp only [FinR]
      rintro _ rfl _ rfl _ rfl _ rfl y4 hy4 y5 hy5 y6 hy6 x7 hx7
      obtain rfl : x7 = .bool false := by rw [hx7]; simp [hg, hk]
      simp only [Act.put, List.setIfInBounds_toArray, List.set_cons_zero, List.set_cons_succ]
      clear hy4 hy5 hy6
      have HC1 := Lib.hid hC1; clear hC1
      have e0 := K0.out w1 HC1.out
      have e1 := K1.out w1 HC1.out
      go_wp2_with fail
      refine (ground_calls t _ _ _ (VA.out w1 HC1.out)).mono ?_
      rintro e w2 ⟨v, rfl, ⟨s, rfl, hs⟩, hx⟩
      obtain ⟨a2, c2, rfl, _⟩ := hs.form
      have HS := Lib.hid hs; clear hs
      have HX := Lib.hid (HC1.out.trans hx); clear hx
      go_upto_region 4 with fail
      obtain ⟨W2, hW2⟩ : ∃ W2, W2 = (w2.alloc (Obj.cells #[Value.int IntKind.i64 t.ground.k, Value.slice a2 t.ground.l.length c2] 25)) := ⟨_, rfl⟩
      have HE2 := Lib.hid (show Ext W1 W2 by rw [hW2]; exact HX.out.alloc _)
      have K20 := Lib.hid (show ∀ x, Ext W2 x → x.cell? ⟨w.heap.size, 0, none⟩ = some (.int .i64 t.k) from fun x h => K0.out x (HE2.out.trans h))
      have K21 := Lib.hid (show ∀ x, Ext W2 x → x.cell? ⟨w.heap.size, 1, none⟩ = some (.slice a1 t.l.length c1) from fun x h => K1.out x (HE2.out.trans h))
      have G0 := Lib.hid (show ∀ x, Ext W2 x → x.cell? ⟨w2.heap.size, 0, none⟩ = some (.int .i64 t.ground.k) from fun x h => h.cell (by rw [hW2]; simp [go_sem]))
      have G1 := Lib.hid (show ∀ x, Ext W2 x → x.cell? ⟨w2.heap.size, 1, none⟩ = some (.slice a2 t.ground.l.length c2) from fun x h => h.cell (by rw [hW2]; simp [go_sem]))
      have VA2 := Lib.hid (show ∀ x, Ext W2 x → TyV All x t (.agg #[.int .i64 t.k, .slice a1 t.l.length c1]) from fun x h => VA.out x (HE2.out.trans h))
      have VG := Lib.hid (show ∀ x, Ext W2 x → TyV All x t.ground (.agg #[.int .i64 t.ground.k, .slice a2 t.ground.l.length c2]) from fun x h => ⟨_, rfl, ((HS.out.weaken fun _ _ => trivial).ext (show Ext w2 W2 by rw [hW2]; exact (ext_refl _).alloc _)).ext h⟩)
      rw [← hW2]
      clear hW2
      refine wp_region_rel Ext (fun x => Ext W2 x) [0, 1, 2, 3, 4, 5, 6, 7, 8, 9, 10, 11, 12, 13, 14, 15, 16, 17, 18, 19, 20, 21, 22, 23] [some 15, some 16, some 17, some 18, some 19, some 20, some 21, some 22, some 23, some 24, some 25, some 26, some 27, some 28, some 29, some 30, some 31, some 32, some 33, some 34, some 35, some 36, some 37, some 2] [(SRel.is _ ?vr4_0), (SRel.is _ (.bool (((t.ground)).plain))), (SRel.is _ ?vr4_2), (SRel.when ?pr4_3 (SRel.is _ ?vr4_3)), (SRel.when ?pr4_4 (SRel.is _ ?vr4_4)), (SRel.when ?pr4_5 (SRel.is _ (.bool (t.finer ((t.ground)))))), (SRel.is _ ?vr4_6), (SRel.is _ ?vr4_7), (SRel.when ?pr4_8 (SRel.is _ ?vr4_8)), (SRel.when ?pr4_9 (SRel.is _ ?vr4_9)), (SRel.when ?pr4_10 (SRel.is _ ?vr4_10)), (SRel.when ?pr4_11 (SRel.is _ ?vr4_11)), (SRel.when ?pr4_12 (SRel.is _ ?vr4_12)), (SRel.is _ ?vr4_13), (SRel.is _ ?vr4_14), (SRel.when ?pr4_15 (SRel.is _ ?vr4_15)), (SRel.when ?pr4_16 (tyRel (((t.ground)).ground))), (SRel.when ?pr4_17 (SRel.is _ ?vr4_17)), (SRel.when ?pr4_18 (SRel.is _ (.bool (((((t.ground)).ground)).same ((t.ground)))))), (SRel.is _ ?vr4_19), (SRel.is _ ?vr4_20), (SRel.when ?pr4_21 (SRel.is _ (.bool (true)))), (SRel.is _ ?vr4_22), (SRel.is _ ?vr4_23)] 38 (by kernel_rfl) rfl rfl rfl rfl (by kernel_rfl) ?hC ⟨?o0, ?o1, ?o2, ?o3, ?o4, ?o5, ?o6, ?o7, ?o8, ?o9, ?o10, ?o11, ?o12, ?o13, ?o14, ?o15, ?o16, ?o17, ?o18, ?o19, ?o20, ?o21, ?o22, ?o23, trivial⟩ ?fin
      case o0 => rintro _ ⟨⟩; exact owes_now (guard_none rfl) (Eq.refl _) (does_load (knows_is rfl (Eq.refl _)) ext_refl fun a w hC h => (by simp [go_sem, h, K20.out, K21.out, G0.out, G1.out, hC]; rfl))
      case o1 => rintro _ ⟨⟩; exact owes_now (guard_none rfl) (Eq.refl _) (does_call1 (R := (SRel.is _ (.bool (((t.ground)).plain)))) Try.func14 (by kernel_rfl) (by kernel_rfl) (knows_is rfl (Eq.refl _)) (fun w' v0 hC h0 => by
          obtain rfl := h0
          refine (plain_calls ((t.ground)) _ _ _ (VG.out w' hC)).mono ?_
          rintro e w'' ⟨rfl, hx⟩
          exact ⟨_, rfl, rfl, hC.trans hx, hx⟩))
      case o2 => rintro _ ⟨⟩; exact owes_now (guard_none rfl) (Eq.refl _) (does_move (knows_is rfl (Eq.refl _)) ext_refl fun a w hC h => (by simp [go_sem, h]; rfl))
      case o3 => rintro _ ⟨⟩; exact owes_when rfl rfl (knows_is rfl (Eq.refl _)) (Eq.refl _) (by rfl) fun hp => (does_load (knows_is rfl (Eq.refl _)) ext_refl fun a w hC h => (by simp [go_sem, h, K20.out, K21.out, G0.out, G1.out, hC]; rfl))
      case o4 => rintro _ ⟨⟩; exact owes_when rfl rfl (knows_is rfl (Eq.refl _)) (Eq.refl _) (by rfl) fun hp => (does_load (knows_is rfl (Eq.refl _)) ext_refl fun a w hC h => (by simp [go_sem, h, K20.out, K21.out, G0.out, G1.out, hC]; rfl))
      case o5 => rintro _ ⟨⟩; exact owes_when rfl rfl (knows_is rfl (Eq.refl _)) (Eq.refl _) (by rfl) fun hp => (does_call2 (R := (SRel.is _ (.bool (t.finer ((t.ground)))))) Try.func11 (by kernel_rfl) (by kernel_rfl) (knows_whenis rfl (Eq.refl _) hp) (knows_whenis rfl (Eq.refl _) hp) (fun w' v0 v1 hC h0 h1 => by
          obtain rfl := h0
          obtain rfl := h1
          refine (finer_calls t ((t.ground)) _ _ _ _ _ (VA2.out w' hC) (VG.out w' hC)).mono ?_
          rintro e w'' ⟨rfl, hx⟩
          exact ⟨_, rfl, rfl, hC.trans hx, hx⟩))
      case o6 => rintro _ ⟨⟩; exact owes_now (guard_none rfl) (Eq.refl _) (does_and (knows_is rfl (Eq.refl _)) (fun hx => (knows_whenis rfl (Eq.refl _) hx)) ext_refl (by rfl))
      case o7 => rintro _ ⟨⟩; exact owes_now (guard_none rfl) (Eq.refl _) (does_move (knows_is rfl (Eq.refl _)) ext_refl fun a w hC h => (by simp [go_sem, h]; rfl))
      case o8 => rintro _ ⟨⟩; exact owes_when rfl rfl (knows_is rfl (Eq.refl _)) (Eq.refl _) (by rfl) fun hp => (does_fieldAddr (knows_is rfl (Eq.refl _)) ext_refl fun a w hC h => (by simp [go_sem, h]; rfl))
      case o9 => rintro _ ⟨⟩; exact owes_when rfl rfl (knows_is rfl (Eq.refl _)) (Eq.refl _) (by rfl) fun hp => (does_load (knows_whenis rfl (Eq.refl _) hp) ext_refl fun a w hC h => (by simp [go_sem, h, K20.out, K21.out, G0.out, G1.out, hC]; rfl))
      case o10 => rintro _ ⟨⟩; exact owes_when rfl rfl (knows_is rfl (Eq.refl _)) (Eq.refl _) (by rfl) fun hp => (does_fieldAddr (knows_is rfl (Eq.refl _)) ext_refl fun a w hC h => (by simp [go_sem, h]; rfl))
      case o11 => rintro _ ⟨⟩; exact owes_when rfl rfl (knows_is rfl (Eq.refl _)) (Eq.refl _) (by rfl) fun hp => (does_load (knows_whenis rfl (Eq.refl _) hp) ext_refl fun a w hC h => (by simp [go_sem, h, K20.out, K21.out, G0.out, G1.out, hC]; rfl))
      case o12 => rintro _ ⟨⟩; exact owes_when rfl rfl (knows_is rfl (Eq.refl _)) (Eq.refl _) (by rfl) fun hp => (does_binOp (knows_whenis rfl (Eq.refl _) hp) (knows_whenis rfl (Eq.refl _) hp) ext_refl fun a w hC h h' => (by simp [go_sem, h, h', K20.out, K21.out, G0.out, G1.out]; rfl))
      case o13 => rintro _ ⟨⟩; exact owes_now (guard_none rfl) (Eq.refl _) (does_and (knows_is rfl (Eq.refl _)) (fun hx => (knows_whenis rfl (Eq.refl _) hx)) ext_refl (by rfl))
      case o14 => rintro _ ⟨⟩; exact owes_now (guard_none rfl) (Eq.refl _) (does_move (knows_is rfl (Eq.refl _)) ext_refl fun a w hC h => (by simp [go_sem, h]; rfl))
      case o15 => rintro _ ⟨⟩; exact owes_when rfl rfl (knows_is rfl (Eq.refl _)) (Eq.refl _) (by rfl) fun hp => (does_load (knows_is rfl (Eq.refl _)) ext_refl fun a w hC h => (by simp [go_sem, h, K20.out, K21.out, G0.out, G1.out, hC]; rfl))
      case o16 => rintro _ ⟨⟩; exact owes_when rfl rfl (knows_is rfl (Eq.refl _)) (Eq.refl _) (by rfl) fun hp => (does_call1 (R := (tyRel (((t.ground)).ground))) Try.func13 (by kernel_rfl) (by kernel_rfl) (knows_whenis rfl (Eq.refl _) hp) (fun w' v0 hC h0 => by
          obtain rfl := h0
          refine (ground_calls ((t.ground)) _ _ _ (VG.out w' hC)).mono ?_
          rintro e w'' ⟨v, rfl, hv, hx⟩
          exact ⟨_, rfl, hv.mono (fun _ _ => trivial) (fun _ _ _ => rfl), hC.trans hx, hx⟩))
      case o17 => rintro _ ⟨⟩; exact owes_when rfl rfl (knows_is rfl (Eq.refl _)) (Eq.refl _) (by rfl) fun hp => (does_load (knows_is rfl (Eq.refl _)) ext_refl fun a w hC h => (by simp [go_sem, h, K20.out, K21.out, G0.out, G1.out, hC]; rfl))
      case o18 => rintro _ ⟨⟩; exact owes_when rfl rfl (knows_is rfl (Eq.refl _)) (Eq.refl _) (by rfl) fun hp => (does_call2 (R := (SRel.is _ (.bool (((((t.ground)).ground)).same ((t.ground)))))) Try.func12 (by kernel_rfl) (by kernel_rfl) (knows_when (R := (tyRel (((t.ground)).ground))) rfl (Eq.refl _) hp) (knows_whenis rfl (Eq.refl _) hp) (fun w' v0 v1 hC h0 h1 => by
          obtain rfl := h1
          refine (same_calls ((((t.ground)).ground)) ((t.ground)) _ _ _ _ _ h0 (VG.out w' hC)).mono ?_
          rintro e w'' ⟨rfl, hx⟩
          exact ⟨_, rfl, rfl, hC.trans hx, hx⟩))
      case o19 => rintro _ ⟨⟩; exact owes_now (guard_none rfl) (Eq.refl _) (does_and (knows_is rfl (Eq.refl _)) (fun hx => (knows_whenis rfl (Eq.refl _) hx)) ext_refl (by rfl))
      case o20 => rintro _ ⟨⟩; exact owes_now (guard_none rfl) (Eq.refl _) (does_move (knows_is rfl (Eq.refl _)) ext_refl fun a w hC h => (by simp [go_sem, h]; rfl))
      case o21 => rintro _ ⟨⟩; exact owes_when rfl rfl (knows_is rfl (Eq.refl _)) (Eq.refl _) (by rfl) fun hp => (does_call0 (R := (SRel.is _ (.bool (true)))) Try.func9 (by kernel_rfl) (by kernel_rfl)  (fun w' hC => by
          refine (ktypes_calls w').mono ?_
          rintro e w'' ⟨rfl, hx⟩
          exact ⟨_, rfl, rfl, hC.trans hx, hx⟩))
      case o22 => rintro _ ⟨⟩; exact owes_now (guard_none rfl) (Eq.refl _) (does_and (knows_is rfl (Eq.refl _)) (fun hx => (knows_whenis rfl (Eq.refl _) hx)) ext_refl (by rfl))
      case o23 => rintro _ ⟨⟩; exact owes_now (guard_none rfl) (Eq.refl _) (does_assign (knows_is rfl (Eq.refl _)) ext_refl fun a w hC h => (by simp [go_sem, h]; rfl))
      case hC => exact (ext_refl _).drew
      case fin =>
        intro w1 hC1
        simp only [FinR]
        rintro _ rfl _ rfl _ rfl y3 hy3 y4 hy4 y5 hy5 _ rfl _ rfl y8 hy8 y9 hy9 y10 hy10 y11 hy11 y12 hy12 _ rfl _ rfl y15 hy15 y16 hy16 y17 hy17 y18 hy18 _ rfl _ rfl y21 hy21 _ rfl x23 hx23
        obtain rfl : x23 = .bool true := by rw [hx23]; simp [grounds_plain hg hk, grounds_finer hg hk, grounds_k hg hk, grounds_same hg hk]
        simp only [Act.put, List.setIfInBounds_toArray, List.set_cons_zero, List.set_cons_succ]
        clear hy3 hy4 hy5 hy8 hy9 hy10 hy11 hy12 hy15 hy16 hy17 hy18 hy21
        have HC2 := Lib.hid hC1; clear hC1
        go_wp2_with fail
        go_ret
        exact ⟨rfl, HE.out.trans (HE2.out.trans HC2.out)⟩
  · have hb : (!t.good 4 || t.k == 0) = true := by
      cases h1 : t.good 4
      · rfl
      · simp only [h1, true_and, ne_eq, Decidable.not_not] at hg; simp [hg]
    refine wp_region_seq Ext (fun x => Ext W1 x) [0, 1, 2, 3, 4, 5, 6, 7] [some 4, some 5, some 6, some 7, some 8, some 9, some 10, some 11] [(SRel.is _ ?vr1t_0), (SRel.is _ (.bool (t.good 4))), (SRel.is _ ?vr1t_2), (SRel.is _ ?vr1t_3), (SRel.when ?pr1t_4 (SRel.is _ ?vr1t_4)), (SRel.when ?pr1t_5 (SRel.is _ ?vr1t_5)), (SRel.when ?pr1t_6 (SRel.is _ ?vr1t_6)), (SRel.is _ ?vr1t_7)] 38 rfl rfl (by kernel_rfl) rfl (by kernel_rfl) ?hC ⟨?o0, ?o1, ?o2, ?o3, ?o4, ?o5, ?o6, ?o7, trivial⟩ ?fin
    case o0 => rintro _ ⟨⟩; exact owes_now (guard_none rfl) (Eq.refl _) (does_load (knows_is rfl (Eq.refl _)) ext_refl fun a w hC h => (by simp [go_sem, h, K0.out, K1.out, hC]; rfl))
    case o1 => rintro _ ⟨⟩; exact owes_now (guard_none rfl) (Eq.refl _) (does_call1 (R := (SRel.is _ (.bool (t.good 4)))) Try.func8 (by kernel_rfl) (by kernel_rfl) (knows_is rfl (Eq.refl _)) (fun w' v0 hC h0 => by
        obtain rfl := h0
        refine (Good_calls t _ _ _ (VA.out w' hC)).mono ?_
        rintro e w'' ⟨rfl, hx⟩
        exact ⟨_, rfl, rfl, hC.trans hx, hx⟩))
    case o2 => rintro _ ⟨⟩; exact owes_now (guard_none rfl) (Eq.refl _) (does_unOp (knows_is rfl (Eq.refl _)) ext_refl fun a w hC h => (by simp [go_sem, h]; rfl))
    case o3 => rintro _ ⟨⟩; exact owes_now (guard_none rfl) (Eq.refl _) (does_move (knows_is rfl (Eq.refl _)) ext_refl fun a w hC h => (by simp [go_sem, h]; rfl))
    case o4 => rintro _ ⟨⟩; exact owes_when rfl rfl (knows_is rfl (Eq.refl _)) (Eq.refl _) (by rfl) fun hp => (does_fieldAddr (knows_is rfl (Eq.refl _)) ext_refl fun a w hC h => (by simp [go_sem, h]; rfl))
    case o5 => rintro _ ⟨⟩; exact owes_when rfl rfl (knows_is rfl (Eq.refl _)) (Eq.refl _) (by rfl) fun hp => (does_load (knows_whenis rfl (Eq.refl _) hp) ext_refl fun a w hC h => (by simp [go_sem, h, K0.out, K1.out, hC]; rfl))
    case o6 => rintro _ ⟨⟩; exact owes_when rfl rfl (knows_is rfl (Eq.refl _)) (Eq.refl _) (by rfl) fun hp => (does_binOpC (knows_whenis rfl (Eq.refl _) hp) ext_refl fun a w hC h => (by simp [go_sem, h, K0.out, K1.out]; rfl))
    case o7 => rintro _ ⟨⟩; exact owes_now (guard_none rfl) (Eq.refl _) (does_or (knows_is rfl (Eq.refl _)) (fun hx => (knows_whenis rfl (Eq.refl _) hx)) ext_refl (by rfl))
    case hC => exact (ext_refl _)
    case fin =>
      intro w1 hC1
      simp only [FinR]
      rintro _ rfl _ rfl _ rfl _ rfl y4 hy4 y5 hy5 y6 hy6 x7 hx7
      obtain rfl : x7 = .bool true := by rw [hx7]; rw [hb]
      simp only [Act.put, List.setIfInBounds_toArray, List.set_cons_zero, List.set_cons_succ]
      clear hy4 hy5 hy6
      have HC1 := Lib.hid hC1; clear hC1
      go_wp2_with fail
      refine (ktypes_calls w1).mono ?_
      rintro e w2 ⟨rfl, hx⟩
      go_wp2_with fail
      go_ret
      exact ⟨rfl, HE.out.trans (HC1.out.trans hx)⟩

namespace kindGrounds
theorem own : ownKnob Try.prog.godebug = none := by kernel_rfl
set_option maxRecDepth 100000 in
theorem lifted (os : Os) (started : os.Started) (H : Type) (enc : TypeId × Value → H) :
    ReturnsInHanded {} Try.checked os 5 .any (Rows.kindGroundsSpec.pre6 enc Try.prog Try.f5 Rows.kindGroundsRow.domain false) (Rows.kindGroundsSpec.post enc Try.prog Try.f5 false true false false) := by
  refine returnsInHanded_of_change (C := Try.checked) own started (by kernel_rfl) Try.func5
    (ChangeSpec.witness6 (enc := enc) (C := Try.checked) false ⟨#[], #[.agg #[.int .i64 0, .slice none 0 0]], []⟩ 8 (by kernel_rfl) (by kernel_rfl) (by kernel_rfl) (by kernel_rfl)) ?_
  intro W base args ds gs before hval0 hW hcnd _
  have hval : ∀ (j : Nat) t v, Try.f5.params[j]? = some t → args[j]? = some v → Value.okWide Try.prog W .any base t v := hval0
  have hW' := hW
  obtain ⟨p, q, hA0, hV, rfl, hfz, hnd⟩ := hW
  have hA : DataW.TrodAll enc Try.prog W 0 (fun _ => true) true Try.f5.params.toList args.toList ds p := hA0
  rw [Try.params5] at hA hval
  obtain ⟨v0, vs0, d0, ds0, p0, q0, hargs, rfl, rfl, h0, hrest0⟩ := trodAll_cons hA
  obtain ⟨rfl, rfl, rfl⟩ := trodAll_nil hrest0
  obtain rfl : args = #[v0] := by cases args; simp_all
  obtain ⟨rfl, rfl⟩ := trodVars_none hV
  have hblt := hA.lt
  clear hA0 hval0 hA
  simp only [List.append_nil] at hW'
  obtain ⟨t0, ht0, hs0⟩ := open_Ty (hval 0 25 v0 rfl rfl) h0
  refine (grounds_walk t0 W v0 ht0).mono fun e W' ⟨he, hx⟩ => ?_
  subst he
  refine ⟨_, rfl, law_post (pa := p0 ++ []) hW' rfl rfl rfl hx ?_⟩
  show DataW.TrodAll enc Try.prog W' 0 (fun b => decide (b < W.heap.size)) true Try.f5.params.toList [v0] [d0] _
  rw [Try.params5]
  exact trodAll_cons_mk (again_Ty hx h0 fun x hx => hblt x (by simp [hx])) (trodAll_mk0)

theorem over : Rows.kindGroundsRow.holds Try.pinned (OpenSpec.ofChange Rows.kindGroundsSpec) :=
  OpenClaim.holds_of_wide 5 Try.f5 rfl rfl rfl rfl rfl rfl rfl ⟨rfl, rfl, rfl, rfl, rfl⟩ rfl rfl rfl rfl rfl (by kernel_rfl) Try.func5 (by kernel_rfl)
    (of_decide_eq_true (by kernel_rfl)) (by unfold Func.isWrapper; first | (rw [if_pos (by decide +kernel)]; kernel_rfl) | (rw [if_neg (by decide +kernel)]; exact ⟨rfl, rfl⟩))
    (fun os started H enc _ => lifted os started H enc)

theorem proved : Rows.KindGroundsSaid := over
end kindGrounds
end Go.Proofs.Ytnflnbdlgdjfmaa
