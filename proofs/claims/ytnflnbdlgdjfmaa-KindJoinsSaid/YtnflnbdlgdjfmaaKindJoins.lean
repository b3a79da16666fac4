/-
  chaperonekeep.KindJoins returns true. Conditions: the arguments lie in memory as trees.
-/
import Derived.Test.YtnflnbdlgdjfmaaKindW4
import Derived.Test.YtnflnbdlgdjfmaaKindP
import Derived.Test.YtnflnbdlgdjfmaaOpen
import Derived.Test.YtnflnbdlgdjfmaaRows
import Derived.WalkKit
import Derived.ProofKit
import Derived.OpenShut
import Derived.Deep.Cut
namespace Go.Proofs.Ytnflnbdlgdjfmaa
open Go.ChangeShapes Go.WideShapes Go.ChangeAt Go.RowKit
set_option linter.unusedVariables false
set_option linter.unusedSimpArgs false

set_option maxRecDepth 4000 in
set_option maxHeartbeats 4000000 in
theorem joins_walk (a b c : Ty) (w : World) (v0 v1 v2 : Value) (h0 : TyV All w a v0) (h1 : TyV All w b v1) (h2 : TyV All w c v2) :
    Calls Try.prog 4 #[v0, v1, v2] w fun e w' => e = .returned (.bool true) ∧ Ext w w' := by
  obtain ⟨s0, rfl, hl0⟩ := h0
  obtain ⟨a0, c0, rfl, _, _⟩ := hl0.form
  have HA0 := Lib.hid hl0; clear hl0
  obtain ⟨s1, rfl, hl1⟩ := h1
  obtain ⟨a1, c1, rfl, _, _⟩ := hl1.form
  have HA1 := Lib.hid hl1; clear hl1
  obtain ⟨s2, rfl, hl2⟩ := h2
  obtain ⟨a2, c2, rfl, _, _⟩ := hl2.form
  have HA2 := Lib.hid hl2; clear hl2
  go_enter Try.func4, Try.ntmps4
  go_upto_region 1 with fail
  obtain ⟨W1, hW1⟩ : ∃ W1, W1 = (((w.alloc (Obj.cells #[Value.int IntKind.i64 a.k, Value.slice a0 a.l.length c0] 25)).alloc (Obj.cells #[Value.int IntKind.i64 b.k, Value.slice a1 b.l.length c1] 25)).alloc (Obj.cells #[Value.int IntKind.i64 c.k, Value.slice a2 c.l.length c2] 25)) := ⟨_, rfl⟩
  have HE := Lib.hid (show Ext w W1 by rw [hW1]; exact (((((ext_refl w).alloc _)).alloc _)).alloc _)
  have K00 := Lib.hid (show ∀ x, Ext W1 x → x.cell? ⟨w.heap.size, 0, none⟩ = some (.int .i64 a.k) from fun x h => h.cell (by rw [hW1]; simp [go_sem]))
  have K01 := Lib.hid (show ∀ x, Ext W1 x → x.cell? ⟨w.heap.size, 1, none⟩ = some (.slice a0 a.l.length c0) from fun x h => h.cell (by rw [hW1]; simp [go_sem]))
  have V0 := Lib.hid (show ∀ x, Ext W1 x → TyV All x a (.agg #[.int .i64 a.k, .slice a0 a.l.length c0]) from fun x h => ⟨_, rfl, HA0.out.ext (HE.out.trans h)⟩)
  have K10 := Lib.hid (show ∀ x, Ext W1 x → x.cell? ⟨w.heap.size + 1, 0, none⟩ = some (.int .i64 b.k) from fun x h => h.cell (by rw [hW1]; simp [go_sem]))
  have K11 := Lib.hid (show ∀ x, Ext W1 x → x.cell? ⟨w.heap.size + 1, 1, none⟩ = some (.slice a1 b.l.length c1) from fun x h => h.cell (by rw [hW1]; simp [go_sem]))
  have V1 := Lib.hid (show ∀ x, Ext W1 x → TyV All x b (.agg #[.int .i64 b.k, .slice a1 b.l.length c1]) from fun x h => ⟨_, rfl, HA1.out.ext (HE.out.trans h)⟩)
  have K20 := Lib.hid (show ∀ x, Ext W1 x → x.cell? ⟨w.heap.size + 1 + 1, 0, none⟩ = some (.int .i64 c.k) from fun x h => h.cell (by rw [hW1]; simp [go_sem]))
  have K21 := Lib.hid (show ∀ x, Ext W1 x → x.cell? ⟨w.heap.size + 1 + 1, 1, none⟩ = some (.slice a2 c.l.length c2) from fun x h => h.cell (by rw [hW1]; simp [go_sem]))
  have V2 := Lib.hid (show ∀ x, Ext W1 x → TyV All x c (.agg #[.int .i64 c.k, .slice a2 c.l.length c2]) from fun x h => ⟨_, rfl, HA2.out.ext (HE.out.trans h)⟩)
  rw [← hW1]
  clear hW1
  cases hg : !a.good 4 || !b.good 4 || !c.good 4
  · have hga : a.good 4 = true := by simp at hg; exact hg.1.1
    have hgb : b.good 4 = true := by simp at hg; exact hg.1.2
    have hta : Thin a := thin_good 4 a hga
    have htb : Thin b := thin_good 4 b hgb
    refine wp_region_seq Ext (fun x => Ext W1 x) [0, 1, 2, 3, 4, 5, 6, 7, 8, 9, 10, 11, 12] [some 8, some 9, some 10, some 11, some 12, some 13, some 14, some 15, some 16, some 17, some 18, some 19, some 20] [(SRel.is _ ?vra_0), (SRel.is _ (.bool (a.good 4))), (SRel.is _ ?vra_2), (SRel.is _ ?vra_3), (SRel.when ?pra_4 (SRel.is _ ?vra_4)), (SRel.when ?pra_5 (SRel.is _ (.bool (b.good 4)))), (SRel.when ?pra_6 (SRel.is _ ?vra_6)), (SRel.is _ ?vra_7), (SRel.is _ ?vra_8), (SRel.when ?pra_9 (SRel.is _ ?vra_9)), (SRel.when ?pra_10 (SRel.is _ (.bool (c.good 4)))), (SRel.when ?pra_11 (SRel.is _ ?vra_11)), (SRel.is _ ?vra_12)] 74 rfl rfl (by kernel_rfl) rfl (by kernel_rfl) ?hC ⟨?o0, ?o1, ?o2, ?o3, ?o4, ?o5, ?o6, ?o7, ?o8, ?o9, ?o10, ?o11, ?o12, trivial⟩ ?fin
    case o0 => rintro _ ⟨⟩; exact owes_now (guard_none rfl) (Eq.refl _) (does_load (knows_is rfl (Eq.refl _)) ext_refl fun a w hC h => (by simp [go_sem, h, K00.out, K01.out, K10.out, K11.out, K20.out, K21.out, hC]; rfl))
    case o1 => rintro _ ⟨⟩; exact owes_now (guard_none rfl) (Eq.refl _) (does_call1 (R := (SRel.is _ (.bool (a.good 4)))) Try.func8 (by kernel_rfl) (by kernel_rfl) (knows_is rfl (Eq.refl _)) (fun w' v0 hC h0 => by
        obtain rfl := h0
        refine (Good_calls a _ _ _ (V0.out w' hC)).mono ?_
        rintro e w'' ⟨rfl, hx⟩
        exact ⟨_, rfl, rfl, hC.trans hx, hx⟩))
    case o2 => rintro _ ⟨⟩; exact owes_now (guard_none rfl) (Eq.refl _) (does_unOp (knows_is rfl (Eq.refl _)) ext_refl fun a w hC h => (by simp [go_sem, h]; rfl))
    case o3 => rintro _ ⟨⟩; exact owes_now (guard_none rfl) (Eq.refl _) (does_move (knows_is rfl (Eq.refl _)) ext_refl fun a w hC h => (by simp [go_sem, h]; rfl))
    case o4 => rintro _ ⟨⟩; exact owes_when rfl rfl (knows_is rfl (Eq.refl _)) (Eq.refl _) (by rfl) fun hp => (does_load (knows_is rfl (Eq.refl _)) ext_refl fun a w hC h => (by simp [go_sem, h, K00.out, K01.out, K10.out, K11.out, K20.out, K21.out, hC]; rfl))
    case o5 => rintro _ ⟨⟩; exact owes_when rfl rfl (knows_is rfl (Eq.refl _)) (Eq.refl _) (by rfl) fun hp => (does_call1 (R := (SRel.is _ (.bool (b.good 4)))) Try.func8 (by kernel_rfl) (by kernel_rfl) (knows_whenis rfl (Eq.refl _) hp) (fun w' v0 hC h0 => by
        obtain rfl := h0
        refine (Good_calls b _ _ _ (V1.out w' hC)).mono ?_
        rintro e w'' ⟨rfl, hx⟩
        exact ⟨_, rfl, rfl, hC.trans hx, hx⟩))
    case o6 => rintro _ ⟨⟩; exact owes_when rfl rfl (knows_is rfl (Eq.refl _)) (Eq.refl _) (by rfl) fun hp => (does_unOp (knows_whenis rfl (Eq.refl _) hp) ext_refl fun a w hC h => (by simp [go_sem, h]; rfl))
    case o7 => rintro _ ⟨⟩; exact owes_now (guard_none rfl) (Eq.refl _) (does_or (knows_is rfl (Eq.refl _)) (fun hx => (knows_whenis rfl (Eq.refl _) hx)) ext_refl (by rfl))
    case o8 => rintro _ ⟨⟩; exact owes_now (guard_none rfl) (Eq.refl _) (does_move (knows_is rfl (Eq.refl _)) ext_refl fun a w hC h => (by simp [go_sem, h]; rfl))
    case o9 => rintro _ ⟨⟩; exact owes_when rfl rfl (knows_is rfl (Eq.refl _)) (Eq.refl _) (by rfl) fun hp => (does_load (knows_is rfl (Eq.refl _)) ext_refl fun a w hC h => (by simp [go_sem, h, K00.out, K01.out, K10.out, K11.out, K20.out, K21.out, hC]; rfl))
    case o10 => rintro _ ⟨⟩; exact owes_when rfl rfl (knows_is rfl (Eq.refl _)) (Eq.refl _) (by rfl) fun hp => (does_call1 (R := (SRel.is _ (.bool (c.good 4)))) Try.func8 (by kernel_rfl) (by kernel_rfl) (knows_whenis rfl (Eq.refl _) hp) (fun w' v0 hC h0 => by
        obtain rfl := h0
        refine (Good_calls c _ _ _ (V2.out w' hC)).mono ?_
        rintro e w'' ⟨rfl, hx⟩
        exact ⟨_, rfl, rfl, hC.trans hx, hx⟩))
    case o11 => rintro _ ⟨⟩; exact owes_when rfl rfl (knows_is rfl (Eq.refl _)) (Eq.refl _) (by rfl) fun hp => (does_unOp (knows_whenis rfl (Eq.refl _) hp) ext_refl fun a w hC h => (by simp [go_sem, h]; rfl))
    case o12 => rintro _ ⟨⟩; exact owes_now (guard_none rfl) (Eq.refl _) (does_or (knows_is rfl (Eq.refl _)) (fun hx => (knows_whenis rfl (Eq.refl _) hx)) ext_refl (by rfl))
    case hC => exact (ext_refl _)
    case fin =>
      intro w1 hC1
      simp only [FinR]
      rintro _ rfl _ rfl _ rfl _ rfl y4 hy4 y5 hy5 y6 hy6 _ rfl _ rfl y9 hy9 y10 hy10 y11 hy11 x12 hx12
      obtain rfl : x12 = .bool false := by rw [hx12]; rw [hg]
      simp only [Act.put, List.setIfInBounds_toArray, List.set_cons_zero, List.set_cons_succ]
      clear hy4 hy5 hy6 hy9 hy10 hy11
      have HC1 := Lib.hid hC1; clear hC1
      have e0 := K00.out w1 HC1.out
      have e1 := K01.out w1 HC1.out
      have e2 := K10.out w1 HC1.out
      have e3 := K11.out w1 HC1.out
      go_wp2_with fail
      refine (join_calls a b _ _ _ _ _ hta (V0.out w1 HC1.out) (V1.out w1 HC1.out)).mono ?_
      rintro e w2 ⟨v, rfl, ⟨s, rfl, hs⟩, hx⟩
      obtain ⟨a3, c3, rfl, _, _⟩ := hs.form
      have HS := Lib.hid hs; clear hs
      have HX := Lib.hid (HC1.out.trans hx); clear hx
      go_upto_region 4 with fail
      obtain ⟨W2, hW2⟩ : ∃ W2, W2 = (w2.alloc (Obj.cells #[Value.int IntKind.i64 (a.join b).k, Value.slice a3 (a.join b).l.length c3] 25)) := ⟨_, rfl⟩
      have HE2 := Lib.hid (show Ext W1 W2 by rw [hW2]; exact HX.out.alloc _)
      have L00 := Lib.hid (show ∀ x, Ext W2 x → x.cell? ⟨w.heap.size, 0, none⟩ = some (.int .i64 a.k) from fun x h => K00.out x (HE2.out.trans h))
      have L01 := Lib.hid (show ∀ x, Ext W2 x → x.cell? ⟨w.heap.size, 1, none⟩ = some (.slice a0 a.l.length c0) from fun x h => K01.out x (HE2.out.trans h))
      have U0 := Lib.hid (show ∀ x, Ext W2 x → TyV All x a (.agg #[.int .i64 a.k, .slice a0 a.l.length c0]) from fun x h => V0.out x (HE2.out.trans h))
      have L10 := Lib.hid (show ∀ x, Ext W2 x → x.cell? ⟨w.heap.size + 1, 0, none⟩ = some (.int .i64 b.k) from fun x h => K10.out x (HE2.out.trans h))
      have L11 := Lib.hid (show ∀ x, Ext W2 x → x.cell? ⟨w.heap.size + 1, 1, none⟩ = some (.slice a1 b.l.length c1) from fun x h => K11.out x (HE2.out.trans h))
      have U1 := Lib.hid (show ∀ x, Ext W2 x → TyV All x b (.agg #[.int .i64 b.k, .slice a1 b.l.length c1]) from fun x h => V1.out x (HE2.out.trans h))
      have L20 := Lib.hid (show ∀ x, Ext W2 x → x.cell? ⟨w.heap.size + 1 + 1, 0, none⟩ = some (.int .i64 c.k) from fun x h => K20.out x (HE2.out.trans h))
      have L21 := Lib.hid (show ∀ x, Ext W2 x → x.cell? ⟨w.heap.size + 1 + 1, 1, none⟩ = some (.slice a2 c.l.length c2) from fun x h => K21.out x (HE2.out.trans h))
      have U2 := Lib.hid (show ∀ x, Ext W2 x → TyV All x c (.agg #[.int .i64 c.k, .slice a2 c.l.length c2]) from fun x h => V2.out x (HE2.out.trans h))
      have J0 := Lib.hid (show ∀ x, Ext W2 x → x.cell? ⟨w2.heap.size, 0, none⟩ = some (.int .i64 (a.join b).k) from fun x h => h.cell (by rw [hW2]; simp [go_sem]))
      have J1 := Lib.hid (show ∀ x, Ext W2 x → x.cell? ⟨w2.heap.size, 1, none⟩ = some (.slice a3 (a.join b).l.length c3) from fun x h => h.cell (by rw [hW2]; simp [go_sem]))
      have VJ := Lib.hid (show ∀ x, Ext W2 x → TyV All x (a.join b) (.agg #[.int .i64 (a.join b).k, .slice a3 (a.join b).l.length c3]) from fun x h => ⟨_, rfl, ((HS.out.weaken fun _ _ => trivial).ext (show Ext w2 W2 by rw [hW2]; exact (ext_refl _).alloc _)).ext h⟩)
      rw [← hW2]
      clear hW2 e0 e1 e2 e3
      refine wp_region_rel Ext (fun x => Ext W2 x) [0, 1, 2, 3, 4, 5, 6, 7, 8, 9, 10, 11, 12, 13, 14, 15, 16, 17, 18, 19, 20, 21, 22, 23, 24, 25, 26, 27, 28, 29, 30] [some 25, some 26, some 27, some 28, some 29, some 30, some 31, some 32, some 33, some 34, some 35, some 36, some 37, some 38, some 39, some 40, some 41, some 42, some 43, some 44, some 45, some 46, some 47, some 48, some 49, some 50, some 51, some 52, some 53, some 54, some 55] [(SRel.is _ ?vrb_0), (SRel.is _ (.bool (((a.join b)).good 4))), (SRel.is _ ?vrb_2), (SRel.is _ ?vrb_3), (SRel.when ?prb_4 (SRel.is _ ?vrb_4)), (SRel.when ?prb_5 (SRel.is _ ?vrb_5)), (SRel.when ?prb_6 (SRel.is _ (.bool (a.finer ((a.join b)))))), (SRel.when ?prb_7 (SRel.is _ ?vrb_7)), (SRel.is _ ?vrb_8), (SRel.is _ ?vrb_9), (SRel.when ?prb_10 (SRel.is _ ?vrb_10)), (SRel.when ?prb_11 (SRel.is _ ?vrb_11)), (SRel.when ?prb_12 (SRel.is _ (.bool (b.finer ((a.join b)))))), (SRel.when ?prb_13 (SRel.is _ ?vrb_13)), (SRel.is _ ?vrb_14), (SRel.is _ ?vrb_15), (SRel.when ?prb_16 (SRel.is _ ?vrb_16)), (SRel.when ?prb_17 (SRel.is _ ?vrb_17)), (SRel.when ?prb_18 (SRel.is _ ?vrb_18)), (SRel.when ?prb_19 (tyRel (b.join a))), (SRel.when ?prb_20 (SRel.is _ (.bool (((a.join b)).same ((b.join a)))))), (SRel.when ?prb_21 (SRel.is _ ?vrb_21)), (SRel.is _ ?vrb_22), (SRel.is _ ?vrb_23), (SRel.when ?prb_24 (SRel.is _ ?vrb_24)), (SRel.when ?prb_25 (SRel.is _ ?vrb_25)), (SRel.when ?prb_26 (tyRel (a.join a))), (SRel.when ?prb_27 (SRel.is _ ?vrb_27)), (SRel.when ?prb_28 (SRel.is _ (.bool (((a.join a)).same a)))), (SRel.when ?prb_29 (SRel.is _ ?vrb_29)), (SRel.is _ ?vrb_30)] 74 (by kernel_rfl) rfl rfl rfl rfl (by kernel_rfl) ?hC ⟨?o0, ?o1, ?o2, ?o3, ?o4, ?o5, ?o6, ?o7, ?o8, ?o9, ?o10, ?o11, ?o12, ?o13, ?o14, ?o15, ?o16, ?o17, ?o18, ?o19, ?o20, ?o21, ?o22, ?o23, ?o24, ?o25, ?o26, ?o27, ?o28, ?o29, ?o30, trivial⟩ ?fin
      case o0 => rintro _ ⟨⟩; exact owes_now (guard_none rfl) (Eq.refl _) (does_load (knows_is rfl (Eq.refl _)) ext_refl fun a w hC h => (by simp [go_sem, h, L00.out, L01.out, L10.out, L11.out, L20.out, L21.out, J0.out, J1.out, hC]; rfl))
      case o1 => rintro _ ⟨⟩; exact owes_now (guard_none rfl) (Eq.refl _) (does_call1 (R := (SRel.is _ (.bool (((a.join b)).good 4)))) Try.func8 (by kernel_rfl) (by kernel_rfl) (knows_is rfl (Eq.refl _)) (fun w' v0 hC h0 => by
          obtain rfl := h0
          refine (Good_calls ((a.join b)) _ _ _ (VJ.out w' hC)).mono ?_
          rintro e w'' ⟨rfl, hx⟩
          exact ⟨_, rfl, rfl, hC.trans hx, hx⟩))
      case o2 => rintro _ ⟨⟩; exact owes_now (guard_none rfl) (Eq.refl _) (does_unOp (knows_is rfl (Eq.refl _)) ext_refl fun a w hC h => (by simp [go_sem, h]; rfl))
      case o3 => rintro _ ⟨⟩; exact owes_now (guard_none rfl) (Eq.refl _) (does_move (knows_is rfl (Eq.refl _)) ext_refl fun a w hC h => (by simp [go_sem, h]; rfl))
      case o4 => rintro _ ⟨⟩; exact owes_when rfl rfl (knows_is rfl (Eq.refl _)) (Eq.refl _) (by rfl) fun hp => (does_load (knows_is rfl (Eq.refl _)) ext_refl fun a w hC h => (by simp [go_sem, h, L00.out, L01.out, L10.out, L11.out, L20.out, L21.out, J0.out, J1.out, hC]; rfl))
      case o5 => rintro _ ⟨⟩; exact owes_when rfl rfl (knows_is rfl (Eq.refl _)) (Eq.refl _) (by rfl) fun hp => (does_load (knows_is rfl (Eq.refl _)) ext_refl fun a w hC h => (by simp [go_sem, h, L00.out, L01.out, L10.out, L11.out, L20.out, L21.out, J0.out, J1.out, hC]; rfl))
      case o6 => rintro _ ⟨⟩; exact owes_when rfl rfl (knows_is rfl (Eq.refl _)) (Eq.refl _) (by rfl) fun hp => (does_call2 (R := (SRel.is _ (.bool (a.finer ((a.join b)))))) Try.func11 (by kernel_rfl) (by kernel_rfl) (knows_whenis rfl (Eq.refl _) hp) (knows_whenis rfl (Eq.refl _) hp) (fun w' v0 v1 hC h0 h1 => by
          obtain rfl := h0
          obtain rfl := h1
          refine (finer_calls a ((a.join b)) _ _ _ _ _ (U0.out w' hC) (VJ.out w' hC)).mono ?_
          rintro e w'' ⟨rfl, hx⟩
          exact ⟨_, rfl, rfl, hC.trans hx, hx⟩))
      case o7 => rintro _ ⟨⟩; exact owes_when rfl rfl (knows_is rfl (Eq.refl _)) (Eq.refl _) (by rfl) fun hp => (does_unOp (knows_whenis rfl (Eq.refl _) hp) ext_refl fun a w hC h => (by simp [go_sem, h]; rfl))
      case o8 => rintro _ ⟨⟩; exact owes_now (guard_none rfl) (Eq.refl _) (does_or (knows_is rfl (Eq.refl _)) (fun hx => (knows_whenis rfl (Eq.refl _) hx)) ext_refl (by rfl))
      case o9 => rintro _ ⟨⟩; exact owes_now (guard_none rfl) (Eq.refl _) (does_move (knows_is rfl (Eq.refl _)) ext_refl fun a w hC h => (by simp [go_sem, h]; rfl))
      case o10 => rintro _ ⟨⟩; exact owes_when rfl rfl (knows_is rfl (Eq.refl _)) (Eq.refl _) (by rfl) fun hp => (does_load (knows_is rfl (Eq.refl _)) ext_refl fun a w hC h => (by simp [go_sem, h, L00.out, L01.out, L10.out, L11.out, L20.out, L21.out, J0.out, J1.out, hC]; rfl))
      case o11 => rintro _ ⟨⟩; exact owes_when rfl rfl (knows_is rfl (Eq.refl _)) (Eq.refl _) (by rfl) fun hp => (does_load (knows_is rfl (Eq.refl _)) ext_refl fun a w hC h => (by simp [go_sem, h, L00.out, L01.out, L10.out, L11.out, L20.out, L21.out, J0.out, J1.out, hC]; rfl))
      case o12 => rintro _ ⟨⟩; exact owes_when rfl rfl (knows_is rfl (Eq.refl _)) (Eq.refl _) (by rfl) fun hp => (does_call2 (R := (SRel.is _ (.bool (b.finer ((a.join b)))))) Try.func11 (by kernel_rfl) (by kernel_rfl) (knows_whenis rfl (Eq.refl _) hp) (knows_whenis rfl (Eq.refl _) hp) (fun w' v0 v1 hC h0 h1 => by
          obtain rfl := h0
          obtain rfl := h1
          refine (finer_calls b ((a.join b)) _ _ _ _ _ (U1.out w' hC) (VJ.out w' hC)).mono ?_
          rintro e w'' ⟨rfl, hx⟩
          exact ⟨_, rfl, rfl, hC.trans hx, hx⟩))
      case o13 => rintro _ ⟨⟩; exact owes_when rfl rfl (knows_is rfl (Eq.refl _)) (Eq.refl _) (by rfl) fun hp => (does_unOp (knows_whenis rfl (Eq.refl _) hp) ext_refl fun a w hC h => (by simp [go_sem, h]; rfl))
      case o14 => rintro _ ⟨⟩; exact owes_now (guard_none rfl) (Eq.refl _) (does_or (knows_is rfl (Eq.refl _)) (fun hx => (knows_whenis rfl (Eq.refl _) hx)) ext_refl (by rfl))
      case o15 => rintro _ ⟨⟩; exact owes_now (guard_none rfl) (Eq.refl _) (does_move (knows_is rfl (Eq.refl _)) ext_refl fun a w hC h => (by simp [go_sem, h]; rfl))
      case o16 => rintro _ ⟨⟩; exact owes_when rfl rfl (knows_is rfl (Eq.refl _)) (Eq.refl _) (by rfl) fun hp => (does_load (knows_is rfl (Eq.refl _)) ext_refl fun a w hC h => (by simp [go_sem, h, L00.out, L01.out, L10.out, L11.out, L20.out, L21.out, J0.out, J1.out, hC]; rfl))
      case o17 => rintro _ ⟨⟩; exact owes_when rfl rfl (knows_is rfl (Eq.refl _)) (Eq.refl _) (by rfl) fun hp => (does_load (knows_is rfl (Eq.refl _)) ext_refl fun a w hC h => (by simp [go_sem, h, L00.out, L01.out, L10.out, L11.out, L20.out, L21.out, J0.out, J1.out, hC]; rfl))
      case o18 => rintro _ ⟨⟩; exact owes_when rfl rfl (knows_is rfl (Eq.refl _)) (Eq.refl _) (by rfl) fun hp => (does_load (knows_is rfl (Eq.refl _)) ext_refl fun a w hC h => (by simp [go_sem, h, L00.out, L01.out, L10.out, L11.out, L20.out, L21.out, J0.out, J1.out, hC]; rfl))
      case o19 => rintro _ ⟨⟩; exact owes_when rfl rfl (knows_is rfl (Eq.refl _)) (Eq.refl _) (by rfl) fun hp => (does_call2 (R := (tyRel (b.join a))) Try.func10 (by kernel_rfl) (by kernel_rfl) (knows_whenis rfl (Eq.refl _) hp) (knows_whenis rfl (Eq.refl _) hp) (fun w' v0 v1 hC h0 h1 => by
          obtain rfl := h0
          obtain rfl := h1
          refine (join_calls b a _ _ _ _ _ (by assumption) (U1.out w' hC) (U0.out w' hC)).mono ?_
          rintro e w'' ⟨v, rfl, hv, hx⟩
          exact ⟨_, rfl, hv.mono (fun _ _ => trivial) (fun _ _ _ => rfl), hC.trans hx, hx⟩))
      case o20 => rintro _ ⟨⟩; exact owes_when rfl rfl (knows_is rfl (Eq.refl _)) (Eq.refl _) (by rfl) fun hp => (does_call2 (R := (SRel.is _ (.bool (((a.join b)).same ((b.join a)))))) Try.func12 (by kernel_rfl) (by kernel_rfl) (knows_whenis rfl (Eq.refl _) hp) (knows_when (R := (tyRel (b.join a))) rfl (Eq.refl _) hp) (fun w' v0 v1 hC h0 h1 => by
          obtain rfl := h0
          refine (same_calls ((a.join b)) ((b.join a)) _ _ _ _ _ (VJ.out w' hC) h1).mono ?_
          rintro e w'' ⟨rfl, hx⟩
          exact ⟨_, rfl, rfl, hC.trans hx, hx⟩))
      case o21 => rintro _ ⟨⟩; exact owes_when rfl rfl (knows_is rfl (Eq.refl _)) (Eq.refl _) (by rfl) fun hp => (does_unOp (knows_whenis rfl (Eq.refl _) hp) ext_refl fun a w hC h => (by simp [go_sem, h]; rfl))
      case o22 => rintro _ ⟨⟩; exact owes_now (guard_none rfl) (Eq.refl _) (does_or (knows_is rfl (Eq.refl _)) (fun hx => (knows_whenis rfl (Eq.refl _) hx)) ext_refl (by rfl))
      case o23 => rintro _ ⟨⟩; exact owes_now (guard_none rfl) (Eq.refl _) (does_move (knows_is rfl (Eq.refl _)) ext_refl fun a w hC h => (by simp [go_sem, h]; rfl))
      case o24 => rintro _ ⟨⟩; exact owes_when rfl rfl (knows_is rfl (Eq.refl _)) (Eq.refl _) (by rfl) fun hp => (does_load (knows_is rfl (Eq.refl _)) ext_refl fun a w hC h => (by simp [go_sem, h, L00.out, L01.out, L10.out, L11.out, L20.out, L21.out, J0.out, J1.out, hC]; rfl))
      case o25 => rintro _ ⟨⟩; exact owes_when rfl rfl (knows_is rfl (Eq.refl _)) (Eq.refl _) (by rfl) fun hp => (does_load (knows_is rfl (Eq.refl _)) ext_refl fun a w hC h => (by simp [go_sem, h, L00.out, L01.out, L10.out, L11.out, L20.out, L21.out, J0.out, J1.out, hC]; rfl))
      case o26 => rintro _ ⟨⟩; exact owes_when rfl rfl (knows_is rfl (Eq.refl _)) (Eq.refl _) (by rfl) fun hp => (does_call2 (R := (tyRel (a.join a))) Try.func10 (by kernel_rfl) (by kernel_rfl) (knows_whenis rfl (Eq.refl _) hp) (knows_whenis rfl (Eq.refl _) hp) (fun w' v0 v1 hC h0 h1 => by
          obtain rfl := h0
          obtain rfl := h1
          refine (join_calls a a _ _ _ _ _ (by assumption) (U0.out w' hC) (U0.out w' hC)).mono ?_
          rintro e w'' ⟨v, rfl, hv, hx⟩
          exact ⟨_, rfl, hv.mono (fun _ _ => trivial) (fun _ _ _ => rfl), hC.trans hx, hx⟩))
      case o27 => rintro _ ⟨⟩; exact owes_when rfl rfl (knows_is rfl (Eq.refl _)) (Eq.refl _) (by rfl) fun hp => (does_load (knows_is rfl (Eq.refl _)) ext_refl fun a w hC h => (by simp [go_sem, h, L00.out, L01.out, L10.out, L11.out, L20.out, L21.out, J0.out, J1.out, hC]; rfl))
      case o28 => rintro _ ⟨⟩; exact owes_when rfl rfl (knows_is rfl (Eq.refl _)) (Eq.refl _) (by rfl) fun hp => (does_call2 (R := (SRel.is _ (.bool (((a.join a)).same a)))) Try.func12 (by kernel_rfl) (by kernel_rfl) (knows_when (R := (tyRel (a.join a))) rfl (Eq.refl _) hp) (knows_whenis rfl (Eq.refl _) hp) (fun w' v0 v1 hC h0 h1 => by
          obtain rfl := h1
          refine (same_calls ((a.join a)) a _ _ _ _ _ h0 (U0.out w' hC)).mono ?_
          rintro e w'' ⟨rfl, hx⟩
          exact ⟨_, rfl, rfl, hC.trans hx, hx⟩))
      case o29 => rintro _ ⟨⟩; exact owes_when rfl rfl (knows_is rfl (Eq.refl _)) (Eq.refl _) (by rfl) fun hp => (does_unOp (knows_whenis rfl (Eq.refl _) hp) ext_refl fun a w hC h => (by simp [go_sem, h]; rfl))
      case o30 => rintro _ ⟨⟩; exact owes_now (guard_none rfl) (Eq.refl _) (does_or (knows_is rfl (Eq.refl _)) (fun hx => (knows_whenis rfl (Eq.refl _) hx)) ext_refl (by rfl))
      case hC => exact (ext_refl _).drew
      case fin =>
        intro w1 hC1
        simp only [FinR]
        rintro _ rfl _ rfl _ rfl _ rfl y4 hy4 y5 hy5 y6 hy6 y7 hy7 _ rfl _ rfl y10 hy10 y11 hy11 y12 hy12 y13 hy13 _ rfl _ rfl y16 hy16 y17 hy17 y18 hy18 y19 hy19 y20 hy20 y21 hy21 _ rfl _ rfl y24 hy24 y25 hy25 y26 hy26 y27 hy27 y28 hy28 y29 hy29 x30 hx30
        obtain rfl : x30 = .bool false := by rw [hx30]; exact congrArg Value.bool (joins_r4 hga hgb)
        simp only [Act.put, List.setIfInBounds_toArray, List.set_cons_zero, List.set_cons_succ]
        clear hy4 hy5 hy6 hy7 hy10 hy11 hy12 hy13 hy16 hy17 hy18 hy19 hy20 hy21 hy24 hy25 hy26 hy27 hy28 hy29
        have HC2 := Lib.hid hC1; clear hC1
        go_upto_region 6 with fail
        refine wp_region_seq Ext (fun x => Ext W2 x) [0, 1, 2, 3, 4, 5, 6, 7, 8, 9, 10, 11, 12, 13, 14, 15, 16, 17, 18] [some 56, some 57, some 58, some 59, some 60, some 61, some 62, some 63, some 64, some 65, some 66, some 67, some 68, some 69, some 70, some 71, some 72, some 73, some 6] [(SRel.is _ ?vrc_0), (SRel.is _ ?vrc_1), (SRel.is _ (.bool (a.finer c))), (SRel.is _ ?vrc_3), (SRel.is _ ?vrc_4), (SRel.when ?prc_5 (SRel.is _ ?vrc_5)), (SRel.when ?prc_6 (SRel.is _ ?vrc_6)), (SRel.when ?prc_7 (SRel.is _ (.bool (b.finer c)))), (SRel.when ?prc_8 (SRel.is _ ?vrc_8)), (SRel.is _ ?vrc_9), (SRel.is _ ?vrc_10), (SRel.when ?prc_11 (SRel.is _ ?vrc_11)), (SRel.when ?prc_12 (SRel.is _ ?vrc_12)), (SRel.when ?prc_13 (SRel.is _ (.bool (((a.join b)).finer c)))), (SRel.is _ ?vrc_14), (SRel.is _ ?vrc_15), (SRel.when ?prc_16 (SRel.is _ (.bool (true)))), (SRel.is _ ?vrc_17), (SRel.is _ ?vrc_18)] 74 rfl rfl (by kernel_rfl) rfl (by kernel_rfl) ?hC ⟨?o0, ?o1, ?o2, ?o3, ?o4, ?o5, ?o6, ?o7, ?o8, ?o9, ?o10, ?o11, ?o12, ?o13, ?o14, ?o15, ?o16, ?o17, ?o18, trivial⟩ ?fin
        case o0 => rintro _ ⟨⟩; exact owes_now (guard_none rfl) (Eq.refl _) (does_load (knows_is rfl (Eq.refl _)) ext_refl fun a w hC h => (by simp [go_sem, h, L00.out, L01.out, L10.out, L11.out, L20.out, L21.out, J0.out, J1.out, hC]; rfl))
        case o1 => rintro _ ⟨⟩; exact owes_now (guard_none rfl) (Eq.refl _) (does_load (knows_is rfl (Eq.refl _)) ext_refl fun a w hC h => (by simp [go_sem, h, L00.out, L01.out, L10.out, L11.out, L20.out, L21.out, J0.out, J1.out, hC]; rfl))
        case o2 => rintro _ ⟨⟩; exact owes_now (guard_none rfl) (Eq.refl _) (does_call2 (R := (SRel.is _ (.bool (a.finer c)))) Try.func11 (by kernel_rfl) (by kernel_rfl) (knows_is rfl (Eq.refl _)) (knows_is rfl (Eq.refl _)) (fun w' v0 v1 hC h0 h1 => by
            obtain rfl := h0
            obtain rfl := h1
            refine (finer_calls a c _ _ _ _ _ (U0.out w' hC) (U2.out w' hC)).mono ?_
            rintro e w'' ⟨rfl, hx⟩
            exact ⟨_, rfl, rfl, hC.trans hx, hx⟩))
        case o3 => rintro _ ⟨⟩; exact owes_now (guard_none rfl) (Eq.refl _) (does_unOp (knows_is rfl (Eq.refl _)) ext_refl fun a w hC h => (by simp [go_sem, h]; rfl))
        case o4 => rintro _ ⟨⟩; exact owes_now (guard_none rfl) (Eq.refl _) (does_move (knows_is rfl (Eq.refl _)) ext_refl fun a w hC h => (by simp [go_sem, h]; rfl))
        case o5 => rintro _ ⟨⟩; exact owes_when rfl rfl (knows_is rfl (Eq.refl _)) (Eq.refl _) (by rfl) fun hp => (does_load (knows_is rfl (Eq.refl _)) ext_refl fun a w hC h => (by simp [go_sem, h, L00.out, L01.out, L10.out, L11.out, L20.out, L21.out, J0.out, J1.out, hC]; rfl))
        case o6 => rintro _ ⟨⟩; exact owes_when rfl rfl (knows_is rfl (Eq.refl _)) (Eq.refl _) (by rfl) fun hp => (does_load (knows_is rfl (Eq.refl _)) ext_refl fun a w hC h => (by simp [go_sem, h, L00.out, L01.out, L10.out, L11.out, L20.out, L21.out, J0.out, J1.out, hC]; rfl))
        case o7 => rintro _ ⟨⟩; exact owes_when rfl rfl (knows_is rfl (Eq.refl _)) (Eq.refl _) (by rfl) fun hp => (does_call2 (R := (SRel.is _ (.bool (b.finer c)))) Try.func11 (by kernel_rfl) (by kernel_rfl) (knows_whenis rfl (Eq.refl _) hp) (knows_whenis rfl (Eq.refl _) hp) (fun w' v0 v1 hC h0 h1 => by
            obtain rfl := h0
            obtain rfl := h1
            refine (finer_calls b c _ _ _ _ _ (U1.out w' hC) (U2.out w' hC)).mono ?_
            rintro e w'' ⟨rfl, hx⟩
            exact ⟨_, rfl, rfl, hC.trans hx, hx⟩))
        case o8 => rintro _ ⟨⟩; exact owes_when rfl rfl (knows_is rfl (Eq.refl _)) (Eq.refl _) (by rfl) fun hp => (does_unOp (knows_whenis rfl (Eq.refl _) hp) ext_refl fun a w hC h => (by simp [go_sem, h]; rfl))
        case o9 => rintro _ ⟨⟩; exact owes_now (guard_none rfl) (Eq.refl _) (does_or (knows_is rfl (Eq.refl _)) (fun hx => (knows_whenis rfl (Eq.refl _) hx)) ext_refl (by rfl))
        case o10 => rintro _ ⟨⟩; exact owes_now (guard_none rfl) (Eq.refl _) (does_move (knows_is rfl (Eq.refl _)) ext_refl fun a w hC h => (by simp [go_sem, h]; rfl))
        case o11 => rintro _ ⟨⟩; exact owes_when rfl rfl (knows_is rfl (Eq.refl _)) (Eq.refl _) (by rfl) fun hp => (does_load (knows_is rfl (Eq.refl _)) ext_refl fun a w hC h => (by simp [go_sem, h, L00.out, L01.out, L10.out, L11.out, L20.out, L21.out, J0.out, J1.out, hC]; rfl))
        case o12 => rintro _ ⟨⟩; exact owes_when rfl rfl (knows_is rfl (Eq.refl _)) (Eq.refl _) (by rfl) fun hp => (does_load (knows_is rfl (Eq.refl _)) ext_refl fun a w hC h => (by simp [go_sem, h, L00.out, L01.out, L10.out, L11.out, L20.out, L21.out, J0.out, J1.out, hC]; rfl))
        case o13 => rintro _ ⟨⟩; exact owes_when rfl rfl (knows_is rfl (Eq.refl _)) (Eq.refl _) (by rfl) fun hp => (does_call2 (R := (SRel.is _ (.bool (((a.join b)).finer c)))) Try.func11 (by kernel_rfl) (by kernel_rfl) (knows_whenis rfl (Eq.refl _) hp) (knows_whenis rfl (Eq.refl _) hp) (fun w' v0 v1 hC h0 h1 => by
            obtain rfl := h0
            obtain rfl := h1
            refine (finer_calls ((a.join b)) c _ _ _ _ _ (VJ.out w' hC) (U2.out w' hC)).mono ?_
            rintro e w'' ⟨rfl, hx⟩
            exact ⟨_, rfl, rfl, hC.trans hx, hx⟩))
        case o14 => rintro _ ⟨⟩; exact owes_now (guard_none rfl) (Eq.refl _) (does_or (knows_is rfl (Eq.refl _)) (fun hx => (knows_whenis rfl (Eq.refl _) hx)) ext_refl (by rfl))
        case o15 => rintro _ ⟨⟩; exact owes_now (guard_none rfl) (Eq.refl _) (does_move (knows_is rfl (Eq.refl _)) ext_refl fun a w hC h => (by simp [go_sem, h]; rfl))
        case o16 => rintro _ ⟨⟩; exact owes_when rfl rfl (knows_is rfl (Eq.refl _)) (Eq.refl _) (by rfl) fun hp => (does_call0 (R := (SRel.is _ (.bool (true)))) Try.func9 (by kernel_rfl) (by kernel_rfl)  (fun w' hC => by
            refine (ktypes_calls w').mono ?_
            rintro e w'' ⟨rfl, hx⟩
            exact ⟨_, rfl, rfl, hC.trans hx, hx⟩))
        case o17 => rintro _ ⟨⟩; exact owes_now (guard_none rfl) (Eq.refl _) (does_and (knows_is rfl (Eq.refl _)) (fun hx => (knows_whenis rfl (Eq.refl _) hx)) ext_refl (by rfl))
        case o18 => rintro _ ⟨⟩; exact owes_now (guard_none rfl) (Eq.refl _) (does_assign (knows_is rfl (Eq.refl _)) ext_refl fun a w hC h => (by simp [go_sem, h]; rfl))
        case hC => exact HC2.out
        case fin =>
          intro w1 hC1
          simp only [FinR]
          rintro _ rfl _ rfl _ rfl _ rfl _ rfl y5 hy5 y6 hy6 y7 hy7 y8 hy8 _ rfl _ rfl y11 hy11 y12 hy12 y13 hy13 _ rfl _ rfl y16 hy16 _ rfl x18 hx18
          obtain rfl : x18 = .bool true := by rw [hx18]; exact congrArg Value.bool joins_r6
          simp only [Act.put, List.setIfInBounds_toArray, List.set_cons_zero, List.set_cons_succ]
          clear hy5 hy6 hy7 hy8 hy11 hy12 hy13 hy16
          go_wp2_with fail
          go_ret
          exact ⟨rfl, HE.out.trans (HE2.out.trans hC1)⟩
  · refine wp_region_seq Ext (fun x => Ext W1 x) [0, 1, 2, 3, 4, 5, 6, 7, 8, 9, 10, 11, 12] [some 8, some 9, some 10, some 11, some 12, some 13, some 14, some 15, some 16, some 17, some 18, some 19, some 20] [(SRel.is _ ?vre_0), (SRel.is _ (.bool (a.good 4))), (SRel.is _ ?vre_2), (SRel.is _ ?vre_3), (SRel.when ?pre_4 (SRel.is _ ?vre_4)), (SRel.when ?pre_5 (SRel.is _ (.bool (b.good 4)))), (SRel.when ?pre_6 (SRel.is _ ?vre_6)), (SRel.is _ ?vre_7), (SRel.is _ ?vre_8), (SRel.when ?pre_9 (SRel.is _ ?vre_9)), (SRel.when ?pre_10 (SRel.is _ (.bool (c.good 4)))), (SRel.when ?pre_11 (SRel.is _ ?vre_11)), (SRel.is _ ?vre_12)] 74 rfl rfl (by kernel_rfl) rfl (by kernel_rfl) ?hC ⟨?o0, ?o1, ?o2, ?o3, ?o4, ?o5, ?o6, ?o7, ?o8, ?o9, ?o10, ?o11, ?o12, trivial⟩ ?fin
    case o0 => rintro _ ⟨⟩; exact owes_now (guard_none rfl) (Eq.refl _) (does_load (knows_is rfl (Eq.refl _)) ext_refl fun a w hC h => (by simp [go_sem, h, K00.out, K01.out, K10.out, K11.out, K20.out, K21.out, hC]; rfl))
    case o1 => rintro _ ⟨⟩; exact owes_now (guard_none rfl) (Eq.refl _) (does_call1 (R := (SRel.is _ (.bool (a.good 4)))) Try.func8 (by kernel_rfl) (by kernel_rfl) (knows_is rfl (Eq.refl _)) (fun w' v0 hC h0 => by
        obtain rfl := h0
        refine (Good_calls a _ _ _ (V0.out w' hC)).mono ?_
        rintro e w'' ⟨rfl, hx⟩
        exact ⟨_, rfl, rfl, hC.trans hx, hx⟩))
    case o2 => rintro _ ⟨⟩; exact owes_now (guard_none rfl) (Eq.refl _) (does_unOp (knows_is rfl (Eq.refl _)) ext_refl fun a w hC h => (by simp [go_sem, h]; rfl))
    case o3 => rintro _ ⟨⟩; exact owes_now (guard_none rfl) (Eq.refl _) (does_move (knows_is rfl (Eq.refl _)) ext_refl fun a w hC h => (by simp [go_sem, h]; rfl))
    case o4 => rintro _ ⟨⟩; exact owes_when rfl rfl (knows_is rfl (Eq.refl _)) (Eq.refl _) (by rfl) fun hp => (does_load (knows_is rfl (Eq.refl _)) ext_refl fun a w hC h => (by simp [go_sem, h, K00.out, K01.out, K10.out, K11.out, K20.out, K21.out, hC]; rfl))
    case o5 => rintro _ ⟨⟩; exact owes_when rfl rfl (knows_is rfl (Eq.refl _)) (Eq.refl _) (by rfl) fun hp => (does_call1 (R := (SRel.is _ (.bool (b.good 4)))) Try.func8 (by kernel_rfl) (by kernel_rfl) (knows_whenis rfl (Eq.refl _) hp) (fun w' v0 hC h0 => by
        obtain rfl := h0
        refine (Good_calls b _ _ _ (V1.out w' hC)).mono ?_
        rintro e w'' ⟨rfl, hx⟩
        exact ⟨_, rfl, rfl, hC.trans hx, hx⟩))
    case o6 => rintro _ ⟨⟩; exact owes_when rfl rfl (knows_is rfl (Eq.refl _)) (Eq.refl _) (by rfl) fun hp => (does_unOp (knows_whenis rfl (Eq.refl _) hp) ext_refl fun a w hC h => (by simp [go_sem, h]; rfl))
    case o7 => rintro _ ⟨⟩; exact owes_now (guard_none rfl) (Eq.refl _) (does_or (knows_is rfl (Eq.refl _)) (fun hx => (knows_whenis rfl (Eq.refl _) hx)) ext_refl (by rfl))
    case o8 => rintro _ ⟨⟩; exact owes_now (guard_none rfl) (Eq.refl _) (does_move (knows_is rfl (Eq.refl _)) ext_refl fun a w hC h => (by simp [go_sem, h]; rfl))
    case o9 => rintro _ ⟨⟩; exact owes_when rfl rfl (knows_is rfl (Eq.refl _)) (Eq.refl _) (by rfl) fun hp => (does_load (knows_is rfl (Eq.refl _)) ext_refl fun a w hC h => (by simp [go_sem, h, K00.out, K01.out, K10.out, K11.out, K20.out, K21.out, hC]; rfl))
    case o10 => rintro _ ⟨⟩; exact owes_when rfl rfl (knows_is rfl (Eq.refl _)) (Eq.refl _) (by rfl) fun hp => (does_call1 (R := (SRel.is _ (.bool (c.good 4)))) Try.func8 (by kernel_rfl) (by kernel_rfl) (knows_whenis rfl (Eq.refl _) hp) (fun w' v0 hC h0 => by
        obtain rfl := h0
        refine (Good_calls c _ _ _ (V2.out w' hC)).mono ?_
        rintro e w'' ⟨rfl, hx⟩
        exact ⟨_, rfl, rfl, hC.trans hx, hx⟩))
    case o11 => rintro _ ⟨⟩; exact owes_when rfl rfl (knows_is rfl (Eq.refl _)) (Eq.refl _) (by rfl) fun hp => (does_unOp (knows_whenis rfl (Eq.refl _) hp) ext_refl fun a w hC h => (by simp [go_sem, h]; rfl))
    case o12 => rintro _ ⟨⟩; exact owes_now (guard_none rfl) (Eq.refl _) (does_or (knows_is rfl (Eq.refl _)) (fun hx => (knows_whenis rfl (Eq.refl _) hx)) ext_refl (by rfl))
    case hC => exact (ext_refl _)
    case fin =>
      intro w1 hC1
      simp only [FinR]
      rintro _ rfl _ rfl _ rfl _ rfl y4 hy4 y5 hy5 y6 hy6 _ rfl _ rfl y9 hy9 y10 hy10 y11 hy11 x12 hx12
      obtain rfl : x12 = .bool true := by rw [hx12]; rw [hg]
      simp only [Act.put, List.setIfInBounds_toArray, List.set_cons_zero, List.set_cons_succ]
      clear hy4 hy5 hy6 hy9 hy10 hy11
      have HC1 := Lib.hid hC1; clear hC1
      go_wp2_with fail
      refine (ktypes_calls _).mono ?_
      rintro e w2 ⟨rfl, hx⟩
      go_wp2_with fail
      go_ret
      exact ⟨rfl, HE.out.trans (HC1.out.trans hx)⟩

namespace kindJoins
theorem own : ownKnob Try.prog.godebug = none := by kernel_rfl
set_option maxRecDepth 100000 in
theorem lifted (os : Os) (started : os.Started) (H : Type) (enc : TypeId × Value → H) :
    ReturnsInHanded {} Try.checked os 4 .any (Rows.kindJoinsSpec.pre6 enc Try.prog Try.f4 Rows.kindJoinsRow.domain false) (Rows.kindJoinsSpec.post enc Try.prog Try.f4 false true false false) := by
  refine returnsInHanded_of_change (C := Try.checked) own started (by kernel_rfl) Try.func4
    (ChangeSpec.witness6 (enc := enc) (C := Try.checked) false ⟨#[], #[.agg #[.int .i64 0, .slice none 0 0], .agg #[.int .i64 0, .slice none 0 0], .agg #[.int .i64 0, .slice none 0 0]], []⟩ 8 (by kernel_rfl) (by kernel_rfl) (by kernel_rfl) (by kernel_rfl)) ?_
  intro W base args ds gs before hval0 hW hcnd _
  have hval : ∀ (j : Nat) t v, Try.f4.params[j]? = some t → args[j]? = some v → Value.okWide Try.prog W .any base t v := hval0
  have hW' := hW
  obtain ⟨p, q, hA0, hV, rfl, hfz, hnd⟩ := hW
  have hA : DataW.TrodAll enc Try.prog W 0 (fun _ => true) true Try.f4.params.toList args.toList ds p := hA0
  rw [Try.params4] at hA hval
  obtain ⟨v0, vs0, d0, ds0, p0, q0, hargs, rfl, rfl, h0, hrest0⟩ := trodAll_cons hA
  obtain ⟨v1, vs1, d1, ds1, p1, q1, hv1, rfl, rfl, h1, hrest1⟩ := trodAll_cons hrest0
  obtain ⟨v2, vs2, d2, ds2, p2, q2, hv2, rfl, rfl, h2, hrest2⟩ := trodAll_cons hrest1
  obtain ⟨rfl, rfl, rfl⟩ := trodAll_nil hrest2
  subst hv2 hv1
  obtain rfl : args = #[v0, v1, v2] := by cases args; simp_all
  obtain ⟨rfl, rfl⟩ := trodVars_none hV
  have hblt := hA.lt
  clear hA0 hval0 hA
  simp only [List.append_nil] at hW'
  obtain ⟨t0, ht0, hs0⟩ := open_Ty (hval 0 25 v0 rfl rfl) h0
  obtain ⟨t1, ht1, hs1⟩ := open_Ty (hval 1 25 v1 rfl rfl) h1
  obtain ⟨t2, ht2, hs2⟩ := open_Ty (hval 2 25 v2 rfl rfl) h2
  refine (joins_walk t0 t1 t2 W v0 v1 v2 ht0 ht1 ht2).mono fun e W' ⟨he, hx⟩ => ?_
  subst he
  refine ⟨_, rfl, law_post (pa := p0 ++ (p1 ++ (p2 ++ []))) hW' rfl rfl rfl hx ?_⟩
  show DataW.TrodAll enc Try.prog W' 0 (fun b => decide (b < W.heap.size)) true Try.f4.params.toList [v0, v1, v2] [d0, d1, d2] _
  rw [Try.params4]
  exact trodAll_cons_mk (again_Ty hx h0 fun x hx => hblt x (by simp [hx])) (trodAll_cons_mk (again_Ty hx h1 fun x hx => hblt x (by simp [hx])) (trodAll_cons_mk (again_Ty hx h2 fun x hx => hblt x (by simp [hx])) (trodAll_mk0)))

theorem over : Rows.kindJoinsRow.holds Try.pinned (OpenSpec.ofChange Rows.kindJoinsSpec) :=
  OpenClaim.holds_of_wide 4 Try.f4 rfl rfl rfl rfl rfl rfl rfl ⟨rfl, rfl, rfl, rfl, rfl⟩ rfl rfl rfl rfl rfl (by kernel_rfl) Try.func4 (by kernel_rfl)
    (of_decide_eq_true (by kernel_rfl)) (by unfold Func.isWrapper; first | (rw [if_pos (by decide +kernel)]; kernel_rfl) | (rw [if_neg (by decide +kernel)]; exact ⟨rfl, rfl⟩))
    (fun os started H enc _ => lifted os started H enc)

theorem proved : Rows.KindJoinsSaid := over
end kindJoins
end Go.Proofs.Ytnflnbdlgdjfmaa
