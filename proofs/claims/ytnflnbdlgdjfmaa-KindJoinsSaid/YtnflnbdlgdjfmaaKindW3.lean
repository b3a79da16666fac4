/-
  The walks of functions that make types. Conditions: the arguments lie in memory as trees.
-/
import Derived.Test.YtnflnbdlgdjfmaaKindW2
import Derived.Test.YtnflnbdlgdjfmaaOwn
namespace Go.Proofs.Ytnflnbdlgdjfmaa
open Go.ChangeShapes Go.WideShapes Go.ChangeAt Go.RowKit
set_option linter.unusedVariables false
set_option linter.unusedSimpArgs false

theorem any_V (G : Nat → Prop) (w : World) : TyV G w .any (.agg #[.int .i64 0, .slice none 0 0]) := ⟨_, rfl, TyL.nil G w⟩

set_option maxHeartbeats 1000000 in
theorem ground_calls (t : Ty) (G : Nat → Prop) (w : World) (va : Value) (ht : TyV G w t va) :
    Calls Try.prog 13 #[va] w fun e w' => ∃ v, e = .returned v ∧ TyV (fun k => w.heap.size ≤ k) w' t.ground v ∧ Ext w w' := by
  obtain ⟨k, l⟩ := t
  obtain ⟨sa, rfl, ha⟩ := ht
  simp only [Ty.k_mk, Ty.l_mk] at *
  obtain ⟨a1, c1, rfl, hmax, _⟩ := ha.form
  have HA := Lib.hid ha; clear ha
  by_cases hk : k = 3
  · subst hk
    have hres : (Ty.mk 3 l).ground = .to .any .any := by simp [Ty.ground]
    rw [hres]; clear hres
    go_enter Try.func13, Try.ntmps13
    go_wp2_with fail
    refine (to_calls .any .any (fun _ => False) _ _ _ (any_V _ _) (any_V _ _)).mono ?_
    rintro e w1 ⟨v, rfl, ⟨s, rfl, hs⟩, hx⟩
    obtain ⟨a2, c2, rfl, _⟩ := hs.form
    have HS := Lib.hid hs; clear hs
    have HX := Lib.hid hx; clear hx
    have hsz : w.heap.size + 1 < w1.heap.size := by have := HX.out.size; simp at this; omega
    have r0 := HX.out.cell (p := ⟨w.heap.size + 1, 0, none⟩) (v := .int .i64 0) (by simp [go_sem])
    have r1 := HX.out.cell (p := ⟨w.heap.size + 1, 1, none⟩) (v := .slice none 0 0) (by simp [go_sem])
    have q0 := HX.out.frozen (p := ⟨w.heap.size + 1, 0, none⟩) (x := false) (by simp) (by simp [go_sem])
    have q1 := HX.out.frozen (p := ⟨w.heap.size + 1, 1, none⟩) (x := false) (by simp) (by simp [go_sem])
    go_wp2_with fail
    refine bodyPost_ret (v := .agg #[.int .i64 3, .slice a2 2 c2]) (by simp [results, Try.results13, go_sem, hsz, r0, r1, Ty.to]) rfl ?_
    refine ⟨_, rfl, ⟨_, rfl, ?_⟩, ?_⟩
    · refine TyL.weaken (((HS.out).set ?_ _).set ?_ _) ?_
      · simp
      · simp
      · intro k hk
        simp at hk
        omega
    · exact ((((ext_refl w).alloc _).alloc _).trans HX.out).setCell (by simp) _ |>.setCell (by simp) _
  · have hres : (Ty.mk k l).ground = .mk k [] := by simp [Ty.ground, hk]
    rw [hres]; clear hres
    go_enter Try.func13, Try.ntmps13
    go_wp2_with fail
    refine bodyPost_ret (v := .agg #[.int .i64 k, .slice none 0 0]) (by simp [results, Try.results13, go_sem]) rfl ?_
    exact ⟨_, rfl, ⟨_, rfl, TyL.nil _ _⟩, ((ext_refl w).alloc _).alloc _⟩

theorem Jn_info : (Try.prog.info? 25).map (fun i => (i.zero, i.size, i.bytes)) = some (some (.agg #[.int .i64 0, .slice none 0 0]), 2, 32) := by kernel_rfl

set_option maxHeartbeats 2000000 in
theorem join_calls : ∀ (a b : Ty) (G G' : Nat → Prop) (w : World) (va vb : Value), Thin a → TyV G w a va → TyV G' w b vb →
    Calls Try.prog 10 #[va, vb] w fun e w' => ∃ v, e = .returned v ∧ TyV (fun k => w.heap.size ≤ k) w' (a.join b) v ∧ Ext w w' := by
  intro a
  induction a using Ty.ind with
  | h k l ih =>
  rintro ⟨k', m⟩ G G' w va vb hthin ⟨sa, rfl, ha⟩ ⟨sb, rfl, hb⟩
  simp only [Ty.k_mk, Ty.l_mk] at *
  obtain ⟨a1, c1, rfl, hmax, S1, hA, hA'⟩ := ha.form
  obtain ⟨a2, c2, rfl, hmax2, S2, hB, hB'⟩ := hb.form
  have hthl := hthin.len
  unfold maxLen at hmax hmax2
  by_cases hk : k = k'
  · subst hk
    by_cases hlen : l.length = m.length
    · have HA := Lib.hid hA; clear hA
      have HB := Lib.hid hB; clear hB
      have HA' := Lib.hid hA'; clear hA'
      have HB' := Lib.hid hB'; clear hB'
      have Hih := Lib.hid ih; clear ih
      have Hlen := Lib.hid hlen
      have Hth := Lib.hid hthin; clear hthin
      have hres : (Ty.mk k l).join (Ty.mk k m) = .mk k (joinL l m) := by simp [Ty.join, hlen]
      rw [hres]
      clear hres ha hb
      rw [← hlen]
      clear hlen
      obtain ⟨i0, hi0, hz0, hz1, hz2⟩ := info_parts Jn_info
      go_enter Try.func10, Try.ntmps10
      go_wp2_with fail
      obtain ⟨W0, hW0⟩ : ∃ W0, W0 = ((((w.alloc (Obj.cells #[Value.int IntKind.i64 k, Value.slice a1 l.length c1] 25)).alloc (Obj.cells #[Value.int IntKind.i64 k, Value.slice a2 l.length c2] 25)).alloc
          (Obj.cells #[Value.int IntKind.i64 0, Value.slice none 0 0] 25)).alloc (Obj.cells #[Value.int IntKind.i64 k, Value.slice none 0 0] 25)) := ⟨_, rfl⟩
      have hx0 : Ext w W0 := by rw [hW0]; exact ((((ext_refl w).alloc _).alloc _).alloc _).alloc _
      have c11 : W0.cell? ⟨w.heap.size, 1, none⟩ = some (.slice a1 l.length c1) := by rw [hW0]; simp [go_sem]
      have c21 : W0.cell? ⟨w.heap.size + 1, 1, none⟩ = some (.slice a2 l.length c2) := by rw [hW0]; simp [go_sem]
      have r20 : W0.heap[w.heap.size + 1 + 1]? = some (.cells #[Value.int IntKind.i64 0, Value.slice none 0 0] 25) := by rw [hW0]; exact blk_old (blk_new (by simp))
      have r30 : W0.heap[w.heap.size + 1 + 1 + 1]? = some (.cells #[Value.int IntKind.i64 k, Value.slice none 0 0] 25) := by rw [hW0]; exact blk_new (by simp)
      have s0 : w.heap.size + 1 + 1 + 1 < W0.heap.size := by rw [hW0]; simp
      rw [← hW0]
      clear hW0
      have R20 := Lib.hid r20; clear r20
      have HX := Lib.hid hx0; clear hx0
      go_loopw [28] (fun v wr => ∃ (i : Nat) (u : Value) (xs : List Value) (Gx : Nat → Prop), i ≤ l.length ∧ v = .int .i64 i ∧ wr.heap[w.heap.size + 1 + 1 + 1]? = some (.cells #[.int .i64 k, u] 25) ∧
        Build TyC 25 2 (w.heap.size + 1 + 1 + 1) W0 wr u ((joinL l m).take i) xs Gx) (fun v _ => l.length - (intOf v).toNat)
      case atStart => exact ⟨0, .slice none 0 0, [], fun _ => False, Nat.zero_le _, rfl, r30, Build.start s0⟩
      case round =>
        obtain ⟨i, u, xs, Gx, hi, rfl, hout, hbuild⟩ := hrel
        obtain ⟨a3, c3, hu⟩ := own_form hbuild.own
        have htl : ((joinL l m).take i).length = i := by rw [List.length_take, joinL_length Hlen.out]; omega
        rw [htl] at hu
        subst hu
        have Htl := Lib.hid htl; clear htl
        have HBd := Lib.hid hbuild; clear hbuild
        have HO := Lib.hid hout; clear hout
        by_cases hlt : i < l.length
        · have hltm : i < m.length := by rw [← Hlen.out]; exact hlt
          obtain ⟨b1, o1, rfl, _, a1', a2'⟩ := HA.out i hlt
          obtain ⟨b2, o2, rfl, _, b1', b2'⟩ := HB.out i hltm
          have HW := Lib.hid (show Below (w.heap.size + 1 + 1 + 1) W0 wr from HBd.out.below)
          have HWE := Lib.hid (show Ext w wr from Below.trans HX.out (HW.out.mono (by omega)))
          have K1 := Lib.hid (show ∀ w', Ext wr w' → w'.cell? ⟨w.heap.size, 1, none⟩ = some (.slice (some ⟨b1, o1, none⟩) l.length c1) from fun w' h => h.cell ((HW.out.cell (p := ⟨w.heap.size, 1, none⟩) (by simp; omega)).trans c11))
          have K2 := Lib.hid (show ∀ w', Ext wr w' → w'.cell? ⟨w.heap.size + 1, 1, none⟩ = some (.slice (some ⟨b2, o2, none⟩) l.length c2) from fun w' h => h.cell ((HW.out.cell (p := ⟨w.heap.size + 1, 1, none⟩) (by simp)).trans c21))
          have K3 := Lib.hid (show ∀ w', Ext wr w' → w'.cell? ⟨b1, o1 + i * 2, none⟩ = some (.int .i64 l[i].k) from fun w' h => h.cell (HWE.out.cell a1'))
          have K4 := Lib.hid (show ∀ w', Ext wr w' → w'.cell? ⟨b1, o1 + i * 2 + 1, none⟩ = some (S1 i) from fun w' h => h.cell (HWE.out.cell a2'))
          have K5 := Lib.hid (show ∀ w', Ext wr w' → w'.cell? ⟨b2, o2 + i * 2, none⟩ = some (.int .i64 m[i].k) from fun w' h => h.cell (HWE.out.cell b1'))
          have K6 := Lib.hid (show ∀ w', Ext wr w' → w'.cell? ⟨b2, o2 + i * 2 + 1, none⟩ = some (S2 i) from fun w' h => h.cell (HWE.out.cell b2'))
          have K7 := Lib.hid (show ∀ w', Ext wr w' → w'.cell? ⟨w.heap.size + 1 + 1 + 1, 1, none⟩ = some (.slice a3 i c3) from fun w' h => h.cell (blk_cell HO.out 1))
          clear a1' a2' b1' b2' c11 c21 s0
          go_wp2_with fail
          refine wp_region_relT Ext (fun w' => Ext wr w') [0, 1, 2, 3, 4, 5, 6, 7, 8, 9, 10, 11, 12, 13] [14, 15, 16] [some 31, some 32, some 33, some 34, some 35, some 36, some 37, some 38, some 39, some 40, some 41, some 42, some 43, some 44] _ [SRel.is _ ?v0, SRel.is _ ?v1, SRel.is _ ?v2, SRel.is _ ?v3, SRel.is _ ?v4, SRel.is _ ?v5, SRel.is _ ?v6, SRel.is _ ?v7, SRel.is _ ?v8, SRel.is _ ?v9, SRel.is _ ?v10, SRel.is _ ?v11, ⟨fun x w' => TyV (fun k => wr.heap.size ≤ k) w' (l[i].join m[i]) x, fun _ _ _ h hv => hv.ext h⟩, ⟨fun x w' => ∃ g s, x = .slice (some ⟨g, 0, none⟩) 1 1 ∧ w'.heap[g]? = some (.cells #[.int .i64 (l[i].join m[i]).k, s] 25) ∧ TyL (fun k => wr.heap.size ≤ k) w' (l[i].join m[i]).l s, fun _ _ _ h ⟨g, s, h1, h2, h3⟩ => ⟨g, s, h1, h.block h2, h3.ext h⟩⟩] 49 (by kernel_rfl) rfl rfl rfl rfl rfl (by kernel_rfl) ?hC ⟨?o0, ?o1, ?o2, ?o3, ?o4, ?o5, ?o6, ?o7, ?o8, ?o9, ?o10, ?o11, ?o12, ?o13, trivial⟩ ?fin
          case o0 => rintro _ ⟨⟩; exact owes_fieldAddr (guard_none rfl) (Eq.refl _) (Eq.refl _) ext_refl fun a w hC h => (by simp [go_sem, h]; rfl)
          case o1 => rintro _ ⟨⟩; exact owes_load (guard_none rfl) (Eq.refl _) (Eq.refl _) ext_refl fun a w hC h => (by simp [go_sem, h, K1.out, K2.out, K3.out, K4.out, K5.out, K6.out, K7.out, hlt, hC]; rfl)
          case o2 => rintro _ ⟨⟩; exact owes_fieldAddr (guard_none rfl) (Eq.refl _) (Eq.refl _) ext_refl fun a w hC h => (by simp [go_sem, h]; rfl)
          case o3 => rintro _ ⟨⟩; exact owes_load (guard_none rfl) (Eq.refl _) (Eq.refl _) ext_refl fun a w hC h => (by simp [go_sem, h, K1.out, K2.out, K3.out, K4.out, K5.out, K6.out, K7.out, hlt, hC]; rfl)
          case o4 => rintro _ ⟨⟩; exact owes_move (guard_none rfl) (Eq.refl _) (Eq.refl _) ext_refl fun a w hC h => (by simp [go_sem, h]; rfl)
          case o5 => rintro _ ⟨⟩; exact owes_indexAddr (guard_none rfl) (Eq.refl _) (Eq.refl _) (Eq.refl _) ext_refl fun a w hC h h' => (by simp [go_sem, h, h', K1.out, K2.out, K3.out, K4.out, K5.out, K6.out, K7.out, hlt]; rfl)
          case o6 => rintro _ ⟨⟩; exact owes_load (guard_none rfl) (Eq.refl _) (Eq.refl _) ext_refl fun a w hC h => (by simp [go_sem, h, K1.out, K2.out, K3.out, K4.out, K5.out, K6.out, K7.out, hlt, hC]; rfl)
          case o7 => rintro _ ⟨⟩; exact owes_fieldAddr (guard_none rfl) (Eq.refl _) (Eq.refl _) ext_refl fun a w hC h => (by simp [go_sem, h]; rfl)
          case o8 => rintro _ ⟨⟩; exact owes_load (guard_none rfl) (Eq.refl _) (Eq.refl _) ext_refl fun a w hC h => (by simp [go_sem, h, K1.out, K2.out, K3.out, K4.out, K5.out, K6.out, K7.out, hlt, hC]; rfl)
          case o9 => rintro _ ⟨⟩; exact owes_move (guard_none rfl) (Eq.refl _) (Eq.refl _) ext_refl fun a w hC h => (by simp [go_sem, h]; rfl)
          case o10 => rintro _ ⟨⟩; exact owes_indexAddr (guard_none rfl) (Eq.refl _) (Eq.refl _) (Eq.refl _) ext_refl fun a w hC h h' => (by simp [go_sem, h, h', K1.out, K2.out, K3.out, K4.out, K5.out, K6.out, K7.out, hlt]; rfl)
          case o11 => rintro _ ⟨⟩; exact owes_load (guard_none rfl) (Eq.refl _) (Eq.refl _) ext_refl fun a w hC h => (by simp [go_sem, h, K1.out, K2.out, K3.out, K4.out, K5.out, K6.out, K7.out, hlt, hC]; rfl)
          case o12 => rintro _ ⟨⟩; exact owes_call2 (Rx := SRel.is _ _) (Ry := SRel.is _ _) Try.func10 (by kernel_rfl) (by kernel_rfl) (guard_none rfl) (Eq.refl _) (Eq.refl _) (Eq.refl _) (by
              rintro w' _ _ hC rfl rfl
              refine (Hih.out l[i] (List.getElem_mem _) m[i] G G' w' _ _ (Hth.out.part _ (List.getElem_mem _)) ⟨_, rfl, (HA'.out i hlt).ext (HWE.out.trans hC)⟩ ⟨_, rfl, (HB'.out i hltm).ext (HWE.out.trans hC)⟩).mono ?_
              rintro e w'' ⟨v, rfl, hv, hb⟩
              exact ⟨_, rfl, hv.mono (fun k hk => Nat.le_trans hC.size hk) (fun _ _ _ => rfl), hC.trans hb, hb⟩)
          case o13 => rintro _ ⟨⟩; exact owes_buildSlice1 (guard_none rfl) (Eq.refl _) (Eq.refl _) (by
              rintro w' vx hC ⟨s, rfl, hs⟩
              refine ⟨.slice (some ⟨w'.heap.size, 0, none⟩) 1 1, w'.alloc (.cells #[.int .i64 (l[i].join m[i]).k, s] 25), ?_, ?_, hC.alloc _, (ext_refl _).alloc _⟩
              · simp [go_sem]
              · exact ⟨_, _, rfl, blk_new rfl, hs.ext ((ext_refl _).alloc _)⟩)
          case hC => exact (ext_refl _).drew
          case fin =>
            intro w1 hC1
            simp only [FinR]
            rintro _ rfl _ rfl _ rfl _ rfl _ rfl _ rfl _ rfl _ rfl _ rfl _ rfl _ rfl _ rfl v12 _ v13 ⟨g, s, rfl, hg, hs⟩
            simp only [Act.put, List.setIfInBounds_toArray, List.set_cons_zero, List.set_cons_succ]
            have HC1 := Lib.hid hC1; clear hC1
            have HB1 := HBd.out.ext tyC_rel HC1.out
            obtain ⟨a4, c4, rfl, _⟩ := hs.form
            have HG := Lib.hid hg; clear hg
            have HS := Lib.hid hs; clear hs
            simp only [List.filterMap_cons, List.getElem?_toArray, List.getElem?_cons_succ, List.getElem?_cons_zero, List.filterMap_nil]
            have hown1 := HB1.own
            rw [Htl.out] at hown1
            refine wpList_append_row rfl (.tmp 32) (.tmp 44) 23 rfl 25 i0 _ 2 32 Try.underlying23 hi0 hz0 hz1 hz2 rfl (by decide) (.slice a3 i c3) i xs rfl hown1 ⟨g, 0, none⟩ 1 1 [.int .i64 (l[i].join m[i]).k, .slice a4 (l[i].join m[i]).l.length c4] rfl rfl ?c1 ?c2 ?c3 ?c4 ?c5
            case c1 => exact blk_cells HG.out
            case c2 => simp [Value.oneCell']
            case c3 => unfold maxLen; omega
            case c4 => omega
            case c5 =>
              intro v' w2 hown2 hgr2 hfr2
              have hb2 := HBd.out.snoc tyC_rel (t := l[i].join m[i]) (c := [.int .i64 (l[i].join m[i]).k, .slice a4 (l[i].join m[i]).l.length c4]) HC1.out ⟨_, rfl, HS.out⟩ (fun k hk => ⟨Nat.lt_of_lt_of_le HBd.out.lt hk, fun e => by have := own_lt HBd.out.own e; omega⟩) (by rw [Htl.out]; exact hown2) hgr2 hfr2
              obtain ⟨a5, c5, rfl⟩ := own_form hown2
              have hob : w2.heap[w.heap.size + 1 + 1 + 1]? = some (.cells #[.int .i64 k, .slice a3 i c3] 25) :=
                (hgr2.block _ (Nat.lt_of_lt_of_le HBd.out.lt HC1.out.size) (fun e => by have := HBd.out.blk _ e.symm; omega)).trans (HC1.out.block HO.out)
              have d1 := (blk_cell hob 1).trans rfl
              have d2 := blk_free hob 1
              have HB2 := Lib.hid hb2; clear hb2
              have HOB := Lib.hid hob; clear hob hown2 hgr2 hfr2
              simp only [Act.put, List.setIfInBounds_toArray, List.set_cons_zero, List.set_cons_succ]
              go_wp2_with fail
              have hb3 := HB2.out.set tyC_rel (p := ⟨w.heap.size + 1 + 1 + 1, 1, none⟩) (Nat.le_refl _) (fun e => Nat.lt_irrefl _ (HB2.out.blk _ e)) (fun h => Nat.lt_irrefl _ h.1) (.slice a5 (i + 1) c5)
              rw [← joinL_take hlt hltm] at hb3
              exact ⟨⟨i + 1, .slice a5 (i + 1) c5, _, _, by omega, by go_num, blk_set HOB.out 1 _, hb3⟩, by simp [intOf]; omega⟩
        · have hil : i = l.length := by omega
          subst hil
          have e0 := (blk_cell HO.out 0).trans rfl
          have e1 := (blk_cell HO.out 1).trans rfl
          have hr := (HBd.out.below.block (w.heap.size + 1 + 1) (by omega)).trans R20.out
          have f0 := (blk_cell hr 0).trans rfl
          have f1 := (blk_cell hr 1).trans rfl
          have q0 := blk_free hr 0
          have q1 := blk_free hr 1
          have HR := Lib.hid hr; clear hr
          go_wp2_with fail
          refine bodyPost_ret (v := .agg #[.int .i64 k, .slice a3 l.length c3]) (by simp [results, Try.results10, go_sem, f0, f1]) rfl ?_
          refine ⟨_, rfl, ⟨_, rfl, ?_⟩, ?_⟩
          · have hfull : (joinL l m).take l.length = joinL l m := List.take_of_length_le (by rw [joinL_length Hlen.out]; exact Nat.le_refl _)
            have hb := HBd.out
            rw [hfull] at hb
            have ho := hb.own
            rw [joinL_length Hlen.out] at ho
            have ht := own_TyL (G' := fun k => w.heap.size + 1 + 1 + 1 < k) ho hb.reps (joinL_length Hlen.out).symm (fun k hk => (hb.reg k hk).1) (fun k hk => hb.blk k hk)
            refine ((ht.set (p := ⟨w.heap.size + 1 + 1, 0, none⟩) ?_ _).set (p := ⟨w.heap.size + 1 + 1, 1, none⟩) ?_ _).weaken fun k hk => by omega
            · simp
            · simp
          · exact ((Below.trans HX.out (HBd.out.below.mono (by omega))).setCell (by simp; omega) _).setCell (by simp; omega) _
    · have hres : (Ty.mk k l).join (Ty.mk k m) = .any := by simp [Ty.join, hlen, Ty.any]
      rw [hres]
      clear hres ha hb hA hB hA' hB' ih
      go_enter Try.func10, Try.ntmps10
      go_wp2_with fail
      refine bodyPost_ret (v := .agg #[.int .i64 0, .slice none 0 0]) (by simp [results, Try.results10, go_sem]) rfl ?_
      exact ⟨_, rfl, any_V _ _, (((ext_refl w).alloc _).alloc _).alloc _⟩
  · have hres : (Ty.mk k l).join (Ty.mk k' m) = .any := by simp [Ty.join, hk, Ty.any]
    rw [hres]
    clear hres ha hb hA hB hA' hB' ih
    go_enter Try.func10, Try.ntmps10
    go_wp2_with fail
    refine bodyPost_ret (v := .agg #[.int .i64 0, .slice none 0 0]) (by simp [results, Try.results10, go_sem]) rfl ?_
    exact ⟨_, rfl, any_V _ _, (((ext_refl w).alloc _).alloc _).alloc _⟩
end Go.Proofs.Ytnflnbdlgdjfmaa
