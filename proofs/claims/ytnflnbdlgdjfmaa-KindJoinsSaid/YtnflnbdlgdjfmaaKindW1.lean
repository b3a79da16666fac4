/-
  The walks of functions on types. Conditions: the arguments lie in memory as trees.
-/
import Derived.Test.YtnflnbdlgdjfmaaKindS
import Derived.Test.YtnflnbdlgdjfmaaRows
import Derived.ProofKit
import Derived.OpenShut
namespace Go.Proofs.Ytnflnbdlgdjfmaa
open Go.ChangeShapes Go.WideShapes Go.ChangeAt Go.RowKit
set_option linter.unusedVariables false
set_option linter.unusedSimpArgs false

set_option maxHeartbeats 1000000 in
theorem same_calls : ∀ (a b : Ty) (G G' : Nat → Prop) (w : World) (va vb : Value), TyV G w a va → TyV G' w b vb →
    Calls Try.prog 12 #[va, vb] w fun e w' => e = .returned (.bool (a.same b)) ∧ Ext w w' := by
  intro a
  induction a using Ty.ind with
  | h k l ih =>
  rintro ⟨k', m⟩ G G' w va vb ⟨sa, rfl, ha⟩ ⟨sb, rfl, hb⟩
  simp only [Ty.k_mk, Ty.l_mk] at *
  obtain ⟨a1, c1, rfl, hmax, S1, hA, hA'⟩ := ha.form
  obtain ⟨a2, c2, rfl, hmax2, S2, hB, hB'⟩ := hb.form
  unfold maxLen at hmax hmax2
  by_cases hk : k = k'
  · subst hk
    by_cases hlen : l.length = m.length
    · have HA := Lib.hid hA; clear hA
      have HB := Lib.hid hB; clear hB
      have HA' := Lib.hid hA'; clear hA'
      have HB' := Lib.hid hB'; clear hB'
      have Hih := Lib.hid ih; clear ih
      have Hlen := Lib.hid hlen
      have hres : (Ty.mk k l).same (Ty.mk k m) = sameL (l.drop 0) (m.drop 0) := by simp [Ty.same]
      rw [hres]
      clear hres ha hb
      rw [← hlen]
      clear hlen
      go_enter Try.func12, Try.ntmps12
      go_wp2_with fail
      obtain ⟨W0, hW0⟩ : ∃ W0, W0 = ((w.alloc (Obj.cells #[Value.int IntKind.i64 k, Value.slice a1 l.length c1] 25)).alloc (Obj.cells #[Value.int IntKind.i64 k, Value.slice a2 l.length c2] 25)) := ⟨_, rfl⟩
      have hx0 : Ext w W0 := by rw [hW0]; exact ((ext_refl w).alloc _).alloc _
      have c11 : W0.cell? ⟨w.heap.size, 1, none⟩ = some (.slice a1 l.length c1) := by rw [hW0]; simp
      have c21 : W0.cell? ⟨w.heap.size + 1, 1, none⟩ = some (.slice a2 l.length c2) := by rw [hW0]; simp
      rw [← hW0]
      clear hW0
      go_loopw [23] (fun v wr => ∃ i : Nat, i ≤ l.length ∧ v = .int .i64 i ∧ sameL (l.drop 0) (m.drop 0) = sameL (l.drop i) (m.drop i) ∧ Ext W0 wr) (fun v _ => l.length - (intOf v).toNat)
      case atStart => exact ⟨0, Nat.zero_le _, rfl, rfl, ext_refl _⟩
      case round =>
        obtain ⟨i, hi, rfl, hR, hbel⟩ := hrel
        have HR := Lib.hid hR; clear hR
        have HW := Lib.hid hbel
        have HX := Lib.hid hx0
        by_cases hlt : i < l.length
        · have hltm : i < m.length := by rw [← Hlen.out]; exact hlt
          obtain ⟨b1, o1, rfl, _, a1', a2'⟩ := HA.out i hlt
          obtain ⟨b2, o2, rfl, _, b1', b2'⟩ := HB.out i hltm
          have K1 := Lib.hid (show ∀ w', Ext wr w' → w'.cell? ⟨w.heap.size, 1, none⟩ = some (.slice (some ⟨b1, o1, none⟩) l.length c1) from fun w' h => h.cell (HW.out.cell c11))
          have K2 := Lib.hid (show ∀ w', Ext wr w' → w'.cell? ⟨w.heap.size + 1, 1, none⟩ = some (.slice (some ⟨b2, o2, none⟩) l.length c2) from fun w' h => h.cell (HW.out.cell c21))
          have K3 := Lib.hid (show ∀ w', Ext wr w' → w'.cell? ⟨b1, o1 + i * 2, none⟩ = some (.int .i64 l[i].k) from fun w' h => h.cell (HW.out.cell (HX.out.cell a1')))
          have K4 := Lib.hid (show ∀ w', Ext wr w' → w'.cell? ⟨b1, o1 + i * 2 + 1, none⟩ = some (S1 i) from fun w' h => h.cell (HW.out.cell (HX.out.cell a2')))
          have K5 := Lib.hid (show ∀ w', Ext wr w' → w'.cell? ⟨b2, o2 + i * 2, none⟩ = some (.int .i64 m[i].k) from fun w' h => h.cell (HW.out.cell (HX.out.cell b1')))
          have K6 := Lib.hid (show ∀ w', Ext wr w' → w'.cell? ⟨b2, o2 + i * 2 + 1, none⟩ = some (S2 i) from fun w' h => h.cell (HW.out.cell (HX.out.cell b2')))
          clear hbel hx0 a1' a2' b1' b2' c11 c21
          go_wp2_with fail
          refine wp_region_rel Ext (fun w' => Ext wr w') [0, 1, 2, 3, 4, 5, 6, 7, 8, 9, 10, 11] [some 26, some 27, some 28, some 29, some 30, some 31, some 32, some 33, some 34, some 35, some 36, some 37] [SRel.is _ ?v0, SRel.is _ ?v1, SRel.is _ ?v2, SRel.is _ ?v3, SRel.is _ ?v4, SRel.is _ ?v5, SRel.is _ ?v6, SRel.is _ ?v7, SRel.is _ ?v8, SRel.is _ ?v9, SRel.is _ (.bool (l[i].same m[i])), SRel.is _ ?v11] 39 (by kernel_rfl) rfl rfl rfl rfl (by kernel_rfl) ?hC ⟨?o0, ?o1, ?o2, ?o3, ?o4, ?o5, ?o6, ?o7, ?o8, ?o9, ?o10, ?o11, trivial⟩ ?fin
          case o0 => rintro _ ⟨⟩; exact owes_fieldAddr (guard_none rfl) (Eq.refl _) (Eq.refl _) ext_refl fun a w hC h => (by simp [go_sem, h]; rfl)
          case o1 => rintro _ ⟨⟩; exact owes_load (guard_none rfl) (Eq.refl _) (Eq.refl _) ext_refl fun a w hC h => (by simp [go_sem, h, K1.out, K2.out, K3.out, K4.out, K5.out, K6.out, hlt, hC]; rfl)
          case o2 => rintro _ ⟨⟩; exact owes_move (guard_none rfl) (Eq.refl _) (Eq.refl _) ext_refl fun a w hC h => (by simp [go_sem, h]; rfl)
          case o3 => rintro _ ⟨⟩; exact owes_indexAddr (guard_none rfl) (Eq.refl _) (Eq.refl _) (Eq.refl _) ext_refl fun a w hC h h' => (by simp [go_sem, h, h', K1.out, K2.out, K3.out, K4.out, K5.out, K6.out, hlt]; rfl)
          case o4 => rintro _ ⟨⟩; exact owes_load (guard_none rfl) (Eq.refl _) (Eq.refl _) ext_refl fun a w hC h => (by simp [go_sem, h, K1.out, K2.out, K3.out, K4.out, K5.out, K6.out, hlt, hC]; rfl)
          case o5 => rintro _ ⟨⟩; exact owes_fieldAddr (guard_none rfl) (Eq.refl _) (Eq.refl _) ext_refl fun a w hC h => (by simp [go_sem, h]; rfl)
          case o6 => rintro _ ⟨⟩; exact owes_load (guard_none rfl) (Eq.refl _) (Eq.refl _) ext_refl fun a w hC h => (by simp [go_sem, h, K1.out, K2.out, K3.out, K4.out, K5.out, K6.out, hlt, hC]; rfl)
          case o7 => rintro _ ⟨⟩; exact owes_move (guard_none rfl) (Eq.refl _) (Eq.refl _) ext_refl fun a w hC h => (by simp [go_sem, h]; rfl)
          case o8 => rintro _ ⟨⟩; exact owes_indexAddr (guard_none rfl) (Eq.refl _) (Eq.refl _) (Eq.refl _) ext_refl fun a w hC h h' => (by simp [go_sem, h, h', K1.out, K2.out, K3.out, K4.out, K5.out, K6.out, hlt]; rfl)
          case o9 => rintro _ ⟨⟩; exact owes_load (guard_none rfl) (Eq.refl _) (Eq.refl _) ext_refl fun a w hC h => (by simp [go_sem, h, K1.out, K2.out, K3.out, K4.out, K5.out, K6.out, hlt, hC]; rfl)
          case o10 => rintro _ ⟨⟩; exact owes_call2 (Rx := SRel.is _ _) (Ry := SRel.is _ _) (R := SRel.is _ _) Try.func12 (by kernel_rfl) (by kernel_rfl) (guard_none rfl) (Eq.refl _) (Eq.refl _) (Eq.refl _) (by
              rintro w' _ _ hC rfl rfl
              refine (Hih.out l[i] (List.getElem_mem _) m[i] G G' w' _ _ ⟨_, rfl, (HA'.out i hlt).ext ((HX.out.trans HW.out).trans hC)⟩ ⟨_, rfl, (HB'.out i hltm).ext ((HX.out.trans HW.out).trans hC)⟩).mono ?_
              rintro e w'' ⟨rfl, hb⟩
              exact ⟨_, rfl, rfl, hC.trans hb, hb⟩)
          case o11 => rintro _ ⟨⟩; exact owes_unOp (guard_none rfl) (Eq.refl _) (Eq.refl _) ext_refl fun a w hC h => (by simp [go_sem, h]; rfl)
          case hC => exact (ext_refl _).drew
          case fin =>
            intro w1 hC1
            simp only [FinR]
            rintro _ rfl _ rfl _ rfl _ rfl _ rfl _ rfl _ rfl _ rfl _ rfl _ rfl _ rfl _ rfl
            simp only [Act.put, List.setIfInBounds_toArray, List.set_cons_zero, List.set_cons_succ]
            have hd := sameL_drop hlt hltm
            have HD := Lib.hid hd; clear hd
            have HC1 := Lib.hid hC1; clear hC1
            cases hs : l[i].same m[i]
            · rw [hs] at HD
              clear hs
              go_wp2_with fail
              go_ret
              refine ⟨by rw [HR.out, HD.out]; rfl, (HX.out.trans HW.out).trans HC1.out⟩
            · rw [hs] at HD
              clear hs
              go_wp2_with fail
              refine ⟨⟨i + 1, by omega, by go_num, ?_, HW.out.trans HC1.out⟩, by simp [intOf]; omega⟩
              rw [HR.out, HD.out]; rfl
        · have hil : i = l.length := by omega
          have Hil := Lib.hid hil; clear hil
          go_wp2_with fail
          go_ret
          refine ⟨?_, HX.out.trans HW.out⟩
          rw [HR.out, Hil.out, List.drop_length, Hlen.out, List.drop_length]
          rfl
    · have hres : (Ty.mk k l).same (Ty.mk k m) = false := by simp [Ty.same, sameL_len hlen]
      rw [hres]
      clear hres ha hb hA hB hA' hB' ih
      go_enter Try.func12, Try.ntmps12
      go_wp2_with fail
      go_ret
      exact ⟨rfl, ((ext_refl w).alloc _).alloc _⟩
  · have hres : (Ty.mk k l).same (Ty.mk k' m) = false := by simp [Ty.same, hk]
    rw [hres]
    clear hres ha hb hA hB hA' hB' ih
    go_enter Try.func12, Try.ntmps12
    go_wp2_with fail
    go_ret
    exact ⟨rfl, ((ext_refl w).alloc _).alloc _⟩

set_option maxHeartbeats 1000000 in
theorem fits_calls : ∀ (a b : Ty) (G G' : Nat → Prop) (w : World) (va vb : Value), TyV G w a va → TyV G' w b vb →
    Calls Try.prog 15 #[va, vb] w fun e w' => e = .returned (.bool (a.fits b)) ∧ Ext w w' := by
  intro a
  induction a using Ty.ind with
  | h k l ih =>
  rintro ⟨k', m⟩ G G' w va vb ⟨sa, rfl, ha⟩ ⟨sb, rfl, hb⟩
  simp only [Ty.k_mk, Ty.l_mk] at *
  obtain ⟨a1, c1, rfl, hmax, S1, hA, hA'⟩ := ha.form
  obtain ⟨a2, c2, rfl, hmax2, S2, hB, hB'⟩ := hb.form
  unfold maxLen at hmax hmax2
  by_cases hk0 : k = 0
  · have hres : (Ty.mk k l).fits (Ty.mk k' m) = true := by simp [Ty.fits, hk0]
    rw [hres]
    clear hres ha hb hA hB hA' hB' ih
    go_enter Try.func15, Try.ntmps15
    go_wp2_with fail
    go_ret
    exact ⟨rfl, ((ext_refl w).alloc _).alloc _⟩
  have hk0b : (k == 0) = false := by simpa using hk0
  by_cases hk1 : k' = 0
  · have hres : (Ty.mk k l).fits (Ty.mk k' m) = true := by simp [Ty.fits, hk1]
    rw [hres]
    clear hres ha hb hA hB hA' hB' ih
    go_enter Try.func15, Try.ntmps15
    go_wp2_with fail
    go_ret
    exact ⟨rfl, ((ext_refl w).alloc _).alloc _⟩
  have hk1b : (k' == 0) = false := by simpa using hk1
  by_cases hk : k = k'
  · subst hk
    by_cases hlen : l.length = m.length
    · have HA := Lib.hid hA; clear hA
      have HB := Lib.hid hB; clear hB
      have HA' := Lib.hid hA'; clear hA'
      have HB' := Lib.hid hB'; clear hB'
      have Hih := Lib.hid ih; clear ih
      have Hlen := Lib.hid hlen
      have hres : (Ty.mk k l).fits (Ty.mk k m) = fitsL (l.drop 0) (m.drop 0) := by simp [Ty.fits, hk0, hk1]
      rw [hres]
      clear hres ha hb
      rw [← hlen]
      clear hlen
      go_enter Try.func15, Try.ntmps15
      go_wp2_with fail
      obtain ⟨W0, hW0⟩ : ∃ W0, W0 = ((w.alloc (Obj.cells #[Value.int IntKind.i64 k, Value.slice a1 l.length c1] 25)).alloc (Obj.cells #[Value.int IntKind.i64 k, Value.slice a2 l.length c2] 25)) := ⟨_, rfl⟩
      have hx0 : Ext w W0 := by rw [hW0]; exact ((ext_refl w).alloc _).alloc _
      have c11 : W0.cell? ⟨w.heap.size, 1, none⟩ = some (.slice a1 l.length c1) := by rw [hW0]; simp
      have c21 : W0.cell? ⟨w.heap.size + 1, 1, none⟩ = some (.slice a2 l.length c2) := by rw [hW0]; simp
      rw [← hW0]
      clear hW0
      go_loopw [31] (fun v wr => ∃ i : Nat, i ≤ l.length ∧ v = .int .i64 i ∧ fitsL (l.drop 0) (m.drop 0) = fitsL (l.drop i) (m.drop i) ∧ Ext W0 wr) (fun v _ => l.length - (intOf v).toNat)
      case atStart => exact ⟨0, Nat.zero_le _, rfl, rfl, ext_refl _⟩
      case round =>
        obtain ⟨i, hi, rfl, hR, hbel⟩ := hrel
        have HR := Lib.hid hR; clear hR
        have HW := Lib.hid hbel
        have HX := Lib.hid hx0
        by_cases hlt : i < l.length
        · have hltm : i < m.length := by rw [← Hlen.out]; exact hlt
          obtain ⟨b1, o1, rfl, _, a1', a2'⟩ := HA.out i hlt
          obtain ⟨b2, o2, rfl, _, b1', b2'⟩ := HB.out i hltm
          have K1 := Lib.hid (show ∀ w', Ext wr w' → w'.cell? ⟨w.heap.size, 1, none⟩ = some (.slice (some ⟨b1, o1, none⟩) l.length c1) from fun w' h => h.cell (HW.out.cell c11))
          have K2 := Lib.hid (show ∀ w', Ext wr w' → w'.cell? ⟨w.heap.size + 1, 1, none⟩ = some (.slice (some ⟨b2, o2, none⟩) l.length c2) from fun w' h => h.cell (HW.out.cell c21))
          have K3 := Lib.hid (show ∀ w', Ext wr w' → w'.cell? ⟨b1, o1 + i * 2, none⟩ = some (.int .i64 l[i].k) from fun w' h => h.cell (HW.out.cell (HX.out.cell a1')))
          have K4 := Lib.hid (show ∀ w', Ext wr w' → w'.cell? ⟨b1, o1 + i * 2 + 1, none⟩ = some (S1 i) from fun w' h => h.cell (HW.out.cell (HX.out.cell a2')))
          have K5 := Lib.hid (show ∀ w', Ext wr w' → w'.cell? ⟨b2, o2 + i * 2, none⟩ = some (.int .i64 m[i].k) from fun w' h => h.cell (HW.out.cell (HX.out.cell b1')))
          have K6 := Lib.hid (show ∀ w', Ext wr w' → w'.cell? ⟨b2, o2 + i * 2 + 1, none⟩ = some (S2 i) from fun w' h => h.cell (HW.out.cell (HX.out.cell b2')))
          clear hbel hx0 a1' a2' b1' b2' c11 c21
          go_wp2_with fail
          refine wp_region_rel Ext (fun w' => Ext wr w') [0, 1, 2, 3, 4, 5, 6, 7, 8, 9, 10, 11] [some 34, some 35, some 36, some 37, some 38, some 39, some 40, some 41, some 42, some 43, some 44, some 45] [SRel.is _ ?v0, SRel.is _ ?v1, SRel.is _ ?v2, SRel.is _ ?v3, SRel.is _ ?v4, SRel.is _ ?v5, SRel.is _ ?v6, SRel.is _ ?v7, SRel.is _ ?v8, SRel.is _ ?v9, SRel.is _ (.bool (l[i].fits m[i])), SRel.is _ ?v11] 47 (by kernel_rfl) rfl rfl rfl rfl (by kernel_rfl) ?hC ⟨?o0, ?o1, ?o2, ?o3, ?o4, ?o5, ?o6, ?o7, ?o8, ?o9, ?o10, ?o11, trivial⟩ ?fin
          case o0 => rintro _ ⟨⟩; exact owes_fieldAddr (guard_none rfl) (Eq.refl _) (Eq.refl _) ext_refl fun a w hC h => (by simp [go_sem, h]; rfl)
          case o1 => rintro _ ⟨⟩; exact owes_load (guard_none rfl) (Eq.refl _) (Eq.refl _) ext_refl fun a w hC h => (by simp [go_sem, h, K1.out, K2.out, K3.out, K4.out, K5.out, K6.out, hlt, hC]; rfl)
          case o2 => rintro _ ⟨⟩; exact owes_move (guard_none rfl) (Eq.refl _) (Eq.refl _) ext_refl fun a w hC h => (by simp [go_sem, h]; rfl)
          case o3 => rintro _ ⟨⟩; exact owes_indexAddr (guard_none rfl) (Eq.refl _) (Eq.refl _) (Eq.refl _) ext_refl fun a w hC h h' => (by simp [go_sem, h, h', K1.out, K2.out, K3.out, K4.out, K5.out, K6.out, hlt]; rfl)
          case o4 => rintro _ ⟨⟩; exact owes_load (guard_none rfl) (Eq.refl _) (Eq.refl _) ext_refl fun a w hC h => (by simp [go_sem, h, K1.out, K2.out, K3.out, K4.out, K5.out, K6.out, hlt, hC]; rfl)
          case o5 => rintro _ ⟨⟩; exact owes_fieldAddr (guard_none rfl) (Eq.refl _) (Eq.refl _) ext_refl fun a w hC h => (by simp [go_sem, h]; rfl)
          case o6 => rintro _ ⟨⟩; exact owes_load (guard_none rfl) (Eq.refl _) (Eq.refl _) ext_refl fun a w hC h => (by simp [go_sem, h, K1.out, K2.out, K3.out, K4.out, K5.out, K6.out, hlt, hC]; rfl)
          case o7 => rintro _ ⟨⟩; exact owes_move (guard_none rfl) (Eq.refl _) (Eq.refl _) ext_refl fun a w hC h => (by simp [go_sem, h]; rfl)
          case o8 => rintro _ ⟨⟩; exact owes_indexAddr (guard_none rfl) (Eq.refl _) (Eq.refl _) (Eq.refl _) ext_refl fun a w hC h h' => (by simp [go_sem, h, h', K1.out, K2.out, K3.out, K4.out, K5.out, K6.out, hlt]; rfl)
          case o9 => rintro _ ⟨⟩; exact owes_load (guard_none rfl) (Eq.refl _) (Eq.refl _) ext_refl fun a w hC h => (by simp [go_sem, h, K1.out, K2.out, K3.out, K4.out, K5.out, K6.out, hlt, hC]; rfl)
          case o10 => rintro _ ⟨⟩; exact owes_call2 (Rx := SRel.is _ _) (Ry := SRel.is _ _) (R := SRel.is _ _) Try.func15 (by kernel_rfl) (by kernel_rfl) (guard_none rfl) (Eq.refl _) (Eq.refl _) (Eq.refl _) (by
              rintro w' _ _ hC rfl rfl
              refine (Hih.out l[i] (List.getElem_mem _) m[i] G G' w' _ _ ⟨_, rfl, (HA'.out i hlt).ext ((HX.out.trans HW.out).trans hC)⟩ ⟨_, rfl, (HB'.out i hltm).ext ((HX.out.trans HW.out).trans hC)⟩).mono ?_
              rintro e w'' ⟨rfl, hb⟩
              exact ⟨_, rfl, rfl, hC.trans hb, hb⟩)
          case o11 => rintro _ ⟨⟩; exact owes_unOp (guard_none rfl) (Eq.refl _) (Eq.refl _) ext_refl fun a w hC h => (by simp [go_sem, h]; rfl)
          case hC => exact (ext_refl _).drew
          case fin =>
            intro w1 hC1
            simp only [FinR]
            rintro _ rfl _ rfl _ rfl _ rfl _ rfl _ rfl _ rfl _ rfl _ rfl _ rfl _ rfl _ rfl
            simp only [Act.put, List.setIfInBounds_toArray, List.set_cons_zero, List.set_cons_succ]
            have hd := fitsL_drop hlt hltm
            have HD := Lib.hid hd; clear hd
            have HC1 := Lib.hid hC1; clear hC1
            cases hs : l[i].fits m[i]
            · rw [hs] at HD
              clear hs
              go_wp2_with fail
              go_ret
              refine ⟨by rw [HR.out, HD.out]; rfl, (HX.out.trans HW.out).trans HC1.out⟩
            · rw [hs] at HD
              clear hs
              go_wp2_with fail
              refine ⟨⟨i + 1, by omega, by go_num, ?_, HW.out.trans HC1.out⟩, by simp [intOf]; omega⟩
              rw [HR.out, HD.out]; rfl
        · have hil : i = l.length := by omega
          have Hil := Lib.hid hil; clear hil
          go_wp2_with fail
          go_ret
          refine ⟨?_, HX.out.trans HW.out⟩
          rw [HR.out, Hil.out, List.drop_length, Hlen.out, List.drop_length]
          rfl
    · have hres : (Ty.mk k l).fits (Ty.mk k m) = false := by simp [Ty.fits, fitsL_len hlen, hk0, hk1]
      rw [hres]
      clear hres ha hb hA hB hA' hB' ih
      go_enter Try.func15, Try.ntmps15
      go_wp2_with fail
      go_ret
      exact ⟨rfl, ((ext_refl w).alloc _).alloc _⟩
  · have hres : (Ty.mk k l).fits (Ty.mk k' m) = false := by simp [Ty.fits, hk, hk0, hk1]
    rw [hres]
    clear hres ha hb hA hB hA' hB' ih
    go_enter Try.func15, Try.ntmps15
    go_wp2_with fail
    go_ret
    exact ⟨rfl, ((ext_refl w).alloc _).alloc _⟩

set_option maxHeartbeats 1000000 in
theorem finer_calls : ∀ (a b : Ty) (G G' : Nat → Prop) (w : World) (va vb : Value), TyV G w a va → TyV G' w b vb →
    Calls Try.prog 11 #[va, vb] w fun e w' => e = .returned (.bool (a.finer b)) ∧ Ext w w' := by
  intro a
  induction a using Ty.ind with
  | h k l ih =>
  rintro ⟨k', m⟩ G G' w va vb ⟨sa, rfl, ha⟩ ⟨sb, rfl, hb⟩
  simp only [Ty.k_mk, Ty.l_mk] at *
  obtain ⟨a1, c1, rfl, hmax, S1, hA, hA'⟩ := ha.form
  obtain ⟨a2, c2, rfl, hmax2, S2, hB, hB'⟩ := hb.form
  unfold maxLen at hmax hmax2
  by_cases hk1 : k' = 0
  · have hres : (Ty.mk k l).finer (Ty.mk k' m) = true := by simp [Ty.finer, hk1]
    rw [hres]
    clear hres ha hb hA hB hA' hB' ih
    go_enter Try.func11, Try.ntmps11
    go_wp2_with fail
    go_ret
    exact ⟨rfl, ((ext_refl w).alloc _).alloc _⟩
  have hk1b : (k' == 0) = false := by simpa using hk1
  by_cases hk : k = k'
  · subst hk
    by_cases hlen : l.length = m.length
    · have HA := Lib.hid hA; clear hA
      have HB := Lib.hid hB; clear hB
      have HA' := Lib.hid hA'; clear hA'
      have HB' := Lib.hid hB'; clear hB'
      have Hih := Lib.hid ih; clear ih
      have Hlen := Lib.hid hlen
      have hres : (Ty.mk k l).finer (Ty.mk k m) = finerL (l.drop 0) (m.drop 0) := by simp [Ty.finer, hk1]
      rw [hres]
      clear hres ha hb
      rw [← hlen]
      clear hlen
      go_enter Try.func11, Try.ntmps11
      go_wp2_with fail
      obtain ⟨W0, hW0⟩ : ∃ W0, W0 = ((w.alloc (Obj.cells #[Value.int IntKind.i64 k, Value.slice a1 l.length c1] 25)).alloc (Obj.cells #[Value.int IntKind.i64 k, Value.slice a2 l.length c2] 25)) := ⟨_, rfl⟩
      have hx0 : Ext w W0 := by rw [hW0]; exact ((ext_refl w).alloc _).alloc _
      have c11 : W0.cell? ⟨w.heap.size, 1, none⟩ = some (.slice a1 l.length c1) := by rw [hW0]; simp
      have c21 : W0.cell? ⟨w.heap.size + 1, 1, none⟩ = some (.slice a2 l.length c2) := by rw [hW0]; simp
      rw [← hW0]
      clear hW0
      go_loopw [26] (fun v wr => ∃ i : Nat, i ≤ l.length ∧ v = .int .i64 i ∧ finerL (l.drop 0) (m.drop 0) = finerL (l.drop i) (m.drop i) ∧ Ext W0 wr) (fun v _ => l.length - (intOf v).toNat)
      case atStart => exact ⟨0, Nat.zero_le _, rfl, rfl, ext_refl _⟩
      case round =>
        obtain ⟨i, hi, rfl, hR, hbel⟩ := hrel
        have HR := Lib.hid hR; clear hR
        have HW := Lib.hid hbel
        have HX := Lib.hid hx0
        by_cases hlt : i < l.length
        · have hltm : i < m.length := by rw [← Hlen.out]; exact hlt
          obtain ⟨b1, o1, rfl, _, a1', a2'⟩ := HA.out i hlt
          obtain ⟨b2, o2, rfl, _, b1', b2'⟩ := HB.out i hltm
          have K1 := Lib.hid (show ∀ w', Ext wr w' → w'.cell? ⟨w.heap.size, 1, none⟩ = some (.slice (some ⟨b1, o1, none⟩) l.length c1) from fun w' h => h.cell (HW.out.cell c11))
          have K2 := Lib.hid (show ∀ w', Ext wr w' → w'.cell? ⟨w.heap.size + 1, 1, none⟩ = some (.slice (some ⟨b2, o2, none⟩) l.length c2) from fun w' h => h.cell (HW.out.cell c21))
          have K3 := Lib.hid (show ∀ w', Ext wr w' → w'.cell? ⟨b1, o1 + i * 2, none⟩ = some (.int .i64 l[i].k) from fun w' h => h.cell (HW.out.cell (HX.out.cell a1')))
          have K4 := Lib.hid (show ∀ w', Ext wr w' → w'.cell? ⟨b1, o1 + i * 2 + 1, none⟩ = some (S1 i) from fun w' h => h.cell (HW.out.cell (HX.out.cell a2')))
          have K5 := Lib.hid (show ∀ w', Ext wr w' → w'.cell? ⟨b2, o2 + i * 2, none⟩ = some (.int .i64 m[i].k) from fun w' h => h.cell (HW.out.cell (HX.out.cell b1')))
          have K6 := Lib.hid (show ∀ w', Ext wr w' → w'.cell? ⟨b2, o2 + i * 2 + 1, none⟩ = some (S2 i) from fun w' h => h.cell (HW.out.cell (HX.out.cell b2')))
          clear hbel hx0 a1' a2' b1' b2' c11 c21
          go_wp2_with fail
          refine wp_region_rel Ext (fun w' => Ext wr w') [0, 1, 2, 3, 4, 5, 6, 7, 8, 9, 10, 11] [some 29, some 30, some 31, some 32, some 33, some 34, some 35, some 36, some 37, some 38, some 39, some 40] [SRel.is _ ?v0, SRel.is _ ?v1, SRel.is _ ?v2, SRel.is _ ?v3, SRel.is _ ?v4, SRel.is _ ?v5, SRel.is _ ?v6, SRel.is _ ?v7, SRel.is _ ?v8, SRel.is _ ?v9, SRel.is _ (.bool (l[i].finer m[i])), SRel.is _ ?v11] 42 (by kernel_rfl) rfl rfl rfl rfl (by kernel_rfl) ?hC ⟨?o0, ?o1, ?o2, ?o3, ?o4, ?o5, ?o6, ?o7, ?o8, ?o9, ?o10, ?o11, trivial⟩ ?fin
          case o0 => rintro _ ⟨⟩; exact owes_fieldAddr (guard_none rfl) (Eq.refl _) (Eq.refl _) ext_refl fun a w hC h => (by simp [go_sem, h]; rfl)
          case o1 => rintro _ ⟨⟩; exact owes_load (guard_none rfl) (Eq.refl _) (Eq.refl _) ext_refl fun a w hC h => (by simp [go_sem, h, K1.out, K2.out, K3.out, K4.out, K5.out, K6.out, hlt, hC]; rfl)
          case o2 => rintro _ ⟨⟩; exact owes_move (guard_none rfl) (Eq.refl _) (Eq.refl _) ext_refl fun a w hC h => (by simp [go_sem, h]; rfl)
          case o3 => rintro _ ⟨⟩; exact owes_indexAddr (guard_none rfl) (Eq.refl _) (Eq.refl _) (Eq.refl _) ext_refl fun a w hC h h' => (by simp [go_sem, h, h', K1.out, K2.out, K3.out, K4.out, K5.out, K6.out, hlt]; rfl)
          case o4 => rintro _ ⟨⟩; exact owes_load (guard_none rfl) (Eq.refl _) (Eq.refl _) ext_refl fun a w hC h => (by simp [go_sem, h, K1.out, K2.out, K3.out, K4.out, K5.out, K6.out, hlt, hC]; rfl)
          case o5 => rintro _ ⟨⟩; exact owes_fieldAddr (guard_none rfl) (Eq.refl _) (Eq.refl _) ext_refl fun a w hC h => (by simp [go_sem, h]; rfl)
          case o6 => rintro _ ⟨⟩; exact owes_load (guard_none rfl) (Eq.refl _) (Eq.refl _) ext_refl fun a w hC h => (by simp [go_sem, h, K1.out, K2.out, K3.out, K4.out, K5.out, K6.out, hlt, hC]; rfl)
          case o7 => rintro _ ⟨⟩; exact owes_move (guard_none rfl) (Eq.refl _) (Eq.refl _) ext_refl fun a w hC h => (by simp [go_sem, h]; rfl)
          case o8 => rintro _ ⟨⟩; exact owes_indexAddr (guard_none rfl) (Eq.refl _) (Eq.refl _) (Eq.refl _) ext_refl fun a w hC h h' => (by simp [go_sem, h, h', K1.out, K2.out, K3.out, K4.out, K5.out, K6.out, hlt]; rfl)
          case o9 => rintro _ ⟨⟩; exact owes_load (guard_none rfl) (Eq.refl _) (Eq.refl _) ext_refl fun a w hC h => (by simp [go_sem, h, K1.out, K2.out, K3.out, K4.out, K5.out, K6.out, hlt, hC]; rfl)
          case o10 => rintro _ ⟨⟩; exact owes_call2 (Rx := SRel.is _ _) (Ry := SRel.is _ _) (R := SRel.is _ _) Try.func11 (by kernel_rfl) (by kernel_rfl) (guard_none rfl) (Eq.refl _) (Eq.refl _) (Eq.refl _) (by
              rintro w' _ _ hC rfl rfl
              refine (Hih.out l[i] (List.getElem_mem _) m[i] G G' w' _ _ ⟨_, rfl, (HA'.out i hlt).ext ((HX.out.trans HW.out).trans hC)⟩ ⟨_, rfl, (HB'.out i hltm).ext ((HX.out.trans HW.out).trans hC)⟩).mono ?_
              rintro e w'' ⟨rfl, hb⟩
              exact ⟨_, rfl, rfl, hC.trans hb, hb⟩)
          case o11 => rintro _ ⟨⟩; exact owes_unOp (guard_none rfl) (Eq.refl _) (Eq.refl _) ext_refl fun a w hC h => (by simp [go_sem, h]; rfl)
          case hC => exact (ext_refl _).drew
          case fin =>
            intro w1 hC1
            simp only [FinR]
            rintro _ rfl _ rfl _ rfl _ rfl _ rfl _ rfl _ rfl _ rfl _ rfl _ rfl _ rfl _ rfl
            simp only [Act.put, List.setIfInBounds_toArray, List.set_cons_zero, List.set_cons_succ]
            have hd := finerL_drop hlt hltm
            have HD := Lib.hid hd; clear hd
            have HC1 := Lib.hid hC1; clear hC1
            cases hs : l[i].finer m[i]
            · rw [hs] at HD
              clear hs
              go_wp2_with fail
              go_ret
              refine ⟨by rw [HR.out, HD.out]; rfl, (HX.out.trans HW.out).trans HC1.out⟩
            · rw [hs] at HD
              clear hs
              go_wp2_with fail
              refine ⟨⟨i + 1, by omega, by go_num, ?_, HW.out.trans HC1.out⟩, by simp [intOf]; omega⟩
              rw [HR.out, HD.out]; rfl
        · have hil : i = l.length := by omega
          have Hil := Lib.hid hil; clear hil
          go_wp2_with fail
          go_ret
          refine ⟨?_, HX.out.trans HW.out⟩
          rw [HR.out, Hil.out, List.drop_length, Hlen.out, List.drop_length]
          rfl
    · have hres : (Ty.mk k l).finer (Ty.mk k m) = false := by simp [Ty.finer, finerL_len hlen, hk1]
      rw [hres]
      clear hres ha hb hA hB hA' hB' ih
      go_enter Try.func11, Try.ntmps11
      go_wp2_with fail
      go_ret
      exact ⟨rfl, ((ext_refl w).alloc _).alloc _⟩
  · have hres : (Ty.mk k l).finer (Ty.mk k' m) = false := by simp [Ty.finer, hk, hk1]
    rw [hres]
    clear hres ha hb hA hB hA' hB' ih
    go_enter Try.func11, Try.ntmps11
    go_wp2_with fail
    go_ret
    exact ⟨rfl, ((ext_refl w).alloc _).alloc _⟩
end Go.Proofs.Ytnflnbdlgdjfmaa
