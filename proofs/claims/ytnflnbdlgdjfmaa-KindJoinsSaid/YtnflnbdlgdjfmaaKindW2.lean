/-
  The walks of functions on one type. Conditions: the argument lies in memory as a tree.
-/
import Derived.Test.YtnflnbdlgdjfmaaKindW1
namespace Go.Proofs.Ytnflnbdlgdjfmaa
open Go.ChangeShapes Go.WideShapes Go.ChangeAt Go.RowKit
set_option linter.unusedVariables false
set_option linter.unusedSimpArgs false

set_option maxHeartbeats 1000000 in
theorem sure_calls : ∀ (a : Ty) (G : Nat → Prop) (w : World) (va : Value), TyV G w a va →
    Calls Try.prog 16 #[va] w fun e w' => e = .returned (.bool a.sure) ∧ Ext w w' := by
  intro a
  induction a using Ty.ind with
  | h k l ih =>
  rintro G w va ⟨sa, rfl, ha⟩
  simp only [Ty.k_mk, Ty.l_mk] at *
  obtain ⟨a1, c1, rfl, hmax, _⟩ := ha.form
  unfold maxLen at hmax
  by_cases hk0 : k = 0
  · have hres : (Ty.mk k l).sure = false := by simp [Ty.sure, hk0]
    rw [hres]
    clear hres ha ih
    go_enter Try.func16, Try.ntmps16
    go_wp2_with fail
    go_ret
    exact ⟨rfl, (ext_refl w).alloc _⟩
  · have hk0b : (k == 0) = false := by simpa using hk0
    have HA := Lib.hid ha; clear ha
    have Hih := Lib.hid ih; clear ih
    have hres : (Ty.mk k l).sure = sureL (l.drop 0) := by simp [Ty.sure, hk0]
    rw [hres]
    clear hres
    go_enter Try.func16, Try.ntmps16
    go_wp2_with fail
    obtain ⟨W0, hW0⟩ : ∃ W0, W0 = (w.alloc (Obj.cells #[Value.int IntKind.i64 k, Value.slice a1 l.length c1] 25)) := ⟨_, rfl⟩
    have hx0 : Ext w W0 := by rw [hW0]; exact (ext_refl w).alloc _
    rw [← hW0]
    clear hW0
    go_loopw [11] (fun v wr => ∃ i : Nat, i ≤ l.length ∧ v = .int .i64 i ∧ sureL (l.drop 0) = sureL (l.drop i) ∧ Ext W0 wr) (fun v _ => l.length - (intOf v).toNat)
    case atStart => exact ⟨0, Nat.zero_le _, rfl, rfl, ext_refl _⟩
    case round =>
      obtain ⟨i, hi, rfl, hR, hbel⟩ := hrel
      have HR := Lib.hid hR; clear hR
      have HW := Lib.hid (hx0.trans hbel)
      by_cases hlt : i < l.length
      · obtain ⟨b1, o1, a2, c2, rfl, _, e1, e2, hsub⟩ := HA.out.at i hlt
        have e1 := HW.out.cell e1
        have e2 := HW.out.cell e2
        have HX := Lib.hid hbel
        have HS := Lib.hid hsub
        clear hbel hx0 hsub
        have hd := sureL_drop hlt
        have HD := Lib.hid hd; clear hd
        go_wp2_with fail
        refine (Hih.out l[i] (List.getElem_mem _) G _ _ ⟨_, rfl, HS.out.ext (HW.out.trans ((ext_refl wr).alloc _))⟩).mono ?_
        rintro e w1 ⟨rfl, hx1⟩
        have HX1 := Lib.hid hx1; clear hx1
        have HX2 := Lib.hid (((ext_refl wr).alloc _).trans HX1.out)
        cases hs : l[i].sure
        · rw [hs] at HD
          clear hs
          go_wp2_with fail
          go_ret
          exact ⟨by rw [HR.out, HD.out]; rfl, HW.out.trans HX2.out⟩
        · rw [hs] at HD
          clear hs
          go_wp2_with fail
          go_roundw
          case rel => exact ⟨i + 1, by omega, by go_num, by rw [HR.out, HD.out]; rfl, HX.out.trans HX2.out⟩
          case measure => simp [intOf]; omega
      · have hil : i = l.length := by omega
        have Hil := Lib.hid hil; clear hil
        go_wp2_with fail
        go_ret
        refine ⟨?_, HW.out⟩
        rw [HR.out, Hil.out, List.drop_length]
        rfl

set_option maxHeartbeats 1000000 in
theorem to_calls (a b : Ty) (G : Nat → Prop) (w : World) (va vb : Value) (ha : TyV G w a va) (hb : TyV G w b vb) :
    Calls Try.prog 22 #[va, vb] w fun e w' => ∃ v, e = .returned v ∧ TyV (fun k => G k ∨ w.heap.size ≤ k) w' (.to a b) v ∧ Ext w w' := by
  obtain ⟨sa, rfl, ha⟩ := ha
  obtain ⟨sb, rfl, hb⟩ := hb
  obtain ⟨a1, c1, rfl, hmax, _⟩ := ha.form
  obtain ⟨a2, c2, rfl, hmax2, _⟩ := hb.form
  go_enter Try.func22, Try.ntmps22
  go_wp2_with fail
  refine bodyPost_ret (v := .agg #[.int .i64 3, .slice (some ⟨w.heap.size + 1 + 1 + 1, 0, none⟩) 2 2]) (by simp [results, Try.results22, go_sem]) rfl ?_
  have hx : Ext w ((((w.alloc (Obj.cells #[Value.int IntKind.i64 a.k, Value.slice a1 a.l.length c1] 25)).alloc (Obj.cells #[Value.int IntKind.i64 b.k, Value.slice a2 b.l.length c2] 25)).alloc
          (Obj.cells #[Value.int IntKind.i64 3, Value.slice (some { block := w.heap.size + 1 + 1 + 1, off := 0 }) 2 2] 25)).alloc
      (Obj.cells #[Value.int IntKind.i64 a.k, Value.slice a1 a.l.length c1, Value.int IntKind.i64 b.k, Value.slice a2 b.l.length c2] 25)) :=
    ((((ext_refl w).alloc _).alloc _).alloc _).alloc _
  refine ⟨_, rfl, ⟨_, rfl, TyL.two (by omega) ?_ ?_ ?_ ?_ ((ha.ext hx).mono (fun k h => .inl h) fun _ _ _ => rfl) ((hb.ext hx).mono (fun k h => .inl h) fun _ _ _ => rfl)⟩, hx⟩

  all_goals simp [go_sem]

theorem good_calls0 (t : Ty) (G : Nat → Prop) (w : World) (va : Value) (ht : TyV G w t va) :
    Calls Try.prog 29 #[va, .int .i64 5] w fun e w' => e = .returned (.bool false) ∧ Ext w w' := by
  obtain ⟨sa, rfl, ha⟩ := ht
  obtain ⟨a1, c1, rfl, hmax, _⟩ := ha.form
  go_enter Try.func29, Try.ntmps29
  go_wp2_with fail
  go_ret
  exact ⟨rfl, (ext_refl w).alloc _⟩

set_option maxHeartbeats 1000000 in
theorem good_calls : ∀ (d : Nat) (deep : Int), (d : Int) + deep = 5 → d ≤ 4 → ∀ (t : Ty) (G : Nat → Prop) (w : World) (va : Value), TyV G w t va →
    Calls Try.prog 29 #[va, .int .i64 deep] w fun e w' => e = .returned (.bool (t.good d)) ∧ Ext w w' := by
  intro d
  induction d with
  | zero =>
    intro deep hd _ t G w va ht
    obtain rfl : deep = 5 := by omega
    refine (good_calls0 t G w va ht).mono ?_
    rintro e w' ⟨rfl, h⟩
    exact ⟨by simp [Ty.good], h⟩
  | succ d ih =>
    rintro deep hd hd4 ⟨k, l⟩ G w va ⟨sa, rfl, ha⟩
    have Hih := Lib.hid ih; clear ih
    simp only [Ty.k_mk, Ty.l_mk] at *
    obtain ⟨a1, c1, rfl, hmax, _⟩ := ha.form
    unfold maxLen at hmax
    have HA := Lib.hid ha; clear ha
    have hb1 : ¬ 4 < deep := by omega
    have hb2 : 0 ≤ deep := by omega
    have Hd := Lib.hid hd; clear hd
    by_cases hk1 : k < 0
    · have hres : (Ty.mk k l).good (d + 1) = false := by simp [Ty.good]; omega
      rw [hres]; clear hres
      go_enter Try.func29, Try.ntmps29
      go_wp2_with fail
      go_ret
      exact ⟨rfl, (ext_refl w).alloc _⟩
    by_cases hk2 : 3 < k
    · have hres : (Ty.mk k l).good (d + 1) = false := by simp [Ty.good]; omega
      rw [hres]; clear hres
      go_enter Try.func29, Try.ntmps29
      go_wp2_with fail
      go_ret
      exact ⟨rfl, (ext_refl w).alloc _⟩
    by_cases hk3 : k = 3
    · subst hk3
      by_cases hl : l.length = 2
      · obtain ⟨x, y, rfl⟩ : ∃ x y, l = [x, y] := by
          match l, hl with
          | [x, y], _ => exact ⟨x, y, rfl⟩
        obtain ⟨b1, o1, a2, c2, rfl, _, e1, e2, hx⟩ := HA.out.at 0 (by simp)
        obtain ⟨b2, o2, a3, c3, hbo, _, f1, f2, hy⟩ := HA.out.at 1 (by simp)
        cases hbo
        simp only [List.length_cons, List.length_nil, List.getElem_cons_zero, List.getElem_cons_succ, Nat.zero_mul, Nat.one_mul, Nat.add_zero, Nat.zero_add] at *
        have HX := Lib.hid hx; clear hx
        have HY := Lib.hid hy; clear hy
        have hlt1 : b1 < w.heap.size := World.block_lt_of_cell? _ _ e1
        have hres : (Ty.mk 3 [x, y]).good (d + 1) = (x.good d && y.good d) := by simp [Ty.good]
        rw [hres]; clear hres
        go_enter Try.func29, Try.ntmps29
        go_wp2_with fail
        refine (Hih.out (deep + 1) (by have := Hd.out; omega) (by omega) x G _ _ ⟨_, rfl, HX.out.ext ((ext_refl w).alloc _)⟩).mono ?_
        rintro e w1 ⟨rfl, hx1⟩
        have HX1 := Lib.hid hx1; clear hx1
        have f1 := (((ext_refl w).alloc _).trans HX1.out).cell f1
        have f2 := (((ext_refl w).alloc _).trans HX1.out).cell f2
        have c0 := HX1.out.cell (p := ⟨w.heap.size, 1, none⟩) (v := Value.slice (some { block := b1, off := o1 }) 2 c1) (by simp [go_sem])
        cases hg : x.good d
        · go_wp2_with fail
          go_ret
          exact ⟨by rw [hg]; rfl, ((ext_refl w).alloc _).trans HX1.out⟩
        · go_wp2_with fail
          refine (Hih.out (deep + 1) (by have := Hd.out; omega) (by omega) y G _ _ ⟨_, rfl, HY.out.ext (((ext_refl w).alloc _).trans HX1.out)⟩).mono ?_
          rintro e w2 ⟨rfl, hx2⟩
          have HX2 := Lib.hid hx2; clear hx2
          go_wp2_with fail
          go_ret
          exact ⟨by rw [hg]; simp, (((ext_refl w).alloc _).trans HX1.out).trans HX2.out⟩
      · have hres : (Ty.mk 3 l).good (d + 1) = false := by
          match l, hl with
          | [], _ => simp [Ty.good]
          | [_], _ => simp [Ty.good]
          | [_, _], h => exact absurd rfl h
          | _ :: _ :: _ :: _, _ => simp [Ty.good]
        rw [hres]; clear hres
        have hl2 : ((l.length : Int) == 2) = false := by simpa using (by omega : ¬ (l.length : Int) = 2)
        go_enter Try.func29, Try.ntmps29
        go_wp2_with fail
        go_ret
        exact ⟨rfl, (ext_refl w).alloc _⟩
    · have hres : (Ty.mk k l).good (d + 1) = (l.length == 0) := by simp [Ty.good, hk3]; omega
      rw [hres]; clear hres
      go_enter Try.func29, Try.ntmps29
      go_wp2_with fail
      go_ret
      refine ⟨?_, (ext_refl w).alloc _⟩
      have hz : ((l.length : Int) == 0) = (l.length == 0) := by rw [Bool.eq_iff_iff]; simp
      simp [hz]

theorem Good_calls (t : Ty) (G : Nat → Prop) (w : World) (va : Value) (ht : TyV G w t va) :
    Calls Try.prog 8 #[va] w fun e w' => e = .returned (.bool (t.good 4)) ∧ Ext w w' := by
  obtain ⟨sa, rfl, ha⟩ := ht
  obtain ⟨a1, c1, rfl, hmax, _⟩ := ha.form
  have HA := Lib.hid ha; clear ha
  go_enter Try.func8, Try.ntmps8
  go_wp2_with fail
  refine (good_calls 4 1 (by omega) (by omega) t G _ _ ⟨_, rfl, HA.out.ext ((ext_refl w).alloc _)⟩).mono ?_
  rintro e w1 ⟨rfl, hx1⟩
  have HX1 := Lib.hid hx1; clear hx1
  go_wp2_with fail
  go_ret
  exact ⟨rfl, ((ext_refl w).alloc _).trans HX1.out⟩
end Go.Proofs.Ytnflnbdlgdjfmaa
