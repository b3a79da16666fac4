/-
  The walks of Plain and of the small functions of the laws. Conditions: the argument lies in memory as a tree.
-/
import Derived.Test.YtnflnbdlgdjfmaaKindW3
import Derived.Test.YtnflnbdlgdjfmaaOpen
namespace Go.Proofs.Ytnflnbdlgdjfmaa
open Go.ChangeShapes Go.WideShapes Go.ChangeAt Go.RowKit
set_option linter.unusedVariables false
set_option linter.unusedSimpArgs false

set_option maxHeartbeats 1000000 in
theorem plain_calls (t : Ty) (G : Nat → Prop) (w : World) (va : Value) (ht : TyV G w t va) :
    Calls Try.prog 14 #[va] w fun e w' => e = .returned (.bool t.plain) ∧ Ext w w' := by
  obtain ⟨k, l⟩ := t
  obtain ⟨sa, rfl, ha⟩ := ht
  simp only [Ty.k_mk, Ty.l_mk] at *
  obtain ⟨a1, c1, rfl, hmax, _⟩ := ha.form
  unfold maxLen at hmax
  have HA := Lib.hid ha; clear ha
  by_cases h1 : k = 1
  · subst h1
    have hres : (Ty.mk 1 l).plain = true := by simp [Ty.plain]
    rw [hres]; clear hres
    go_enter Try.func14, Try.ntmps14
    go_wp2_with fail
    go_ret
    exact ⟨rfl, (ext_refl w).alloc _⟩
  by_cases h2 : k = 2
  · subst h2
    have hres : (Ty.mk 2 l).plain = true := by simp [Ty.plain]
    rw [hres]; clear hres
    go_enter Try.func14, Try.ntmps14
    go_wp2_with fail
    go_ret
    exact ⟨rfl, (ext_refl w).alloc _⟩
  have b1 : (k == 1) = false := by simpa using h1
  have b2 : (k == 2) = false := by simpa using h2
  by_cases h3 : k = 3
  · subst h3
    by_cases hl : l.length = 2
    · obtain ⟨x, y, rfl⟩ : ∃ x y, l = [x, y] := by
        match l, hl with
        | [x, y], _ => exact ⟨x, y, rfl⟩
      obtain ⟨b1, o1, a2, c2, rfl, _, e1, e2, hx⟩ := HA.out.at 0 (by simp)
      obtain ⟨b2, o2, a3, c3, hbo, _, f1, f2, hy⟩ := HA.out.at 1 (by simp)
      cases hbo
      simp only [List.length_cons, List.length_nil, List.getElem_cons_zero, List.getElem_cons_succ, Nat.zero_mul, Nat.one_mul, Nat.add_zero, Nat.zero_add] at *
      have hlt1 : b1 < w.heap.size := World.block_lt_of_cell? _ _ e1
      clear e2 f2 hx hy
      by_cases hx0 : x.k = 0
      · have hres : (Ty.mk 3 [x, y]).plain = (y.k == 0) := by simp [Ty.plain, hx0]
        rw [hres]; clear hres
        have bx : (x.k == 0) = true := by simpa using hx0
        clear hx0
        go_enter Try.func14, Try.ntmps14
        go_wp2_with fail
        go_ret
        exact ⟨by simp, (ext_refl w).alloc _⟩
      · have hres : (Ty.mk 3 [x, y]).plain = false := by simp [Ty.plain, hx0]
        rw [hres]; clear hres
        have bx : (x.k == 0) = false := by simpa using hx0
        go_enter Try.func14, Try.ntmps14
        go_wp2_with fail
        go_ret
        exact ⟨rfl, (ext_refl w).alloc _⟩
    · have hres : (Ty.mk 3 l).plain = false := by
        match l, hl with
        | [], _ => simp [Ty.plain]
        | [_], _ => simp [Ty.plain]
        | [_, _], h => exact absurd rfl h
        | _ :: _ :: _ :: _, _ => simp [Ty.plain]
      rw [hres]; clear hres
      have hl2 : ((l.length : Int) == 2) = false := by simpa using (by omega : ¬ (l.length : Int) = 2)
      go_enter Try.func14, Try.ntmps14
      go_wp2_with fail
      go_ret
      exact ⟨rfl, (ext_refl w).alloc _⟩
  · have hres : (Ty.mk k l).plain = false := by simp [Ty.plain, h1, h2, h3]
    rw [hres]; clear hres
    have b3 : (k == 3) = false := by simpa using h3
    go_enter Try.func14, Try.ntmps14
    go_wp2_with fail
    go_ret
    exact ⟨rfl, (ext_refl w).alloc _⟩

@[go_sem] theorem run_field_Type0 (x s : Value) (w : World) : (Instr.field 25 (.agg #[x, s]) 0).run Try.prog w = .ok x w := by kernel_rfl
@[go_sem] theorem run_field_Type1 (x s : Value) (w : World) : (Instr.field 25 (.agg #[x, s]) 1).run Try.prog w = .ok s w := by kernel_rfl
def numT : Ty := .mk 1 []
theorem num_V (G : Nat → Prop) (w : World) : TyV G w numT (.agg #[.int .i64 1, .slice none 0 0]) := ⟨_, rfl, TyL.nil G w⟩
theorem thin_small : Thin (.to numT .any) := thin_of_size _ (by decide)

set_option maxHeartbeats 1000000 in
theorem ktypes_calls (w : World) : Calls Try.prog 9 #[] w fun e w' => e = .returned (.bool true) ∧ Ext w w' := by
  go_enter Try.func9, Try.ntmps9
  go_wp2_with fail
  refine (to_calls numT .any (fun _ => False) _ _ _ (num_V _ _) (any_V _ _)).mono ?_
  rintro e w1 ⟨v, rfl, ⟨s, rfl, hs⟩, hx⟩
  obtain ⟨a2, c2, rfl, _⟩ := hs.form
  have HS := Lib.hid hs; clear hs
  have HX := Lib.hid hx; clear hx
  go_wp2_with fail
  obtain ⟨T, hT⟩ : ∃ T, T = Ty.to numT .any := ⟨_, rfl⟩
  have g1 : T.good 4 = true := by rw [hT]; decide
  have g2 : T.fits .any = true := by rw [hT]; decide
  have g3 : T.fits numT = false := by rw [hT]; decide
  have g4 : (T.join T).k = 3 := by rw [hT]; decide
  have g5 : Thin T := by rw [hT]; exact thin_small
  rw [← hT] at HS ⊢
  clear hT
  have HG1 := Lib.hid g1; clear g1
  have HG2 := Lib.hid g2; clear g2
  have HG3 := Lib.hid g3; clear g3
  have HG4 := Lib.hid g4; clear g4
  go_wp2_with fail
  have hv : ∀ w2, Ext w1 w2 → TyV (fun k => False ∨ w.heap.size ≤ k) w2 T (.agg #[.int .i64 T.k, .slice a2 T.l.length c2]) := fun w2 h => ⟨_, rfl, HS.out.ext h⟩
  have HV := Lib.hid hv; clear hv
  have hc := Good_calls T _ _ _ (HV.out (w1.alloc (Obj.cells #[Value.int IntKind.i64 T.k, Value.slice a2 T.l.length c2] 25)) ((ext_refl _).alloc _))
  rw [HG1.out] at hc
  refine hc.mono ?_
  rintro e w2 ⟨rfl, hx2⟩
  have HX2 := Lib.hid hx2; clear hx2
  have e0 := HX2.out.cell (p := ⟨w1.heap.size, 0, none⟩) (v := .int .i64 T.k) (by simp [go_sem])
  have e1 := HX2.out.cell (p := ⟨w1.heap.size, 1, none⟩) (v := .slice a2 T.l.length c2) (by simp [go_sem])
  go_wp2_with fail
  have hc := fits_calls T .any _ _ _ _ _ (HV.out w2 (((ext_refl _).alloc _).trans HX2.out)) (any_V All w2)
  rw [HG2.out] at hc
  refine hc.mono ?_
  rintro e w3 ⟨rfl, hx3⟩
  have HX3 := Lib.hid hx3; clear hx3
  have e0 := HX3.out.cell e0
  have e1 := HX3.out.cell e1
  go_wp2_with fail
  have hc := fits_calls T numT _ _ _ _ _ (HV.out w3 ((((ext_refl _).alloc _).trans HX2.out).trans HX3.out)) (num_V All w3)
  rw [HG3.out] at hc
  refine hc.mono ?_
  rintro e w4 ⟨rfl, hx4⟩
  have HX4 := Lib.hid hx4; clear hx4
  have e0 := HX4.out.cell e0
  have e1 := HX4.out.cell e1
  go_wp2_with fail
  have hvt := HV.out w4 (((((ext_refl _).alloc _).trans HX2.out).trans HX3.out).trans HX4.out)
  refine (join_calls T T _ _ w4 _ _ g5 hvt hvt).mono ?_
  rintro e w5 ⟨v, rfl, ⟨s, rfl, _⟩, hx5⟩
  have HX5 := Lib.hid hx5; clear hx5 hvt
  have hk : (T.join T).k = 3 := HG4.out
  have hkb : ((T.join T).k == 3) = true := by rw [hk]; rfl
  clear hk
  go_wp2_with fail
  go_ret
  exact ⟨by simp [HG4.out], ((((HX.out.trans ((ext_refl _).alloc _)).trans HX2.out).trans HX3.out).trans HX4.out).trans HX5.out⟩
end Go.Proofs.Ytnflnbdlgdjfmaa
