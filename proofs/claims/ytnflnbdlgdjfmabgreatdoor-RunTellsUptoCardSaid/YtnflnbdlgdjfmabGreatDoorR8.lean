/-
  Merged texts of the proof. Conditions: those typed in each theorem.
-/
import Derived.Test.YtnflnbdlgdjfmabGreatDoorR7
import Derived.WalkKit
import Derived.Carry
import Derived.MapKept
namespace Go.Proofs.YtnflnbdlgdjfmabGreatDoor
open Go.RowKit
set_option linter.unusedVariables false
set_option linter.unusedSimpArgs false
set_option maxRecDepth 100000
attribute [local irreducible] RunL AW LocOp ACalls Gh
theorem okW1 {g F : Nat} : OkL [(1000, .obj (wOk g F))] := by
  intro b x hx
  have := ofL_mem hx
  cases List.mem_singleton.1 this
  exact okBlk_of okW
section
variable (g F : Nat) (n : Int) (T f : Ty) (env : List V)
set_option maxHeartbeats 4000000 in
theorem eva_if (a b c : Tm) {r r1 : Res} (ha : EvA g a env F r1)
    (hC : (∃ o, r1 = .out o ∧ (o.kind != 0) = true ∧ r = .out o) ∨ (∃ v F1 k1 n1 d tg, r1 = .ok v F1 ∧ V.th g v = [.int .i64 k1, .int .i64 n1, d, .int .i64 tg] ∧ closedC d = true ∧ r = .out .stuck ∧ ((tg != 0) = true ∨ ((tg != 0) = false ∧ (k1 != 2) = true)))
      ∨ (∃ F1, r1 = .ok (.tru 1) F1 ∧ EvA g b env F1 r) ∨ (∃ F1, r1 = .ok (.tru 0) F1 ∧ EvA g c env F1 r)) : EvA g (.mk 6 n T f [a, b, c]) env F r := by
  obtain ⟨k', n', d', tg', hc, e⟩ := res_cells g r
  have hr1 : (tmRows [a, b, c])[0]? = some a.c := by simp [tmRows, Tm.cells_c]
  have hr2 : (tmRows [a, b, c])[1]? = some b.c := by simp [tmRows, Tm.cells_c]
  have hr3 : (tmRows [a, b, c])[2]? = some c.c := by simp [tmRows, Tm.cells_c]
  unfold EvA at ha hC ⊢
  let t : Tm := .mk 6 n T f [a, b, c]
  refine acalls_of_body Tryz.func41 rfl (by kernel_rfl) (Nat.le_of_ble_eq_true rfl) (by exact ⟨⟨rfl, zo⟩, zo⟩) (by simp [namesL]) ?_;refine zQ ?_;refine zM laC ?_;refine zM lan ?_;refine zM laC ?_;refine zM lah ?_;refine zn ?_;refine AW.gh (gh_rawB (bw := 3) (b := 1000) (by exact rfl) (by exact rfl) lau) ?_;refine AW.gh (gh_lit [(3, .one (fpo [.raw g 0] 0)), (4, .one (fpo (t).c 0)), (5, .one (fpo [slOf 4 (thRows g env)] 0)), (6, .one (.ptr 6 0))] [(1000, .obj (wOk g F)), (6, .obj th0)] [3, 4, 5] [] ⟨(by exact WkC.obj (List.mem_cons_self ..) rfl (leRow_refl _)), (by exact WkC.obj (by decide) rfl (leRow_refl _)), (by exact WkC.obj (by decide) rfl (leRow_refl _)), (zw rfl zo), zo⟩ ⟨(by exact zb rfl), (by exact zb rfl), zo⟩ ⟨⟨_, rfl, rfl⟩, ⟨_, rfl, rfl⟩, ⟨_, rfl, rfl⟩, zo⟩ trivial rfl rfl ⟨zo, zo, zo, ⟨_, rfl⟩, zo⟩ ⟨(by exact ⟨zo, zo, zo, ⟨_, rfl⟩, zo⟩), (by exact ⟨zo, zo, zo, zo, zo⟩), zo⟩) ?_
  refine zq ?_;refine zQ ?_;refine zV (law (b := 1000) (by exact rfl) (by exact rfl) (by exact rfl) (by exact lau)) ?_;refine zV lag ?_;refine zV lad ?_;refine zV lad ?_;refine zV lae ?_;refine zV lac ?_;refine zn ?_;refine zcF ?_;refine zsk ?_;refine zq ?_;refine zQ ?_;refine zV lak ?_;refine zV laj ?_;refine zn ?_;refine zbl ?_;refine zQ ?_;refine zV lac ?_;refine zV lab ?_;refine zn ?_;refine zcF ?_;refine zq ?_;refine zQ ?_;refine zV lac ?_;refine zV lab ?_;refine zn ?_;refine zcF ?_;refine zR ?_;refine zV lac ?_;refine zV lab ?_;refine zn ?_;refine zcF ?_;refine zQ ?_;refine zV lac ?_;refine zV lab ?_;refine zn ?_;refine zcF ?_;refine zQ ?_;refine zV lac ?_;refine zV lab ?_;refine zn ?_;refine zcF ?_;refine zQ ?_;refine zV lac ?_;refine zV lab ?_;refine zn ?_;refine zcF ?_;refine zsk ?_;refine zq ?_;refine zRD ?_;refine zV (law (b := 1000) (by exact rfl) (by exact rfl) (by exact rfl) (by exact lau)) ?_;refine zV lak ?_;refine zV laj ?_;refine zV (lap _) ?_;refine zV lao ?_;refine zV laj ?_
  rcases hC with ⟨o, rfl, ho, rfl⟩ | ⟨v, F1, k1, n1, d, tg, rfl, ev, hd, rfl, htg⟩ | ⟨F1, rfl, hb⟩ | ⟨F1, rfl, hb⟩
  · replace ha : ACalls _ _ _ _ (.agg th0) [(1000, .obj (wEnd g o))] := ha
    refine zY (las (ha) rfl (by refine ⟨_, _, rfl, (by exact LeU.of_eq rfl zo), (by exact Exists.intro _ rfl), ?_⟩;refine zC7 ?_;refine zC ?_;exact rfl) (by exact ⟨rfl, zo⟩) (by exact rfl) (by simp [namesL])) ?_
    refine zM lah ?_;refine zE laf ?_;refine znD ?_;refine zq ?_;refine zQ ?_;refine zV (law (b := 1000) (by exact rfl) (by exact rfl) (by exact rfl) (by exact laQ)) ?_;refine zV lag ?_;refine zV lad ?_;refine zV lad ?_;refine zV lae ?_;refine zV lac ?_;refine zn ?_;refine zaT ?_;refine zQ ?_;refine zV laq ?_;refine zE laf ?_;refine zn ?_;refine zre ?_
    exact ret_th (.inr rfl) (by exact rfl) (by exact rfl) (wkRow_refl _) rfl (by exact rfl) (wkRow_refl _) okT0 okE
  · replace ha : ACalls _ _ _ _ (.agg (V.th g v)) [(1000, .obj (wOk g F1))] := ha
    rw [ev] at ha
    rcases htg with htg | ⟨htg, hk⟩
    · refine zY (las (ha) rfl (by refine ⟨_, _, rfl, (by exact LeU.of_eq rfl trivial), (by exact Exists.intro _ rfl), ?_⟩; refine zC7 ?_; refine zC ?_; exact rfl) (by exact ⟨rfl, trivial⟩) (by exact rfl) (by simp [namesL])) ?_
      refine zM lah ?_;refine zE laf ?_;refine znD ?_;refine zq ?_;refine zQ ?_;refine zV (law (b := 1000) (by exact rfl) (by exact rfl) (by exact rfl) (by exact lau)) ?_;refine zV lag ?_;refine zV lad ?_;refine zV lad ?_;refine zV lae ?_;refine zV lac ?_;refine zn ?_;refine zcF ?_;refine zsk ?_;refine zq ?_;refine zQ ?_;refine zV lak ?_;refine zV laj ?_;refine zV lac ?_;refine zn ?_;refine zcT ?_;refine zq ?_;refine zQ ?_;refine zV lad ?_;refine zV lae ?_;refine zV lac ?_;refine zV laa ?_;refine zt ?_;refine zt ?_;refine zt ?_;refine zV (lam true) ?_;refine zn ?_;refine zcT ?_;refine zQ ?_;refine zV (law (b := 1000) (by exact rfl) (by exact rfl) (by exact rfl) (by exact lau)) ?_
      refine zY (las (rstuck_a g F1) rfl (by refine ⟨_, _, rfl, (by exact LeU.of_eq rfl zo), (by exact Exists.intro _ rfl), ?_⟩;exact rfl) (by exact ⟨rfl, zo⟩) (by exact rfl) (by simp [namesL])) ?_
      refine zE laf ?_;refine zn ?_;refine zre ?_
      exact ret_th (.inr rfl) (by exact rfl) (by exact rfl) (wkRow_refl _) rfl (by exact rfl) (wkRow_refl _) okT0 okE
    · refine zY (las (ha) rfl (by refine ⟨_, _, rfl, (by exact LeU.of_eq rfl trivial), (by exact Exists.intro _ rfl), ?_⟩; refine zC7 ?_; refine zC ?_; exact rfl) (by exact ⟨rfl, trivial⟩) (by exact rfl) (by simp [namesL])) ?_
      refine zM lah ?_;refine zE laf ?_;refine znD ?_;refine zq ?_;refine zQ ?_;refine zV (law (b := 1000) (by exact rfl) (by exact rfl) (by exact rfl) (by exact lau)) ?_;refine zV lag ?_;refine zV lad ?_;refine zV lad ?_;refine zV lae ?_;refine zV lac ?_;refine zn ?_;refine zcF ?_;refine zsk ?_;refine zq ?_;refine zQ ?_;refine zV lak ?_;refine zV laj ?_;refine zV lac ?_;refine zn ?_;refine zcT ?_;refine zq ?_;refine zQ ?_;refine zV lad ?_;refine zV lae ?_;refine zV lac ?_;refine zV laa ?_;refine zF lad ?_;refine zF lae ?_;refine zF lac ?_;refine zV (lam false) ?_;refine zn ?_;refine zaT ?_;refine zQ ?_;refine zV (law (b := 1000) (by exact rfl) (by exact rfl) (by exact rfl) (by exact lau)) ?_
      refine zY (las (rstuck_a g F1) rfl (by refine ⟨_, _, rfl, (by exact LeU.of_eq rfl zo), (by exact Exists.intro _ rfl), ?_⟩;exact rfl) (by exact ⟨rfl, zo⟩) (by exact rfl) (by simp [namesL])) ?_
      refine zE laf ?_;refine zn ?_;refine zre ?_
      exact ret_th (.inr rfl) (by exact rfl) (by exact rfl) (wkRow_refl _) rfl (by exact rfl) (wkRow_refl _) okT0 okE
  · replace ha : ACalls _ _ _ _ (.agg [.int .i64 2, .int .i64 1, .nilf, .int .i64 0]) [(1000, .obj (wOk g F1))] := ha
    rw [e] at hb ⊢
    refine zY (las (ha) rfl (by refine ⟨_, _, rfl, (by exact LeU.of_eq rfl zo), (by exact Exists.intro _ rfl), ?_⟩;refine zC7 ?_;refine zC ?_;exact rfl) (by exact ⟨rfl, zo⟩) (by exact rfl) (by simp [namesL])) ?_
    refine zM lah ?_;refine zE laf ?_;refine znD ?_;refine zq ?_;refine zQ ?_;refine zV (law (b := 1000) (by exact rfl) (by exact rfl) (by exact rfl) (by exact lau)) ?_;refine zV lag ?_;refine zV lad ?_;refine zV lad ?_;refine zV lae ?_;refine zV lac ?_;refine zn ?_;refine zcF ?_;refine zsk ?_;refine zq ?_;refine zQ ?_;refine zV lak ?_;refine zV laj ?_;refine zV lac ?_;refine zn ?_;refine zcT ?_;refine zq ?_;refine zQ ?_;refine zV lad ?_;refine zV lae ?_;refine zV lac ?_;refine zV laa ?_;refine zI lad ?_;refine zI lae ?_;refine zI lac ?_;refine zV lax ?_;refine zn ?_;refine zcF ?_;refine zsk ?_;refine zq ?_;refine zQ ?_;refine zV lad ?_;refine zV lae ?_;refine zV lac ?_;refine zn ?_;refine zcT ?_;refine zq ?_;refine zRD ?_;refine zV (law (b := 1000) (by exact rfl) (by exact rfl) (by exact rfl) (by exact lau)) ?_;refine zV lak ?_;refine zV laj ?_;refine zV (lap _) ?_;refine zV lao ?_;refine zV laj ?_
    refine zY (las (hb) rfl (by refine ⟨_, _, rfl, (by exact LeU.of_eq rfl zo), (by exact Exists.intro _ rfl), ?_⟩;refine zC7 ?_;refine zC ?_;exact rfl) (by exact ⟨rfl, zo⟩) (by exact rfl) (by simp [namesL])) ?_
    refine zE laf ?_;refine znD ?_;refine zre ?_
    exact ret_th (.inr rfl) (by exact rfl) (by exact rfl) (wkRow_refl _) rfl (by exact rfl) (wkRow_refl _) (by exact ⟨zo, zo, closed_okC hc, zo, zo⟩) ok_aft
  · replace ha : ACalls _ _ _ _ (.agg [.int .i64 2, .int .i64 0, .nilf, .int .i64 0]) [(1000, .obj (wOk g F1))] := ha
    rw [e] at hb ⊢
    refine zY (las (ha) rfl (by refine ⟨_, _, rfl, (by exact LeU.of_eq rfl zo), (by exact Exists.intro _ rfl), ?_⟩;refine zC7 ?_;refine zC ?_;exact rfl) (by exact ⟨rfl, zo⟩) (by exact rfl) (by simp [namesL])) ?_
    refine zM lah ?_;refine zE laf ?_;refine znD ?_;refine zq ?_;refine zQ ?_;refine zV (law (b := 1000) (by exact rfl) (by exact rfl) (by exact rfl) (by exact lau)) ?_;refine zV lag ?_;refine zV lad ?_;refine zV lad ?_;refine zV lae ?_;refine zV lac ?_;refine zn ?_;refine zcF ?_;refine zsk ?_;refine zq ?_;refine zQ ?_;refine zV lak ?_;refine zV laj ?_;refine zV lac ?_;refine zn ?_;refine zcT ?_;refine zq ?_;refine zQ ?_;refine zV lad ?_;refine zV lae ?_;refine zV lac ?_;refine zV laa ?_;refine zI lad ?_;refine zI lae ?_;refine zI lac ?_;refine zV lax ?_;refine zn ?_;refine zcF ?_;refine zsk ?_;refine zq ?_;refine zQ ?_;refine zV lad ?_;refine zV lae ?_;refine zV lac ?_;refine zn ?_;refine zcF ?_;refine zsk ?_;refine zq ?_;refine zRD ?_;refine zV (law (b := 1000) (by exact rfl) (by exact rfl) (by exact rfl) (by exact lau)) ?_;refine zV lak ?_;refine zV laj ?_;refine zV (lap _) ?_;refine zV lao ?_;refine zV laj ?_
    refine zY (las (hb) rfl (by refine ⟨_, _, rfl, (by exact LeU.of_eq rfl zo), (by exact Exists.intro _ rfl), ?_⟩;refine zC7 ?_;refine zC ?_;exact rfl) (by exact ⟨rfl, zo⟩) (by exact rfl) (by simp [namesL])) ?_
    refine zE laf ?_;refine znD ?_;refine zre ?_
    exact ret_th (.inr rfl) (by exact rfl) (by exact rfl) (wkRow_refl _) rfl (by exact rfl) (wkRow_refl _) (by exact ⟨zo, zo, closed_okC hc, zo, zo⟩) ok_aft
inductive BinC (g : Nat) (k : Int) (b : Tm) (env : List V) : Res → Res → Prop
  | o {o : Out} (ho : (o.kind != 0) = true) : BinC g k b env (.out o) (.out o)
  | p {v : V} {F1 : Nat} {o : Out} (ho : (o.kind != 0) = true) (hb : EvA g b env F1 (.out o)) : BinC g k b env (.ok v F1) (.out o)
  | s8 {v w : V} {F1 F2 : Nat} {k1 n1 tg : Int} {d : C} (hb : EvA g b env F1 (.ok w F2)) (ev : V.th g v = [.int .i64 k1, .int .i64 n1, d, .int .i64 tg]) (hd : closedC d = true) (h8 : (k == 8) = true) (hs : (tg != 0) = true ∨ ((tg != 0) = false ∧ (k1 != 3) = true)) : BinC g k b env (.ok v F1) (.out .stuck)
  | s4 {v w : V} {F1 F2 : Nat} {k1 n1 tg k2 n2 tg2 : Int} {d d2 : C} (hb : EvA g b env F1 (.ok w F2)) (ev : V.th g v = [.int .i64 k1, .int .i64 n1, d, .int .i64 tg]) (hd : closedC d = true) (ew : V.th g w = [.int .i64 k2, .int .i64 n2, d2, .int .i64 tg2]) (hd2 : closedC d2 = true) (h8 : (k == 8) = false)
      (hs : (tg != 0) = true ∨ ((tg != 0) = false ∧ (k1 != 1) = true) ∨ ((tg != 0) = false ∧ (k1 != 1) = false ∧ (tg2 != 0) = true) ∨ ((tg != 0) = false ∧ (k1 != 1) = false ∧ (tg2 != 0) = false ∧ (k2 != 1) = true)) : BinC g k b env (.ok v F1) (.out .stuck)
  | call {v w : V} {F1 F2 : Nat} {fid : FuncId} {caps : List U} {r : Res} (hb : EvA g b env F1 (.ok w F2)) (h8 : (k == 8) = true) (ev : V.th g v = [.int .i64 3, .int .i64 0, cloOf fid caps, .int .i64 0]) (hcl : capsOk caps = true) (hap : ACalls Tryz.prog fid (.agg (V.th g w) :: caps) [(1000, .obj (wOk g F2))] (.agg (resC g r)) [(1000, .obj (wAft g r))]) : BinC g k b env (.ok v F1) r
  | add {p q : Int} {F1 F2 : Nat} (hb : EvA g b env F1 (.ok (.num q) F2)) (h8 : (k == 8) = false) (h4 : (k == 4) = true) (hp : -1000000 ≤ p ∧ p ≤ 1000000) (hq : -1000000 ≤ q ∧ q ≤ 1000000) : BinC g k b env (.ok (.num p) F1) (.ok (.num (min (max (p + q) (-1000000)) 1000000)) F2)
  | lt {p q : Int} {F1 F2 : Nat} (hb : EvA g b env F1 (.ok (.num q) F2)) (h8 : (k == 8) = false) (h4 : (k == 4) = false) (hlt : decide (p < q) = true) : BinC g k b env (.ok (.num p) F1) (.ok (.tru 1) F2)
  | ge {p q : Int} {F1 F2 : Nat} (hb : EvA g b env F1 (.ok (.num q) F2)) (h8 : (k == 8) = false) (h4 : (k == 4) = false) (hlt : decide (p < q) = false) : BinC g k b env (.ok (.num p) F1) (.ok (.tru 0) F2)
set_option maxHeartbeats 8000000 in
theorem eva_bin (k : Int) (a b : Tm) {r r1 : Res} (k1 : (k == 1) = false) (k2 : (k == 2) = false) (k3 : (k == 3) = false) (k7 : (k == 7) = false) (k9 : (k == 9) = false) (k10 : (k == 10) = false) (k6 : (k == 6) = false)
    (ha : EvA g a env F r1) (hC : BinC g k b env r1 r) : EvA g (.mk k n T f [a, b]) env F r := by
  obtain ⟨k', n', d', tg', hc, e⟩ := res_cells g r
  have hr1 : (tmRows [a, b])[0]? = some a.c := by simp [tmRows, Tm.cells_c]
  have hr2 : (tmRows [a, b])[1]? = some b.c := by simp [tmRows, Tm.cells_c]
  unfold EvA at ha ⊢
  let t : Tm := .mk k n T f [a, b]
  refine acalls_of_body Tryz.func41 rfl (by kernel_rfl) (Nat.le_of_ble_eq_true rfl) (by exact ⟨⟨rfl, zo⟩, zo⟩) (by simp [namesL]) ?_;refine zQ ?_;refine zM laC ?_;refine zM lan ?_;refine zM laC ?_;refine zM lah ?_;refine zn ?_;refine AW.gh (gh_rawB (bw := 3) (b := 1000) (by exact rfl) (by exact rfl) lau) ?_;refine AW.gh (gh_lit [(3, .one (fpo [.raw g 0] 0)), (4, .one (fpo (t).c 0)), (5, .one (fpo [slOf 4 (thRows g env)] 0)), (6, .one (.ptr 6 0))] [(1000, .obj (wOk g F)), (6, .obj th0)] [3, 4, 5] [] ⟨(by exact WkC.obj (List.mem_cons_self ..) rfl (leRow_refl _)), (by exact WkC.obj (by decide) rfl (leRow_refl _)), (by exact WkC.obj (by decide) rfl (leRow_refl _)), (zw rfl zo), zo⟩ ⟨(by exact zb rfl), (by exact zb rfl), zo⟩ ⟨⟨_, rfl, rfl⟩, ⟨_, rfl, rfl⟩, ⟨_, rfl, rfl⟩, zo⟩ trivial rfl rfl ⟨zo, zo, zo, ⟨_, rfl⟩, zo⟩ ⟨(by exact ⟨zo, zo, zo, ⟨_, rfl⟩, zo⟩), (by exact ⟨zo, zo, zo, zo, zo⟩), zo⟩) ?_
  refine zq ?_;refine zQ ?_;refine zV (law (b := 1000) (by exact rfl) (by exact rfl) (by exact rfl) (by exact lau)) ?_;refine zV lag ?_;refine zV lad ?_;refine zV lad ?_;refine zV lae ?_;refine zV lac ?_;refine zn ?_;refine zcF ?_;refine zsk ?_;refine zq ?_;refine zQ ?_;refine zV lak ?_;refine zV laj ?_;refine zn ?_;refine zbl ?_;refine zQ ?_;refine zV lac ?_;refine zV lab ?_;refine zn ?_;refine zaF ?_;refine zq ?_;refine zQ ?_;refine zV lac ?_;refine zV lab ?_;refine zn ?_;refine zaF ?_;refine zR ?_;refine zV lac ?_;refine zV lab ?_;refine zn ?_;refine zaF ?_;refine zQ ?_;refine zV lac ?_;refine zV lab ?_;refine zn ?_;refine zaF ?_;refine zQ ?_;refine zV lac ?_;refine zV lab ?_;refine zn ?_;refine zaF ?_;refine zQ ?_;refine zV lac ?_;refine zV lab ?_;refine zn ?_;refine zaF ?_;refine zsk ?_;refine zq ?_;refine zRD ?_;refine zV (law (b := 1000) (by exact rfl) (by exact rfl) (by exact rfl) (by exact lau)) ?_;refine zV lak ?_;refine zV laj ?_;refine zV (lap _) ?_;refine zV lao ?_;refine zV laj ?_
  cases hC with
  | o ho =>
    rename_i o
    replace ha : ACalls _ _ _ _ (.agg th0) [(1000, .obj (wEnd g o))] := ha
    refine zY (las (ha) rfl (by refine ⟨_, _, rfl, (by exact LeU.of_eq rfl zo), (by exact Exists.intro _ rfl), ?_⟩;refine zC7 ?_;refine zC ?_;exact rfl) (by exact ⟨rfl, zo⟩) (by exact rfl) (by simp [namesL])) ?_
    refine zM lah ?_;refine zE laf ?_;refine znD ?_;refine zq ?_;refine zQ ?_;refine zV (law (b := 1000) (by exact rfl) (by exact rfl) (by exact rfl) (by exact laQ)) ?_;refine zV lag ?_;refine zV lad ?_;refine zV lad ?_;refine zV lae ?_;refine zV lac ?_;refine zn ?_;refine zaT ?_;refine zQ ?_;refine zV laq ?_;refine zE laf ?_;refine zn ?_;refine zre ?_
    exact ret_th (.inr rfl) (by exact rfl) (by exact rfl) (wkRow_refl _) rfl (by exact rfl) (wkRow_refl _) okT0 okE
  | p ho hb =>
    rename_i v F1 o
    obtain ⟨d, hd, tg, ev⟩ := th_cells g v
    replace ha : ACalls _ _ _ _ (.agg (V.th g v)) [(1000, .obj (wOk g F1))] := ha
    replace hb : ACalls _ _ _ _ (.agg th0) [(1000, .obj (wEnd g o))] := hb
    rw [ev] at ha
    refine zY (las (ha) rfl (by refine ⟨_, _, rfl, (by exact LeU.of_eq rfl zo), (by exact Exists.intro _ rfl), ?_⟩;refine zC7 ?_;refine zC ?_;exact rfl) (by exact ⟨rfl, zo⟩) (by exact rfl) (by simp [namesL])) ?_
    refine zM lah ?_;refine zE laf ?_;refine znD ?_;refine zq ?_;refine zQ ?_;refine zV (law (b := 1000) (by exact rfl) (by exact rfl) (by exact rfl) (by exact lau)) ?_;refine zV lag ?_;refine zV lad ?_;refine zV lad ?_;refine zV lae ?_;refine zV lac ?_;refine zn ?_;refine zcF ?_;refine zsk ?_;refine zq ?_;refine zQ ?_;refine zV lak ?_;refine zV laj ?_;refine zV lac ?_;refine zn ?_;refine zaF ?_;refine zsk ?_;refine zq ?_;refine zRD ?_;refine zV (law (b := 1000) (by exact rfl) (by exact rfl) (by exact rfl) (by exact lau)) ?_;refine zV lak ?_;refine zV laj ?_;refine zV (lap _) ?_;refine zV lao ?_;refine zV laj ?_
    refine zY (las (hb) rfl (by refine ⟨_, _, rfl, (by exact LeU.of_eq rfl zo), (by exact Exists.intro _ rfl), ?_⟩;refine zC7 ?_;refine zC ?_;exact rfl) (by exact ⟨rfl, zo⟩) (by exact rfl) (by simp [namesL])) ?_
    refine zM lah ?_;refine zE laf ?_;refine znD ?_;refine zq ?_;refine zbl ?_;refine zQ ?_;refine zV (law (b := 1000) (by exact rfl) (by exact rfl) (by exact rfl) (by exact laQ)) ?_;refine zV lag ?_;refine zV lad ?_;refine zV lad ?_;refine zV lae ?_;refine zV lac ?_;refine zV lab ?_;refine zn ?_;refine zaT ?_;refine zQ ?_;refine zV laq ?_;refine zE laf ?_;refine zn ?_;refine zre ?_
    exact ret_th (.inr rfl) (by exact rfl) (by exact rfl) (wkRow_refl _) rfl (by exact rfl) (wkRow_refl _) okT0 okE
  | s8 hb ev hd h8 hs =>
    rename_i v w F1 F2 q1 n1 tg d
    obtain ⟨d2, hd2, tg2, ew⟩ := th_cells g w
    replace ha : ACalls _ _ _ _ (.agg (V.th g v)) [(1000, .obj (wOk g F1))] := ha
    replace hb : ACalls _ _ _ _ (.agg (V.th g w)) [(1000, .obj (wOk g F2))] := hb
    rw [ev] at ha
    rw [ew] at hb
    rcases hs with h | ⟨h, h'⟩
    · refine zY (las (ha) rfl (by refine ⟨_, _, rfl, (by exact LeU.of_eq rfl trivial), (by exact Exists.intro _ rfl), ?_⟩; refine zC7 ?_; refine zC ?_; exact rfl) (by exact ⟨rfl, trivial⟩) (by exact rfl) (by simp [namesL])) ?_; refine zM lah ?_; refine zE laf ?_; refine znD ?_; refine zq ?_; refine zQ ?_; refine zV (law (b := 1000) (by exact rfl) (by exact rfl) (by exact rfl) (by exact lau)) ?_; refine zV lag ?_; refine zV lad ?_; refine zV lad ?_; refine zV lae ?_; refine zV lac ?_; refine zn ?_; refine zcF ?_; refine zsk ?_; refine zq ?_; refine zQ ?_; refine zV lak ?_; refine zV laj ?_; refine zV lac ?_; refine zn ?_; refine zaF ?_; refine zsk ?_; refine zq ?_; refine zRD ?_; refine zV (law (b := 1000) (by exact rfl) (by exact rfl) (by exact rfl) (by exact lau)) ?_; refine zV lak ?_; refine zV laj ?_; refine zV (lap _) ?_; refine zV lao ?_; refine zV laj ?_; refine zY (las (hb) rfl (by refine ⟨_, _, rfl, (by exact LeU.of_eq rfl trivial), (by exact Exists.intro _ rfl), ?_⟩; refine zC7 ?_; refine zC ?_; exact rfl) (by exact ⟨rfl, trivial⟩) (by exact rfl) (by simp [namesL])) ?_; refine zM lah ?_; refine zE laf ?_; refine znD ?_; refine zq ?_; refine zbl ?_; refine zQ ?_; refine zV (law (b := 1000) (by exact rfl) (by exact rfl) (by exact rfl) (by exact lau)) ?_; refine zV lag ?_; refine zV lad ?_; refine zV lad ?_; refine zV lae ?_; refine zV lac ?_; refine zV lab ?_; refine zn ?_; refine zcF ?_; refine zQ ?_; refine zV lak ?_; refine zV laj ?_; refine zV lac ?_; refine zV lab ?_; refine zn ?_; refine zaT ?_; refine zq ?_; refine zQ ?_; refine zV lad ?_; refine zV lae ?_; refine zV lac ?_; refine zV laa ?_; refine zt ?_; refine zt ?_; refine zt ?_; refine zV (lam true) ?_; refine zn ?_; refine zcT ?_; refine zQ ?_; refine zV (law (b := 1000) (by exact rfl) (by exact rfl) (by exact rfl) (by exact lau)) ?_; refine zY (las (rstuck_a g (F2)) rfl (by refine ⟨_, _, rfl, (by exact LeU.of_eq rfl trivial), (by exact Exists.intro _ rfl), ?_⟩; exact rfl) (by exact ⟨rfl, trivial⟩) (by exact rfl) (by simp [namesL])) ?_; refine zE laf ?_; refine zn ?_; refine zre ?_; exact ret_th (.inr rfl) (by exact rfl) (by exact rfl) (wkRow_refl _) rfl (by exact rfl) (wkRow_refl _) okT0 okE
    · refine zY (las (ha) rfl (by refine ⟨_, _, rfl, (by exact LeU.of_eq rfl trivial), (by exact Exists.intro _ rfl), ?_⟩; refine zC7 ?_; refine zC ?_; exact rfl) (by exact ⟨rfl, trivial⟩) (by exact rfl) (by simp [namesL])) ?_; refine zM lah ?_; refine zE laf ?_; refine znD ?_; refine zq ?_; refine zQ ?_; refine zV (law (b := 1000) (by exact rfl) (by exact rfl) (by exact rfl) (by exact lau)) ?_; refine zV lag ?_; refine zV lad ?_; refine zV lad ?_; refine zV lae ?_; refine zV lac ?_; refine zn ?_; refine zcF ?_; refine zsk ?_; refine zq ?_; refine zQ ?_; refine zV lak ?_; refine zV laj ?_; refine zV lac ?_; refine zn ?_; refine zaF ?_; refine zsk ?_; refine zq ?_; refine zRD ?_; refine zV (law (b := 1000) (by exact rfl) (by exact rfl) (by exact rfl) (by exact lau)) ?_; refine zV lak ?_; refine zV laj ?_; refine zV (lap _) ?_; refine zV lao ?_; refine zV laj ?_; refine zY (las (hb) rfl (by refine ⟨_, _, rfl, (by exact LeU.of_eq rfl trivial), (by exact Exists.intro _ rfl), ?_⟩; refine zC7 ?_; refine zC ?_; exact rfl) (by exact ⟨rfl, trivial⟩) (by exact rfl) (by simp [namesL])) ?_; refine zM lah ?_; refine zE laf ?_; refine znD ?_; refine zq ?_; refine zbl ?_; refine zQ ?_; refine zV (law (b := 1000) (by exact rfl) (by exact rfl) (by exact rfl) (by exact lau)) ?_; refine zV lag ?_; refine zV lad ?_; refine zV lad ?_; refine zV lae ?_; refine zV lac ?_; refine zV lab ?_; refine zn ?_; refine zcF ?_; refine zQ ?_; refine zV lak ?_; refine zV laj ?_; refine zV lac ?_; refine zV lab ?_; refine zn ?_; refine zaT ?_; refine zq ?_; refine zQ ?_; refine zV lad ?_; refine zV lae ?_; refine zV lac ?_; refine zV laa ?_; refine zF lad ?_; refine zF lae ?_; refine zF lac ?_; refine zV (lam false) ?_; refine zn ?_; refine zaT ?_; refine zQ ?_; refine zV (law (b := 1000) (by exact rfl) (by exact rfl) (by exact rfl) (by exact lau)) ?_; refine zY (las (rstuck_a g (F2)) rfl (by refine ⟨_, _, rfl, (by exact LeU.of_eq rfl trivial), (by exact Exists.intro _ rfl), ?_⟩; exact rfl) (by exact ⟨rfl, trivial⟩) (by exact rfl) (by simp [namesL])) ?_; refine zE laf ?_; refine zn ?_; refine zre ?_; exact ret_th (.inr rfl) (by exact rfl) (by exact rfl) (wkRow_refl _) rfl (by exact rfl) (wkRow_refl _) okT0 okE
  | s4 hb ev hd ew hd2 h8 hs =>
    rename_i v w F1 F2 q1 n1 tg q2 n2 tg2 d d2
    replace ha : ACalls _ _ _ _ (.agg (V.th g v)) [(1000, .obj (wOk g F1))] := ha
    replace hb : ACalls _ _ _ _ (.agg (V.th g w)) [(1000, .obj (wOk g F2))] := hb
    rw [ev] at ha
    rw [ew] at hb
    rcases hs with h | ⟨h, h'⟩ | ⟨h, h', h''⟩ | ⟨h, h', h'', h3⟩
    · refine zY (las (ha) rfl (by refine ⟨_, _, rfl, (by exact LeU.of_eq rfl trivial), (by exact Exists.intro _ rfl), ?_⟩; refine zC7 ?_; refine zC ?_; exact rfl) (by exact ⟨rfl, trivial⟩) (by exact rfl) (by simp [namesL])) ?_; refine zM lah ?_; refine zE laf ?_; refine znD ?_; refine zq ?_; refine zQ ?_; refine zV (law (b := 1000) (by exact rfl) (by exact rfl) (by exact rfl) (by exact lau)) ?_; refine zV lag ?_; refine zV lad ?_; refine zV lad ?_; refine zV lae ?_; refine zV lac ?_; refine zn ?_; refine zcF ?_; refine zsk ?_; refine zq ?_; refine zQ ?_; refine zV lak ?_; refine zV laj ?_; refine zV lac ?_; refine zn ?_; refine zaF ?_; refine zsk ?_; refine zq ?_; refine zRD ?_; refine zV (law (b := 1000) (by exact rfl) (by exact rfl) (by exact rfl) (by exact lau)) ?_; refine zV lak ?_; refine zV laj ?_; refine zV (lap _) ?_; refine zV lao ?_; refine zV laj ?_; refine zY (las (hb) rfl (by refine ⟨_, _, rfl, (by exact LeU.of_eq rfl trivial), (by exact Exists.intro _ rfl), ?_⟩; refine zC7 ?_; refine zC ?_; exact rfl) (by exact ⟨rfl, trivial⟩) (by exact rfl) (by simp [namesL])) ?_; refine zM lah ?_; refine zE laf ?_; refine znD ?_; refine zq ?_; refine zbl ?_; refine zQ ?_; refine zV (law (b := 1000) (by exact rfl) (by exact rfl) (by exact rfl) (by exact lau)) ?_; refine zV lag ?_; refine zV lad ?_; refine zV lad ?_; refine zV lae ?_; refine zV lac ?_; refine zV lab ?_; refine zn ?_; refine zcF ?_; refine zQ ?_; refine zV lak ?_; refine zV laj ?_; refine zV lac ?_; refine zV lab ?_; refine zn ?_; refine zaF ?_; refine zQ ?_; refine zV lad ?_; refine zV lae ?_; refine zV lac ?_; refine zV laa ?_; refine zt ?_; refine zt ?_; refine zt ?_; refine zV (lam true) ?_; refine zV laa ?_; refine zs ?_; refine zs ?_; refine zs ?_; refine zV laA ?_; refine zV laa ?_; refine zs ?_; refine zs ?_; refine zs ?_; refine zV laA ?_; refine zV lab ?_; refine zn ?_; refine zcT ?_; refine zQ ?_; refine zV (law (b := 1000) (by exact rfl) (by exact rfl) (by exact rfl) (by exact lau)) ?_; refine zY (las (rstuck_a g (F2)) rfl (by refine ⟨_, _, rfl, (by exact LeU.of_eq rfl trivial), (by exact Exists.intro _ rfl), ?_⟩; exact rfl) (by exact ⟨rfl, trivial⟩) (by exact rfl) (by simp [namesL])) ?_; refine zE laf ?_; refine zn ?_; refine zre ?_; exact ret_th (.inr rfl) (by exact rfl) (by exact rfl) (wkRow_refl _) rfl (by exact rfl) (wkRow_refl _) okT0 okE
    · refine zY (las (ha) rfl (by refine ⟨_, _, rfl, (by exact LeU.of_eq rfl trivial), (by exact Exists.intro _ rfl), ?_⟩; refine zC7 ?_; refine zC ?_; exact rfl) (by exact ⟨rfl, trivial⟩) (by exact rfl) (by simp [namesL])) ?_; refine zM lah ?_; refine zE laf ?_; refine znD ?_; refine zq ?_; refine zQ ?_; refine zV (law (b := 1000) (by exact rfl) (by exact rfl) (by exact rfl) (by exact lau)) ?_; refine zV lag ?_; refine zV lad ?_; refine zV lad ?_; refine zV lae ?_; refine zV lac ?_; refine zn ?_; refine zcF ?_; refine zsk ?_; refine zq ?_; refine zQ ?_; refine zV lak ?_; refine zV laj ?_; refine zV lac ?_; refine zn ?_; refine zaF ?_; refine zsk ?_; refine zq ?_; refine zRD ?_; refine zV (law (b := 1000) (by exact rfl) (by exact rfl) (by exact rfl) (by exact lau)) ?_; refine zV lak ?_; refine zV laj ?_; refine zV (lap _) ?_; refine zV lao ?_; refine zV laj ?_; refine zY (las (hb) rfl (by refine ⟨_, _, rfl, (by exact LeU.of_eq rfl trivial), (by exact Exists.intro _ rfl), ?_⟩; refine zC7 ?_; refine zC ?_; exact rfl) (by exact ⟨rfl, trivial⟩) (by exact rfl) (by simp [namesL])) ?_; refine zM lah ?_; refine zE laf ?_; refine znD ?_; refine zq ?_; refine zbl ?_; refine zQ ?_; refine zV (law (b := 1000) (by exact rfl) (by exact rfl) (by exact rfl) (by exact lau)) ?_; refine zV lag ?_; refine zV lad ?_; refine zV lad ?_; refine zV lae ?_; refine zV lac ?_; refine zV lab ?_; refine zn ?_; refine zcF ?_; refine zQ ?_; refine zV lak ?_; refine zV laj ?_; refine zV lac ?_; refine zV lab ?_; refine zn ?_; refine zaF ?_; refine zQ ?_; refine zV lad ?_; refine zV lae ?_; refine zV lac ?_; refine zV laa ?_; refine zF lad ?_; refine zF lae ?_; refine zF lac ?_; refine zV (lam false) ?_; refine zV laa ?_; refine zt ?_; refine zt ?_; refine zt ?_; refine zV (lam true) ?_; refine zV laa ?_; refine zs ?_; refine zs ?_; refine zs ?_; refine zV laA ?_; refine zV lab ?_; refine zn ?_; refine zcT ?_; refine zQ ?_; refine zV (law (b := 1000) (by exact rfl) (by exact rfl) (by exact rfl) (by exact lau)) ?_; refine zY (las (rstuck_a g (F2)) rfl (by refine ⟨_, _, rfl, (by exact LeU.of_eq rfl trivial), (by exact Exists.intro _ rfl), ?_⟩; exact rfl) (by exact ⟨rfl, trivial⟩) (by exact rfl) (by simp [namesL])) ?_; refine zE laf ?_; refine zn ?_; refine zre ?_; exact ret_th (.inr rfl) (by exact rfl) (by exact rfl) (wkRow_refl _) rfl (by exact rfl) (wkRow_refl _) okT0 okE
    · refine zY (las (ha) rfl (by refine ⟨_, _, rfl, (by exact LeU.of_eq rfl trivial), (by exact Exists.intro _ rfl), ?_⟩; refine zC7 ?_; refine zC ?_; exact rfl) (by exact ⟨rfl, trivial⟩) (by exact rfl) (by simp [namesL])) ?_; refine zM lah ?_; refine zE laf ?_; refine znD ?_; refine zq ?_; refine zQ ?_; refine zV (law (b := 1000) (by exact rfl) (by exact rfl) (by exact rfl) (by exact lau)) ?_; refine zV lag ?_; refine zV lad ?_; refine zV lad ?_; refine zV lae ?_; refine zV lac ?_; refine zn ?_; refine zcF ?_; refine zsk ?_; refine zq ?_; refine zQ ?_; refine zV lak ?_; refine zV laj ?_; refine zV lac ?_; refine zn ?_; refine zaF ?_; refine zsk ?_; refine zq ?_; refine zRD ?_; refine zV (law (b := 1000) (by exact rfl) (by exact rfl) (by exact rfl) (by exact lau)) ?_; refine zV lak ?_; refine zV laj ?_; refine zV (lap _) ?_; refine zV lao ?_; refine zV laj ?_; refine zY (las (hb) rfl (by refine ⟨_, _, rfl, (by exact LeU.of_eq rfl trivial), (by exact Exists.intro _ rfl), ?_⟩; refine zC7 ?_; refine zC ?_; exact rfl) (by exact ⟨rfl, trivial⟩) (by exact rfl) (by simp [namesL])) ?_; refine zM lah ?_; refine zE laf ?_; refine znD ?_; refine zq ?_; refine zbl ?_; refine zQ ?_; refine zV (law (b := 1000) (by exact rfl) (by exact rfl) (by exact rfl) (by exact lau)) ?_; refine zV lag ?_; refine zV lad ?_; refine zV lad ?_; refine zV lae ?_; refine zV lac ?_; refine zV lab ?_; refine zn ?_; refine zcF ?_; refine zQ ?_; refine zV lak ?_; refine zV laj ?_; refine zV lac ?_; refine zV lab ?_; refine zn ?_; refine zaF ?_; refine zQ ?_; refine zV lad ?_; refine zV lae ?_; refine zV lac ?_; refine zV laa ?_; refine zF lad ?_; refine zF lae ?_; refine zF lac ?_; refine zV (lam false) ?_; refine zV laa ?_; refine zF lad ?_; refine zF lae ?_; refine zF lac ?_; refine zV (lam false) ?_; refine zV laa ?_; refine zt ?_; refine zt ?_; refine zt ?_; refine zV (lam true) ?_; refine zV lab ?_; refine zn ?_; refine zcT ?_; refine zQ ?_; refine zV (law (b := 1000) (by exact rfl) (by exact rfl) (by exact rfl) (by exact lau)) ?_; refine zY (las (rstuck_a g (F2)) rfl (by refine ⟨_, _, rfl, (by exact LeU.of_eq rfl trivial), (by exact Exists.intro _ rfl), ?_⟩; exact rfl) (by exact ⟨rfl, trivial⟩) (by exact rfl) (by simp [namesL])) ?_; refine zE laf ?_; refine zn ?_; refine zre ?_; exact ret_th (.inr rfl) (by exact rfl) (by exact rfl) (wkRow_refl _) rfl (by exact rfl) (wkRow_refl _) okT0 okE
    · refine zY (las (ha) rfl (by refine ⟨_, _, rfl, (by exact LeU.of_eq rfl trivial), (by exact Exists.intro _ rfl), ?_⟩; refine zC7 ?_; refine zC ?_; exact rfl) (by exact ⟨rfl, trivial⟩) (by exact rfl) (by simp [namesL])) ?_; refine zM lah ?_; refine zE laf ?_; refine znD ?_; refine zq ?_; refine zQ ?_; refine zV (law (b := 1000) (by exact rfl) (by exact rfl) (by exact rfl) (by exact lau)) ?_; refine zV lag ?_; refine zV lad ?_; refine zV lad ?_; refine zV lae ?_; refine zV lac ?_; refine zn ?_; refine zcF ?_; refine zsk ?_; refine zq ?_; refine zQ ?_; refine zV lak ?_; refine zV laj ?_; refine zV lac ?_; refine zn ?_; refine zaF ?_; refine zsk ?_; refine zq ?_; refine zRD ?_; refine zV (law (b := 1000) (by exact rfl) (by exact rfl) (by exact rfl) (by exact lau)) ?_; refine zV lak ?_; refine zV laj ?_; refine zV (lap _) ?_; refine zV lao ?_; refine zV laj ?_; refine zY (las (hb) rfl (by refine ⟨_, _, rfl, (by exact LeU.of_eq rfl trivial), (by exact Exists.intro _ rfl), ?_⟩; refine zC7 ?_; refine zC ?_; exact rfl) (by exact ⟨rfl, trivial⟩) (by exact rfl) (by simp [namesL])) ?_; refine zM lah ?_; refine zE laf ?_; refine znD ?_; refine zq ?_; refine zbl ?_; refine zQ ?_; refine zV (law (b := 1000) (by exact rfl) (by exact rfl) (by exact rfl) (by exact lau)) ?_; refine zV lag ?_; refine zV lad ?_; refine zV lad ?_; refine zV lae ?_; refine zV lac ?_; refine zV lab ?_; refine zn ?_; refine zcF ?_; refine zQ ?_; refine zV lak ?_; refine zV laj ?_; refine zV lac ?_; refine zV lab ?_; refine zn ?_; refine zaF ?_; refine zQ ?_; refine zV lad ?_; refine zV lae ?_; refine zV lac ?_; refine zV laa ?_; refine zF lad ?_; refine zF lae ?_; refine zF lac ?_; refine zV (lam false) ?_; refine zV laa ?_; refine zF lad ?_; refine zF lae ?_; refine zF lac ?_; refine zV (lam false) ?_; refine zV laa ?_; refine zF lad ?_; refine zF lae ?_; refine zF lac ?_; refine zV (lam false) ?_; refine zV lab ?_; refine zn ?_; refine zaT ?_; refine zQ ?_; refine zV (law (b := 1000) (by exact rfl) (by exact rfl) (by exact rfl) (by exact lau)) ?_; refine zY (las (rstuck_a g (F2)) rfl (by refine ⟨_, _, rfl, (by exact LeU.of_eq rfl trivial), (by exact Exists.intro _ rfl), ?_⟩; exact rfl) (by exact ⟨rfl, trivial⟩) (by exact rfl) (by simp [namesL])) ?_; refine zE laf ?_; refine zn ?_; refine zre ?_; exact ret_th (.inr rfl) (by exact rfl) (by exact rfl) (wkRow_refl _) rfl (by exact rfl) (wkRow_refl _) okT0 okE
  | call hb h8 ev hcl hap =>
    rename_i v w F1 F2 fid caps
    obtain ⟨d2, hd2, tg2, ew⟩ := th_cells g w
    replace ha : ACalls _ _ _ _ (.agg (V.th g v)) [(1000, .obj (wOk g F1))] := ha
    replace hb : ACalls _ _ _ _ (.agg (V.th g w)) [(1000, .obj (wOk g F2))] := hb
    rw [ev] at ha
    rw [ew] at hb hap
    rw [e] at hap ⊢
    refine zY (las (ha) rfl (by refine ⟨_, _, rfl, (by exact LeU.of_eq rfl zo), (by exact Exists.intro _ rfl), ?_⟩;refine zC7 ?_;refine zC ?_;exact rfl) (by exact ⟨rfl, zo⟩) (by exact rfl) (by simp [namesL])) ?_
    refine zM lah ?_;refine zE laf ?_;refine znD ?_;refine zq ?_;refine zQ ?_;refine zV (law (b := 1000) (by exact rfl) (by exact rfl) (by exact rfl) (by exact lau)) ?_;refine zV lag ?_;refine zV lad ?_;refine zV lad ?_;refine zV lae ?_;refine zV lac ?_;refine zn ?_;refine zcF ?_;refine zsk ?_;refine zq ?_;refine zQ ?_;refine zV lak ?_;refine zV laj ?_;refine zV lac ?_;refine zn ?_;refine zaF ?_;refine zsk ?_;refine zq ?_;refine zRD ?_;refine zV (law (b := 1000) (by exact rfl) (by exact rfl) (by exact rfl) (by exact lau)) ?_;refine zV lak ?_;refine zV laj ?_;refine zV (lap _) ?_;refine zV lao ?_;refine zV laj ?_
    refine zY (las (hb) rfl (by refine ⟨_, _, rfl, (by exact LeU.of_eq rfl zo), (by exact Exists.intro _ rfl), ?_⟩;refine zC7 ?_;refine zC ?_;exact rfl) (by exact ⟨rfl, zo⟩) (by exact rfl) (by simp [namesL])) ?_
    refine zM lah ?_;refine zE laf ?_;refine znD ?_;refine zq ?_;refine zbl ?_;refine zQ ?_;refine zV (law (b := 1000) (by exact rfl) (by exact rfl) (by exact rfl) (by exact lau)) ?_;refine zV lag ?_;refine zV lad ?_;refine zV lad ?_;refine zV lae ?_;refine zV lac ?_;refine zV lab ?_;refine zn ?_;refine zcF ?_;refine zQ ?_;refine zV lak ?_;refine zV laj ?_;refine zV lac ?_;refine zV lab ?_;refine zn ?_;refine zaT ?_;refine zq ?_;refine zQ ?_;refine zV lad ?_;refine zV lae ?_;refine zV lac ?_;refine zV laa ?_;refine zI lad ?_;refine zI lae ?_;refine zI lac ?_;refine zV lax ?_;refine zn ?_;refine zcF ?_;refine zsk ?_;refine zQ ?_;refine zV lad ?_;refine zV lae ?_;refine zV lai ?_
    refine zY (loc_callF (us' := [.agg [.int .i64 w.seen.kind, .int .i64 w.seen.n, d2, .int .i64 tg2]]) (by exact rfl) hcl (by exact rfl) (by exact ⟨LeU.of_eq rfl zo, zo⟩) hap (by intro b hb; rw [List.mem_singleton.1 hb]; rfl) (by exact rfl) (by simp [namesL]) (by exact okW1) (by intro u hu; rw [List.mem_singleton.1 hu];exact allP_iff.1 ⟨zo, zo, closed_okC hd2, zo, zo⟩)) ?_
    refine zE laf ?_;refine zn ?_;refine zre ?_
    exact ret_th (.inr rfl) (by exact rfl) (by exact rfl) (wkRow_refl _) rfl (by exact rfl) (wkRow_refl _) (by exact ⟨zo, zo, closed_okC hc, zo, zo⟩) ok_aft
  | add hb h8 h4 hp hq =>
    rename_i p q F1 F2
    replace ha : ACalls _ _ _ _ (.agg [.int .i64 1, .int .i64 (p), .nilf, .int .i64 0]) [(1000, .obj (wOk g F1))] := ha
    replace hb : ACalls _ _ _ _ (.agg [.int .i64 1, .int .i64 (q), .nilf, .int .i64 0]) [(1000, .obj (wOk g F2))] := hb
    refine zY (las (ha) rfl (by refine ⟨_, _, rfl, (by exact LeU.of_eq rfl zo), (by exact Exists.intro _ rfl), ?_⟩;refine zC7 ?_;refine zC ?_;exact rfl) (by exact ⟨rfl, zo⟩) (by exact rfl) (by simp [namesL])) ?_
    refine zM lah ?_;refine zE laf ?_;refine znD ?_;refine zq ?_;refine zQ ?_;refine zV (law (b := 1000) (by exact rfl) (by exact rfl) (by exact rfl) (by exact lau)) ?_;refine zV lag ?_;refine zV lad ?_;refine zV lad ?_;refine zV lae ?_;refine zV lac ?_;refine zn ?_;refine zcF ?_;refine zsk ?_;refine zq ?_;refine zQ ?_;refine zV lak ?_;refine zV laj ?_;refine zV lac ?_;refine zn ?_;refine zaF ?_;refine zsk ?_;refine zq ?_;refine zRD ?_;refine zV (law (b := 1000) (by exact rfl) (by exact rfl) (by exact rfl) (by exact lau)) ?_;refine zV lak ?_;refine zV laj ?_;refine zV (lap _) ?_;refine zV lao ?_;refine zV laj ?_
    refine zY (las (hb) rfl (by refine ⟨_, _, rfl, (by exact LeU.of_eq rfl zo), (by exact Exists.intro _ rfl), ?_⟩;refine zC7 ?_;refine zC ?_;exact rfl) (by exact ⟨rfl, zo⟩) (by exact rfl) (by simp [namesL])) ?_
    refine zM lah ?_;refine zE laf ?_;refine znD ?_;refine zq ?_;refine zbl ?_;refine zQ ?_;refine zV (law (b := 1000) (by exact rfl) (by exact rfl) (by exact rfl) (by exact lau)) ?_;refine zV lag ?_;refine zV lad ?_;refine zV lad ?_;refine zV lae ?_;refine zV lac ?_;refine zV lab ?_;refine zn ?_;refine zcF ?_;refine zQ ?_;refine zV lak ?_;refine zV laj ?_;refine zV lac ?_;refine zV lab ?_;refine zn ?_;refine zaF ?_;refine zQ ?_;refine zV lad ?_;refine zV lae ?_;refine zV lac ?_;refine zV laa ?_;refine zI lad ?_;refine zI lae ?_;refine zI lac ?_;refine zV lax ?_;refine zV laa ?_;refine zI lad ?_;refine zI lae ?_;refine zI lac ?_;refine zV lax ?_;refine zV laa ?_;refine zI lad ?_;refine zI lae ?_;refine zI lac ?_;refine zV lax ?_;refine zV lab ?_;refine zn ?_;refine zcF ?_;refine zQ ?_;refine zV lak ?_;refine zV laj ?_;refine zV lac ?_;refine zV lab ?_;refine zn ?_;refine zaT ?_;refine zQ ?_;refine zV lad ?_;refine zV lae ?_;refine zV lad ?_;refine zV lae ?_;refine zV laI ?_
    refine zV (loc_max2 rfl rfl) ?_
    refine zV (loc_min2 rfl rfl) ?_
    refine zV laq ?_;refine zE laf ?_;refine zn ?_;refine zre ?_
    exact ret_th (k' := [.int .i64 1, .int .i64 (min (max (p + q) (-1000000)) 1000000), .nilf, .int .i64 0]) (m' := wOk g F2) (.inr rfl) (by exact rfl) (by exact rfl) (wkRow_refl _) rfl (by exact rfl) (wkRow_refl _) (by exact ⟨zo, zo, zo, zo, zo⟩) okW
  | lt hb h8 h4 hlt =>
    rename_i p q F1 F2
    replace ha : ACalls _ _ _ _ (.agg [.int .i64 1, .int .i64 (p), .nilf, .int .i64 0]) [(1000, .obj (wOk g F1))] := ha
    replace hb : ACalls _ _ _ _ (.agg [.int .i64 1, .int .i64 (q), .nilf, .int .i64 0]) [(1000, .obj (wOk g F2))] := hb
    refine zY (las (ha) rfl (by refine ⟨_, _, rfl, (by exact LeU.of_eq rfl zo), (by exact Exists.intro _ rfl), ?_⟩;refine zC7 ?_;refine zC ?_;exact rfl) (by exact ⟨rfl, zo⟩) (by exact rfl) (by simp [namesL])) ?_
    refine zM lah ?_;refine zE laf ?_;refine znD ?_;refine zq ?_;refine zQ ?_;refine zV (law (b := 1000) (by exact rfl) (by exact rfl) (by exact rfl) (by exact lau)) ?_;refine zV lag ?_;refine zV lad ?_;refine zV lad ?_;refine zV lae ?_;refine zV lac ?_;refine zn ?_;refine zcF ?_;refine zsk ?_;refine zq ?_;refine zQ ?_;refine zV lak ?_;refine zV laj ?_;refine zV lac ?_;refine zn ?_;refine zaF ?_;refine zsk ?_;refine zq ?_;refine zRD ?_;refine zV (law (b := 1000) (by exact rfl) (by exact rfl) (by exact rfl) (by exact lau)) ?_;refine zV lak ?_;refine zV laj ?_;refine zV (lap _) ?_;refine zV lao ?_;refine zV laj ?_
    refine zY (las (hb) rfl (by refine ⟨_, _, rfl, (by exact LeU.of_eq rfl zo), (by exact Exists.intro _ rfl), ?_⟩;refine zC7 ?_;refine zC ?_;exact rfl) (by exact ⟨rfl, zo⟩) (by exact rfl) (by simp [namesL])) ?_
    refine zM lah ?_;refine zE laf ?_;refine znD ?_;refine zq ?_;refine zbl ?_;refine zQ ?_;refine zV (law (b := 1000) (by exact rfl) (by exact rfl) (by exact rfl) (by exact lau)) ?_;refine zV lag ?_;refine zV lad ?_;refine zV lad ?_;refine zV lae ?_;refine zV lac ?_;refine zV lab ?_;refine zn ?_;refine zcF ?_;refine zQ ?_;refine zV lak ?_;refine zV laj ?_;refine zV lac ?_;refine zV lab ?_;refine zn ?_;refine zaF ?_;refine zQ ?_;refine zV lad ?_;refine zV lae ?_;refine zV lac ?_;refine zV laa ?_;refine zI lad ?_;refine zI lae ?_;refine zI lac ?_;refine zV lax ?_;refine zV laa ?_;refine zI lad ?_;refine zI lae ?_;refine zI lac ?_;refine zV lax ?_;refine zV laa ?_;refine zI lad ?_;refine zI lae ?_;refine zI lac ?_;refine zV lax ?_;refine zV lab ?_;refine zn ?_;refine zcF ?_;refine zQ ?_;refine zV lak ?_;refine zV laj ?_;refine zV lac ?_;refine zV lab ?_;refine zn ?_;refine zaF ?_;refine zQ ?_;refine zV lad ?_;refine zV lae ?_;refine zV lad ?_;refine zV lae ?_;refine zV lac ?_;refine zV lab ?_;refine zn ?_;refine zaT ?_;refine zQ ?_;refine zV laq ?_;refine zE laf ?_;refine zn ?_;refine zre ?_
    exact ret_th (k' := [.int .i64 2, .int .i64 1, .nilf, .int .i64 0]) (m' := wOk g F2) (.inr rfl) (by exact rfl) (by exact rfl) (wkRow_refl _) rfl (by exact rfl) (wkRow_refl _) (by exact ⟨zo, zo, zo, zo, zo⟩) okW
  | ge hb h8 h4 hlt =>
    rename_i p q F1 F2
    replace ha : ACalls _ _ _ _ (.agg [.int .i64 1, .int .i64 (p), .nilf, .int .i64 0]) [(1000, .obj (wOk g F1))] := ha
    replace hb : ACalls _ _ _ _ (.agg [.int .i64 1, .int .i64 (q), .nilf, .int .i64 0]) [(1000, .obj (wOk g F2))] := hb
    refine zY (las (ha) rfl (by refine ⟨_, _, rfl, (by exact LeU.of_eq rfl zo), (by exact Exists.intro _ rfl), ?_⟩;refine zC7 ?_;refine zC ?_;exact rfl) (by exact ⟨rfl, zo⟩) (by exact rfl) (by simp [namesL])) ?_
    refine zM lah ?_;refine zE laf ?_;refine znD ?_;refine zq ?_;refine zQ ?_;refine zV (law (b := 1000) (by exact rfl) (by exact rfl) (by exact rfl) (by exact lau)) ?_;refine zV lag ?_;refine zV lad ?_;refine zV lad ?_;refine zV lae ?_;refine zV lac ?_;refine zn ?_;refine zcF ?_;refine zsk ?_;refine zq ?_;refine zQ ?_;refine zV lak ?_;refine zV laj ?_;refine zV lac ?_;refine zn ?_;refine zaF ?_;refine zsk ?_;refine zq ?_;refine zRD ?_;refine zV (law (b := 1000) (by exact rfl) (by exact rfl) (by exact rfl) (by exact lau)) ?_;refine zV lak ?_;refine zV laj ?_;refine zV (lap _) ?_;refine zV lao ?_;refine zV laj ?_
    refine zY (las (hb) rfl (by refine ⟨_, _, rfl, (by exact LeU.of_eq rfl zo), (by exact Exists.intro _ rfl), ?_⟩;refine zC7 ?_;refine zC ?_;exact rfl) (by exact ⟨rfl, zo⟩) (by exact rfl) (by simp [namesL])) ?_
    refine zM lah ?_;refine zE laf ?_;refine znD ?_;refine zq ?_;refine zbl ?_;refine zQ ?_;refine zV (law (b := 1000) (by exact rfl) (by exact rfl) (by exact rfl) (by exact lau)) ?_;refine zV lag ?_;refine zV lad ?_;refine zV lad ?_;refine zV lae ?_;refine zV lac ?_;refine zV lab ?_;refine zn ?_;refine zcF ?_;refine zQ ?_;refine zV lak ?_;refine zV laj ?_;refine zV lac ?_;refine zV lab ?_;refine zn ?_;refine zaF ?_;refine zQ ?_;refine zV lad ?_;refine zV lae ?_;refine zV lac ?_;refine zV laa ?_;refine zI lad ?_;refine zI lae ?_;refine zI lac ?_;refine zV lax ?_;refine zV laa ?_;refine zI lad ?_;refine zI lae ?_;refine zI lac ?_;refine zV lax ?_;refine zV laa ?_;refine zI lad ?_;refine zI lae ?_;refine zI lac ?_;refine zV lax ?_;refine zV lab ?_;refine zn ?_;refine zcF ?_;refine zQ ?_;refine zV lak ?_;refine zV laj ?_;refine zV lac ?_;refine zV lab ?_;refine zn ?_;refine zaF ?_;refine zQ ?_;refine zV lad ?_;refine zV lae ?_;refine zV lad ?_;refine zV lae ?_;refine zV lac ?_;refine zV lab ?_;refine zn ?_;refine zaF ?_;refine zsk ?_;refine zQ ?_;refine zV laq ?_;refine zE laf ?_;refine zn ?_;refine zre ?_
    exact ret_th (k' := [.int .i64 2, .int .i64 0, .nilf, .int .i64 0]) (m' := wOk g F2) (.inr rfl) (by exact rfl) (by exact rfl) (wkRow_refl _) rfl (by exact rfl) (wkRow_refl _) (by exact ⟨zo, zo, zo, zo, zo⟩) okW
end
end Go.Proofs.YtnflnbdlgdjfmabGreatDoor
namespace Go.Proofs.YtnflnbdlgdjfmabGreatDoor
open Go.RowKit
set_option linter.unusedVariables false
set_option linter.unusedSimpArgs false
set_option maxRecDepth 100000
attribute [local irreducible] RunL AW LocOp ACalls Gh
def ApA (g : Nat) (f x : V) (F : Nat) (r : Res) : Prop := ∃ (fid : FuncId) (caps : List U), V.th g f = [.int .i64 3, .int .i64 0, cloOf fid caps, .int .i64 0] ∧ capsOk caps = true ∧ ACalls Tryz.prog fid (.agg (V.th g x) :: caps) [(1000, .obj (wOk g F))] (.agg (resC g r)) [(1000, .obj (wAft g r))]
section
variable (g F : Nat)
set_option maxHeartbeats 2000000 in
theorem apa_clo0 (b : Tm) (env : List V) (x : V) : ApA g (.clo b env) x 0 (.out .fuel) := by
  refine ⟨71, [wHeld g, .one (fpo (bodyC b) 0), .one (fpo [slOf 4 (thRows g env)] 0)], by simp only [V.th], rfl, ?_⟩
  obtain ⟨c, hc, tg, e⟩ := th_cells g x
  rw [e]
  show ACalls _ _ _ _ (.agg th0) [(1000, .obj (wEnd g .fuel))]
  refine acalls_of_body Tryz.func71 rfl (by kernel_rfl) (Nat.le_of_ble_eq_true rfl) (by exact ⟨⟨rfl, zo⟩, zo⟩) (by simp [namesL]) ?_
  refine zQ ?_;refine zM lan ?_;refine zM lah ?_;refine zn ?_;refine zq ?_;refine zQ ?_;refine zV (law (b := 1000) (by exact rfl) (by exact rfl) (by exact rfl) (by exact lau)) ?_;refine zV lag ?_;refine zV lad ?_;refine zV lae ?_;refine zV lac ?_;refine zn ?_;refine zcT ?_;refine zQ ?_;refine zV (law (b := 1000) (by exact rfl) (by exact rfl) (by exact rfl) (by exact lau)) ?_;refine zV laq ?_
  refine zY (las (over_a g 0 .fuel) rfl (by refine ⟨_, _, rfl, (by exact LeU.of_eq rfl zo), (by exact Exists.intro _ rfl), ?_⟩;refine ⟨_, _, rfl, (by exact LeU.of_eq rfl zo), (by exact ⟨zo, zo, zo, zo⟩), ?_⟩;exact rfl) (by exact ⟨rfl, zo⟩) (by exact rfl) (by simp [namesL])) ?_
  refine zE laf ?_;refine zn ?_;refine zre ?_
  exact ret_th (.inr rfl) (by exact rfl) (by exact rfl) (wkRow_refl _) rfl (by exact rfl) (wkRow_refl _) okT0 okE
set_option maxHeartbeats 2000000 in
theorem apa_clo (b : Tm) (env : List V) (x : V) {r : Res} (hF : F ≤ 1000000) (hl : env.length ≤ 1000000) (hb : EvA g b (x :: env) F r) : ApA g (.clo b env) x (F + 1) r := by
  refine ⟨71, [wHeld g, .one (fpo (bodyC b) 0), .one (fpo [slOf 4 (thRows g env)] 0)], by simp only [V.th], rfl, ?_⟩
  obtain ⟨c, hc, tg, e⟩ := th_cells g x
  obtain ⟨k', n', d', tg', hd, e'⟩ := res_cells g r
  have hr1 : (tmRows [b])[0]? = some b.c := by simp [tmRows, Tm.cells_c]
  have hcl : closedRows [V.th g x] = true := by simp only [closedRows, th_closed, Bool.and_self]
  have hg0 : ((((F + 1 : Nat)) : Int) == 0) = false := by simp; omega
  have hg1 : (((F + 1 : Nat)) : Int) - 1 = (F : Nat) := by omega
  have h4 : ∀ r ∈ thRows g env, r.length = 4 := fun r hr => by
    rw [thRows_map] at hr
    obtain ⟨v, _, rfl⟩ := List.mem_map.1 hr
    exact th_len g v
  have hn := thRows_length g env
  unfold EvA at hb
  rw [show thRows g (x :: env) = V.th g x :: thRows g env by simp only [thRows]] at hb
  rw [e] at hb hcl ⊢
  rw [e'] at hb ⊢
  refine acalls_of_body Tryz.func71 rfl (by kernel_rfl) (Nat.le_of_ble_eq_true rfl) (by exact ⟨⟨rfl, zo⟩, zo⟩) (by simp [namesL]) ?_
  refine zQ ?_;refine zM lan ?_;refine zM lah ?_;refine zn ?_;refine zq ?_;refine zQ ?_;refine zV (law (b := 1000) (by exact rfl) (by exact rfl) (by exact rfl) (by exact lau)) ?_;refine zV lag ?_;refine zV lad ?_;refine zV lae ?_;refine zV lac ?_;refine zn ?_;refine zcF ?_;refine zsk ?_;refine zQ ?_;refine zV (law (b := 1000) (by exact rfl) (by exact rfl) (by exact rfl) (by exact lau)) ?_;refine zV lag ?_;refine zV lad ?_;refine zV lae ?_;refine zV laJ ?_;refine zV lag ?_;refine zV lad ?_;refine zE lav ?_;refine zn ?_;refine zq ?_;refine zRD ?_;refine zV (law (b := 1000) (by exact rfl) (by exact rfl) (by exact rfl) (by exact List.mem_cons_of_mem _ (List.mem_cons_of_mem _ (List.mem_cons_of_mem _ (List.mem_cons_self ..))))) ?_;refine zV lak ?_;refine zV laj ?_;refine zV (lap _) ?_;refine zV lao ?_;refine zV lai ?_
  refine zV (laF (rows := [[.int .i64 x.seen.kind, .int .i64 x.seen.n, c, .int .i64 tg]]) (by exact rfl) (by exact rfl) (by decide) (by decide) (by exact RowsOf.cons (by exact rfl) RowsOf.nil) (by exact AllP.cons (by exact rfl) AllP.nil) hcl) ?_
  refine zV laj ?_
  rw [hg1]
  refine zV (loc_appendF (by exact rfl) (by exact rfl) (by exact .inl rfl) (by exact .inr (.inl rfl)) h4 (by intro r hr; rw [List.mem_singleton.1 hr]; rfl) (by rw [hn]; simp only [List.length_cons, List.length_nil]; unfold maxLen; omega) (by rw [hn]; simp only [List.length_cons, List.length_nil]; omega)) ?_
  refine zY (las (hb) rfl (by refine ⟨_, _, rfl, (by exact LeU.of_eq rfl zo), (by exact Exists.intro _ rfl), ?_⟩;refine zC7 ?_;refine zC ?_;exact rfl) (by exact ⟨rfl, zo⟩) (by exact rfl) (by simp [namesL])) ?_
  refine zE laf ?_;refine znD ?_;refine zre ?_
  exact ret_th (.inr rfl) (by exact rfl) (by exact rfl) (wkRow_refl _) rfl (by exact rfl) (wkRow_refl _) (by exact ⟨zo, zo, closed_okC hd, zo, zo⟩) ok_aft
variable {u : V} {f1 t1 : Ty} {at' : Int} {back : Bool}
inductive WrapC (g : Nat) (u : V) (f1 t1 : Ty) (at' : Int) (back : Bool) : Res → Res → Prop
  | o {o : Out} (ho : (o.kind != 0) = true) : WrapC g u f1 t1 at' back (.out o) (.out o)
  | p {y : V} {F : Nat} {o : Out} (ho : (o.kind != 0) = true) (hap : ApA g u y F (.out o)) : WrapC g u f1 t1 at' back (.ok y F) (.out o)
  | w {y z : V} {F F2 : Nat} {r : Res} (hap : ApA g u y F (.ok z F2)) (hca : ACalls Tryz.prog 73 [.one (.ptr 1000 0), .agg (V.th g z), Ty.u (f1), Ty.u (t1), .one (.int .i64 at'), .one (.bool (back))] [(1000, .obj (wOk g F2))] (.agg (resC g r)) [(1000, .obj (wAft g r))]) : WrapC g u f1 t1 at' back (.ok y F) r
set_option maxHeartbeats 4000000 in
theorem apa_wrap {kf kt : Int} {f0 t0 : Ty} (x : V) {r1 r : Res} (hc1 : ACalls Tryz.prog 73 [.one (.ptr 1000 0), .agg (V.th g x), Ty.u (t0), Ty.u (f0), .one (.int .i64 at'), .one (.bool (!back))] [(1000, .obj (wOk g F))] (.agg (resC g r1)) [(1000, .obj (wAft g r1))]) (hC : WrapC g u f1 t1 at' back r1 r) : ApA g (.wrap u (.mk kf [f0, f1]) (.mk kt [t0, t1]) at' back) x F r := by
  refine ⟨106, [wHeld g, .one (fpo (Ty.mk kt [t0, t1]).c 0), .one (fpo (Ty.mk kf [f0, f1]).c 0), .one (fpo [.int .i64 at'] 0), .one (fpo [.bool back] 0), .one (fpo (V.th g u) 0)], by simp only [V.th], by simp only [capsOk, capOk, wHeld, Bool.and_true, Bool.and_eq_true];exact ⟨rfl, rfl, rfl, rfl, rfl, rfl⟩, ?_⟩
  obtain ⟨c, hc, tg, e⟩ := th_cells g x
  obtain ⟨cu, hcu, tgu, eu⟩ := th_cells g u
  have ht0 : (tyRows [t0, t1])[0]? = some t0.c := by simp [tyRows, Ty.cells_c]
  have ht1 : (tyRows [t0, t1])[1]? = some t1.c := by simp [tyRows, Ty.cells_c]
  have hf0 : (tyRows [f0, f1])[0]? = some f0.c := by simp [tyRows, Ty.cells_c]
  have hf1 : (tyRows [f0, f1])[1]? = some f1.c := by simp [tyRows, Ty.cells_c]
  rw [e] at hc1 ⊢
  cases hC with
  | o ho =>
    rename_i o
    replace hc1 : ACalls _ _ _ _ (.agg th0) [(1000, .obj (wEnd g o))] := hc1
    show ACalls _ _ _ _ (.agg th0) [(1000, .obj (wEnd g o))]
    rw [eu]
    refine acalls_of_body Tryz.func106 rfl (by kernel_rfl) (Nat.le_of_ble_eq_true rfl) (by exact ⟨⟨rfl, zo⟩, zo⟩) (by simp [namesL]) ?_
    refine zQ ?_;refine zM lan ?_;refine zM lah ?_;refine zn ?_;refine zq ?_;refine zRD ?_;refine zV (law (b := 1000) (by exact rfl) (by exact rfl) (by exact rfl) (by exact lau)) ?_;refine zV lai ?_;refine zV lak ?_;refine zV laj ?_;refine zV (lap _) ?_;refine zV lao ?_;refine zV lak ?_;refine zV laj ?_;refine zV (lap _) ?_;refine zV lao ?_;refine zV laj ?_;refine zV laj ?_;refine zV laz ?_
    refine zY (las (hc1) rfl (by refine ⟨_, _, rfl, (by exact LeU.of_eq rfl zo), (by exact Exists.intro _ rfl), ?_⟩;refine ⟨_, _, rfl, (by exact LeU.of_eq rfl zo), (by (exact ⟨zo, zo, closed_okC (by assumption), zo, zo⟩; done)), ?_⟩;refine zC2 ?_;refine zC2 ?_;refine zC ?_;refine zC ?_;exact rfl) (by exact ⟨rfl, zo⟩) (by exact rfl) (by simp [namesL])) ?_
    refine zM lah ?_;refine zE laf ?_;refine znD ?_;refine zq ?_;refine zQ ?_;refine zV (law (b := 1000) (by exact rfl) (by exact rfl) (by exact rfl) (by exact laQ)) ?_;refine zV lag ?_;refine zV lad ?_;refine zV lad ?_;refine zV lae ?_;refine zV lac ?_;refine zn ?_;refine zaT ?_;refine zQ ?_;refine zV laq ?_;refine zE laf ?_;refine zn ?_;refine zre ?_
    exact ret_th (.inr rfl) (by exact rfl) (by exact rfl) (wkRow_refl _) rfl (by exact rfl) (wkRow_refl _) okT0 okE
  | p ho hap =>
    rename_i y F1 o
    obtain ⟨fid, caps, eu, hcl, hap⟩ := hap
    obtain ⟨d, hd, tg', e'⟩ := th_cells g y
    replace hc1 : ACalls _ _ _ _ (.agg (V.th g y)) [(1000, .obj (wOk g F1))] := hc1
    replace hap : ACalls _ _ _ _ (.agg th0) [(1000, .obj (wEnd g o))] := hap
    rw [e'] at hc1 hap
    show ACalls _ _ _ _ (.agg th0) [(1000, .obj (wEnd g o))]
    rw [eu]
    refine acalls_of_body Tryz.func106 rfl (by kernel_rfl) (Nat.le_of_ble_eq_true rfl) (by exact ⟨⟨rfl, zo⟩, zo⟩) (by simp [namesL]) ?_
    refine zQ ?_;refine zM lan ?_;refine zM lah ?_;refine zn ?_;refine zq ?_;refine zRD ?_;refine zV (law (b := 1000) (by exact rfl) (by exact rfl) (by exact rfl) (by exact lau)) ?_;refine zV lai ?_;refine zV lak ?_;refine zV laj ?_;refine zV (lap _) ?_;refine zV lao ?_;refine zV lak ?_;refine zV laj ?_;refine zV (lap _) ?_;refine zV lao ?_;refine zV laj ?_;refine zV laj ?_;refine zV laz ?_
    refine zY (las (hc1) rfl (by refine ⟨_, _, rfl, (by exact LeU.of_eq rfl zo), (by exact Exists.intro _ rfl), ?_⟩;refine ⟨_, _, rfl, (by exact LeU.of_eq rfl zo), (by (exact ⟨zo, zo, closed_okC (by assumption), zo, zo⟩; done)), ?_⟩;refine zC2 ?_;refine zC2 ?_;refine zC ?_;refine zC ?_;exact rfl) (by exact ⟨rfl, zo⟩) (by exact rfl) (by simp [namesL])) ?_
    refine zM lah ?_;refine zE laf ?_;refine znD ?_;refine zq ?_;refine zQ ?_;refine zV (law (b := 1000) (by exact rfl) (by exact rfl) (by exact rfl) (by exact lau)) ?_;refine zV lag ?_;refine zV lad ?_;refine zV lad ?_;refine zV lae ?_;refine zV lac ?_;refine zn ?_;refine zcF ?_;refine zsk ?_;refine zQ ?_;refine zV lak ?_;refine zV laj ?_;refine zV lai ?_
    refine zY (loc_callF (us' := [.agg [.int .i64 y.seen.kind, .int .i64 y.seen.n, d, .int .i64 tg']]) (by exact rfl) hcl (by exact rfl) (by exact ⟨LeU.of_eq rfl zo, zo⟩) hap (by intro b hb; rw [List.mem_singleton.1 hb]; rfl) (by exact rfl) (by simp [namesL]) (by exact okW1) (by intro u hu; rw [List.mem_singleton.1 hu];exact allP_iff.1 ⟨zo, zo, closed_okC hd, zo, zo⟩)) ?_
    refine zM lah ?_;refine zE laf ?_;refine zn ?_;refine zq ?_;refine zQ ?_;refine zV (law (b := 1000) (by exact rfl) (by exact rfl) (by exact rfl) (by exact laQ)) ?_;refine zV lag ?_;refine zV lad ?_;refine zV lad ?_;refine zV lae ?_;refine zV lac ?_;refine zn ?_;refine zaT ?_;refine zQ ?_;refine zV laq ?_;refine zE laf ?_;refine zn ?_;refine zre ?_
    exact ret_th (.inr rfl) (by exact rfl) (by exact rfl) (wkRow_refl _) rfl (by exact rfl) (wkRow_refl _) okT0 okE
  | w hap hca =>
    rename_i y z F1 F2
    obtain ⟨fid, caps, eu, hcl, hap⟩ := hap
    obtain ⟨d, hd, tg', e'⟩ := th_cells g y
    obtain ⟨d2, hd2, tg2, e2⟩ := th_cells g z
    obtain ⟨k', n', d', tg3, hc, e3⟩ := res_cells g r
    replace hc1 : ACalls _ _ _ _ (.agg (V.th g y)) [(1000, .obj (wOk g F1))] := hc1
    replace hap : ACalls _ _ _ _ (.agg (V.th g z)) [(1000, .obj (wOk g F2))] := hap
    rw [e'] at hc1 hap
    rw [e2] at hap hca
    rw [e3] at hca ⊢
    rw [eu]
    refine acalls_of_body Tryz.func106 rfl (by kernel_rfl) (Nat.le_of_ble_eq_true rfl) (by exact ⟨⟨rfl, zo⟩, zo⟩) (by simp [namesL]) ?_
    refine zQ ?_;refine zM lan ?_;refine zM lah ?_;refine zn ?_;refine zq ?_;refine zRD ?_;refine zV (law (b := 1000) (by exact rfl) (by exact rfl) (by exact rfl) (by exact lau)) ?_;refine zV lai ?_;refine zV lak ?_;refine zV laj ?_;refine zV (lap _) ?_;refine zV lao ?_;refine zV lak ?_;refine zV laj ?_;refine zV (lap _) ?_;refine zV lao ?_;refine zV laj ?_;refine zV laj ?_;refine zV laz ?_
    refine zY (las (hc1) rfl (by refine ⟨_, _, rfl, (by exact LeU.of_eq rfl zo), (by exact Exists.intro _ rfl), ?_⟩;refine ⟨_, _, rfl, (by exact LeU.of_eq rfl zo), (by (exact ⟨zo, zo, closed_okC (by assumption), zo, zo⟩; done)), ?_⟩;refine zC2 ?_;refine zC2 ?_;refine zC ?_;refine zC ?_;exact rfl) (by exact ⟨rfl, zo⟩) (by exact rfl) (by simp [namesL])) ?_
    refine zM lah ?_;refine zE laf ?_;refine znD ?_;refine zq ?_;refine zQ ?_;refine zV (law (b := 1000) (by exact rfl) (by exact rfl) (by exact rfl) (by exact lau)) ?_;refine zV lag ?_;refine zV lad ?_;refine zV lad ?_;refine zV lae ?_;refine zV lac ?_;refine zn ?_;refine zcF ?_;refine zsk ?_;refine zQ ?_;refine zV lak ?_;refine zV laj ?_;refine zV lai ?_
    refine zY (loc_callF (us' := [.agg [.int .i64 y.seen.kind, .int .i64 y.seen.n, d, .int .i64 tg']]) (by exact rfl) hcl (by exact rfl) (by exact ⟨LeU.of_eq rfl zo, zo⟩) hap (by intro b hb; rw [List.mem_singleton.1 hb]; rfl) (by exact rfl) (by simp [namesL]) (by exact okW1) (by intro u hu; rw [List.mem_singleton.1 hu];exact allP_iff.1 ⟨zo, zo, closed_okC hd, zo, zo⟩)) ?_
    refine zM lah ?_;refine zE laf ?_;refine zn ?_;refine zq ?_;refine zQ ?_;refine zV (law (b := 1000) (by exact rfl) (by exact rfl) (by exact rfl) (by exact lau)) ?_;refine zV lag ?_;refine zV lad ?_;refine zV lad ?_;refine zV lae ?_;refine zV lac ?_;refine zn ?_;refine zcF ?_;refine zsk ?_;refine zq ?_;refine zRD ?_;refine zV (law (b := 1000) (by exact rfl) (by exact rfl) (by exact rfl) (by exact lau)) ?_;refine zV lai ?_;refine zV lak ?_;refine zV laj ?_;refine zV (lap _) ?_;refine zV lao ?_;refine zV lak ?_;refine zV laj ?_;refine zV (lap _) ?_;refine zV lao ?_;refine zV laj ?_;refine zV laj ?_
    refine zY (las (hca) rfl (by refine ⟨_, _, rfl, (by exact LeU.of_eq rfl zo), (by exact Exists.intro _ rfl), ?_⟩;refine ⟨_, _, rfl, (by exact LeU.of_eq rfl zo), (by (exact ⟨zo, zo, closed_okC (by assumption), zo, zo⟩; done)), ?_⟩;refine zC2 ?_;refine zC2 ?_;refine zC ?_;refine zC ?_;exact rfl) (by exact ⟨rfl, zo⟩) (by exact rfl) (by simp [namesL])) ?_
    refine zE laf ?_;refine znD ?_;refine zre ?_
    exact ret_th (.inr rfl) (by exact rfl) (by exact rfl) (wkRow_refl _) rfl (by exact rfl) (wkRow_refl _) (by exact ⟨zo, zo, closed_okC hc, zo, zo⟩) ok_aft
end
end Go.Proofs.YtnflnbdlgdjfmabGreatDoor
namespace Go.Proofs.YtnflnbdlgdjfmabGreatDoor
open Go.RowKit
set_option linter.unusedVariables false
theorem castV_o {v : V} {f t : Ty} {at' : Int} {back : Bool} {o : Out} (h : castV v f t at' back = .inr o) : (o.kind != 0) = true := by
  unfold castV at h
  split at h
  · cases h
  split at h
  · cases h
  split at h
  · cases h
  split at h
  · split at h
    · split at h
      · split at h
        · cases h
        · split at h
          · cases h
          · cases h; rfl
      · cases h; rfl
    · cases h; rfl
  · cases h; rfl
theorem twoV_s {k : Int} {v w : V} {o : Out} (h : twoV k v w = some (.inr o)) : o = .stuck := by
  unfold twoV at h
  split at h
  · split at h <;> cases h
  · cases h; rfl
  · cases h; rfl
theorem ev_o {c : Cmd} {F : Nat} {r : Res} (h : Ev c F r) : ∀ o, r = .out o → (o.kind != 0) = true := by
  have hR : ∀ {v : V} {f t : Ty} {at' : Int} {back : Bool} {F : Nat} (o : Out), castR v f t at' back F = .out o → (o.kind != 0) = true := fun {v f t at' back F} o h => by
    unfold castR at h
    cases hc : castV v f t at' back with
    | inl u => rw [hc] at h; cases h
    | inr o' => rw [hc] at h; cases h; exact castV_o hc
  induction h with
  | ref _ => intro o h; cases h
  | refS _ => intro o h; cases h; rfl
  | lit => intro o h; cases h
  | says => intro o h; cases h
  | fn => intro o h; cases h
  | asc _ ih => exact ih
  | castO _ ih => exact ih
  | cast _ _ => exact hR
  | ifO _ ih => exact ih
  | ifS _ _ _ => intro o h; cases h; rfl
  | ifT _ _ _ ih => exact ih
  | ifF _ _ _ ih => exact ih
  | binO _ _ ih => exact ih
  | binP _ _ _ _ ih => exact ih
  | twoV _ _ _ _ _ _ => intro o h; cases h
  | twoO _ _ _ h _ _ => intro o h'; cases h'; rw [twoV_s h]; rfl
  | call _ _ _ _ _ ih => exact ih
  | clo0 => intro o h; cases h; rfl
  | clo _ ih => exact ih
  | wrapO hc => intro o h; cases h; exact castV_o hc
  | wrapP _ _ ih => exact ih
  | wrap _ _ _ => exact hR
  | apN => intro o h; cases h; rfl
  | apT => intro o h; cases h; rfl
  | apG => intro o h; cases h; rfl
theorem ct_stuck {c : Cmd} {F : Nat} (h : Ev c F (.out .stuck)) (hi : IC c) : NC' c := by
  rcases hi with ⟨τ, ht⟩ | h'
  · rcases ev_rt h τ ht with h | ⟨n, b, h⟩
    · simp [Out.stuck, Out.fuel] at h
    · simp [Out.stuck, Out.blame] at h
  · exact h'
theorem ic1 {k n : Int} {t f : Ty} {b : Tm} {env : List V} (hk : k ≠ 7) (h : IC (.tm (.mk k n t f [b]) env)) : IC (.tm b env) := by
  rcases h with ⟨τ, Γ, he, ht⟩ | ⟨hc, he, hn⟩
  · cases ht with
    | fn _ => exact absurd rfl hk
    | asc h => exact .inl ⟨_, Γ, he, h⟩
    | cast _ _ _ h => exact .inl ⟨_, Γ, he, h⟩
  · by_cases h10 : k = 10
    · subst h10; exact (cc_ten hc).elim
    · rw [cc1 h10] at hc; rw [nd1] at hn; exact .inr ⟨hc, he, by omega⟩
theorem ic2 {k n : Int} {t f : Ty} {a b : Tm} {env : List V} (h : IC (.tm (.mk k n t f [a, b]) env)) : IC (.tm a env) ∧ IC (.tm b env) := by
  rcases h with ⟨τ, Γ, he, ht⟩ | ⟨hc, he, hn⟩
  · cases ht with
    | add ha hb => exact ⟨.inl ⟨_, Γ, he, ha⟩, .inl ⟨_, Γ, he, hb⟩⟩
    | less ha hb => exact ⟨.inl ⟨_, Γ, he, ha⟩, .inl ⟨_, Γ, he, hb⟩⟩
    | call ha hb => exact ⟨.inl ⟨_, Γ, he, ha⟩, .inl ⟨_, Γ, he, hb⟩⟩
  · by_cases h10 : k = 10
    · subst h10; exact (cc_ten hc).elim
    · rw [cc2 h10] at hc; rw [nd2] at hn; exact ⟨.inr ⟨by omega, he, by omega⟩, .inr ⟨by omega, he, by omega⟩⟩
theorem ic3 {k n : Int} {t f : Ty} {a b c : Tm} {env : List V} (h : IC (.tm (.mk k n t f [a, b, c]) env)) : IC (.tm a env) ∧ IC (.tm b env) ∧ IC (.tm c env) := by
  rcases h with ⟨τ, Γ, he, ht⟩ | ⟨hc, he, hn⟩
  · cases ht with
    | ife ha hb hc => exact ⟨.inl ⟨_, Γ, he, ha⟩, .inl ⟨_, Γ, he, hb⟩, .inl ⟨_, Γ, he, hc⟩⟩
  · by_cases h10 : k = 10
    · subst h10; exact (cc_ten hc).elim
    · rw [cc3 h10] at hc; rw [nd3] at hn; exact ⟨.inr ⟨by omega, he, by omega⟩, .inr ⟨by omega, he, by omega⟩, .inr ⟨by omega, he, by omega⟩⟩
theorem ic_ap {n : Int} {t f : Ty} {a b : Tm} {env : List V} {v w : V} {F F1 F2 F3 : Nat} (h : IC (.tm (.mk 8 n t f [a, b]) env)) (ha : Ev (.tm a env) F (.ok v F1)) (hb : Ev (.tm b env) F2 (.ok w F3)) : IC (.ap v w) := by
  rcases h with ⟨τ, Γ, he, ht⟩ | ⟨hc, he, hn⟩
  · cases ht with
    | call h1 h2 => exact .inl ⟨τ, _, ev_rt ha _ ⟨Γ, he, h1⟩, ev_rt hb _ ⟨Γ, he, h2⟩⟩
  · rw [cc2 (by decide)] at hc; rw [nd2] at hn
    exact .inr ⟨ev_nr ha ⟨by omega, he, by omega⟩, ev_nr hb ⟨by omega, he, by omega⟩⟩
theorem ic_clo {b : Tm} {env : List V} {x : V} (h : IC (.ap (.clo b env) x)) : IC (.tm b (x :: env)) := by
  rcases h with ⟨τ, σ, hf, hx⟩ | ⟨hf, hx⟩
  · cases hf with | clo hl he hb => exact .inl ⟨_, _, EnvT.cons ⟨hl, he⟩ hx, hb⟩
  · cases hf with
    | clo he hc hn =>
      refine .inr ⟨hc, fun v hv => ?_, hn⟩
      rcases List.mem_cons.1 hv with rfl | hv
      · exact hx
      · exact he v hv
theorem vn_th {g : Nat} {v : V} (h : VN v) : ∃ d, closedC d = true ∧ V.th g v = [.int .i64 v.seen.kind, .int .i64 v.seen.n, d, .int .i64 0] := by
  cases h with
  | num => exact ⟨_, rfl, rfl⟩
  | tru => exact ⟨_, rfl, rfl⟩
  | clo _ _ _ => exact ⟨_, rfl, rfl⟩
def V.isFn : V → Bool
  | .clo _ _ => true
  | .wrap _ _ _ _ _ => true
  | _ => false
theorem vt_fn {v : V} {σ τ : Ty} (h : VT v (.to σ τ)) : v.isFn = true := by cases h <;> rfl
def CA (g : Nat) : Cmd → Nat → Res → Prop
  | .tm t env, F, r => EvA g t env F r
  | .ap f x, F, r => (f.isFn = true → ApA g f x F r) ∧ (f.isFn = false → r = .out .stuck)
theorem castR_inl {v u : V} {f t : Ty} {at' : Int} {back : Bool} {F : Nat} (h : castV v f t at' back = .inl u) : castR v f t at' back F = .ok u F := by unfold castR; rw [h]
theorem castR_inr {v : V} {f t : Ty} {at' : Int} {back : Bool} {F : Nat} {o : Out} (h : castV v f t at' back = .inr o) : castR v f t at' back F = .out o := by unfold castR; rw [h]
theorem wrap_fn {g F : Nat} {x u : V} {f0 f1 t0 t1 : Ty} {kf kt at' : Int} {back : Bool} (h : IC (.ap (.wrap u (.mk kf [f0, f1]) (.mk kt [t0, t1]) at' back) x)) : kf = 3 ∧ kt = 3 ∧ Right f0 ∧ Right f1 ∧ Right t0 ∧ Right t1 ∧ f1.fits t1 = true ∧ VT u (.to f0 f1) ∧ t0.fits f0 = true ∧ VT x t0 := by
  rcases h with ⟨τ, σ, hf, hx⟩ | ⟨hf, _⟩
  · cases hf with | wrap h0 h1 h2 h3 g0 g1 hv => exact ⟨rfl, rfl, h0, h1, h2, h3, g1, hv, fits_comm ▸ g0, hx⟩
  · cases hf
theorem wrap_next {x y u : V} {f0 f1 t0 t1 : Ty} {at' : Int} {back b : Bool} (hx : VT x t0) (h2 : Right t0) (h0 : Right f0) (hf : t0.fits f0 = true) (hu : VT u (.to f0 f1)) (hc : GC (.ap (.wrap u (.mk 3 [f0, f1]) (.mk 3 [t0, t1]) at' back) x)) (h : castV x t0 f0 at' b = .inl y) : GC (.ap u y) ∧ VT y f0 := by
  refine ⟨⟨?_, castV_g hc.2 h2 h0 h⟩, ?_⟩
  · cases hc.1 with | wrap _ _ _ _ hv => exact hv
  · rcases castV_vt (at' := at') (back := b) hx h2 h0 hf with ⟨u, h4, h5⟩ | h4
    · rw [h] at h4; cases h4; exact h5
    · rw [h] at h4; cases h4
theorem ev_a {c : Cmd} {F : Nat} {r : Res} (g : Nat) (h : Ev c F r) : GC c → IC c → F ≤ 1000000 → CA g c F r := by
  induction h with
  | ref hv =>
    intro hc hi hF
    cases hc.1 with
    | ref h0 => obtain ⟨m, rfl⟩ := Int.eq_ofNat_of_zero_le h0; exact eva_ref g _ _ _ _ _ hv
    | bin hk _ _ => omega
  | refS hv =>
    intro hc hi hF
    cases hc.1 with
    | ref h0 => obtain ⟨m, rfl⟩ := Int.eq_ofNat_of_zero_le h0; exact eva_refS g _ _ _ _ _ hv
    | bin hk _ _ => omega
  | lit => intro hc hi hF; exact eva_lit g _ _ _ _ _ _
  | says => intro hc hi hF; exact eva_says g _ _ _ _ _ _
  | fn =>
    intro hc hi hF
    cases hc.1 with
    | fn _ => exact eva_fn g _ _ _ _ _ _
    | bin hk _ _ => omega
  | asc _ ih =>
    intro hc hi hF
    cases hc.1 with
    | asc _ => exact eva_as g _ _ _ _ _ _ (ih hc.head (ic1 (by decide) hi) hF)
    | bin hk _ _ => omega
  | castO h ih =>
    intro hc hi hF
    cases hc.1 with
    | cast _ _ _ => exact eva_castO g _ _ _ _ _ _ (ev_o h _ rfl) (ih hc.head (ic1 (by decide) hi) hF)
    | bin hk _ _ => omega
  | cast h ih =>
    intro hc hi hF
    cases hc.1 with
    | cast ht hf _ =>
      refine eva_cast g _ _ _ _ _ _ (ih hc.head (ic1 (by decide) hi) hF) ?_
      rcases hi with ⟨τ, Γ, he, hT⟩ | ⟨hc, _, _⟩
      · cases hT with
        | cast ht hf hs hb => exact rcast_a g _ _ _ _ _ (ev_rt h _ ⟨Γ, he, hb⟩) hf ht hs
      · exact (cc_ten hc).elim
    | bin hk _ _ => omega
  | ifO h ih =>
    intro hc hi hF
    exact eva_if g _ _ _ _ _ _ _ _ (ih hc.three.1 (ic3 hi).1 hF) (.inl ⟨_, rfl, ev_o h _ rfl, rfl⟩)
  | ifS h hv ih =>
    intro hc hi hF
    have hN := ct_stuck (.ifS h hv) hi
    have hn := ev_nr h ⟨by have := hN.1; rw [cc3 (by decide)] at this; omega, hN.2.1, by have := hN.2.2; rw [nd3] at this; omega⟩
    obtain ⟨d, hd, e⟩ := vn_th (g := g) hn
    refine eva_if g _ _ _ _ _ _ _ _ (ih hc.three.1 (ic3 hi).1 hF) (.inr (.inl ⟨_, _, _, _, d, _, rfl, e, hd, rfl, .inr ⟨rfl, ?_⟩⟩))
    cases hn with
    | num => rfl
    | tru => exact absurd rfl (hv _)
    | clo _ _ _ => rfl
  | ifT h1 _ ih1 ih2 =>
    intro hc hi hF
    have hle := (ev_g h1 hc.three.1).2
    exact eva_if g _ _ _ _ _ _ _ _ (ih1 hc.three.1 (ic3 hi).1 hF) (.inr (.inr (.inl ⟨_, rfl, ih2 hc.three.2.1 (ic3 hi).2.1 (Nat.le_trans hle hF)⟩)))
  | ifF h1 _ ih1 ih2 =>
    intro hc hi hF
    have hle := (ev_g h1 hc.three.1).2
    exact eva_if g _ _ _ _ _ _ _ _ (ih1 hc.three.1 (ic3 hi).1 hF) (.inr (.inr (.inr ⟨_, rfl, ih2 hc.three.2.2 (ic3 hi).2.2 (Nat.le_trans hle hF)⟩)))
  | binO hk h ih =>
    intro hc hi hF
    have ha := ih hc.two.1 (ic2 hi).1 hF
    rcases hk with rfl | rfl | rfl <;> exact eva_bin g _ _ _ _ _ _ _ _ rfl rfl rfl rfl rfl rfl rfl ha (.o (ev_o h _ rfl))
  | binP hk h1 h2 ih1 ih2 =>
    intro hc hi hF
    have ha := ih1 hc.two.1 (ic2 hi).1 hF
    have hb := ih2 hc.two.2 (ic2 hi).2 (Nat.le_trans (ev_g h1 hc.two.1).2 hF)
    rcases hk with rfl | rfl | rfl <;> exact eva_bin g _ _ _ _ _ _ _ _ rfl rfl rfl rfl rfl rfl rfl ha (.p (ev_o h2 _ rfl) hb)
  | twoV hk h1 h2 h ih1 ih2 =>
    intro hc hi hF
    have ha := ih1 hc.two.1 (ic2 hi).1 hF
    have hb := ih2 hc.two.2 (ic2 hi).2 (Nat.le_trans (ev_g h1 hc.two.1).2 hF)
    unfold twoV at h
    split at h
    · rename_i p q
      split at h
      · rename_i hin
        simp only [Bool.and_eq_true, inB_iff] at hin
        rcases hk with rfl | rfl
        · have hcl : clamp (p + q) = min (max (p + q) (-1000000)) 1000000 := by unfold clamp; omega
          simp only [show ((4 : Int) == 5) = false from rfl, Bool.false_eq_true, if_false, Option.some.injEq, Sum.inl.injEq] at h
          subst h
          rw [hcl]
          exact eva_bin g _ _ _ _ _ _ _ _ rfl rfl rfl rfl rfl rfl rfl ha (.add hb rfl rfl hin.1 hin.2)
        · simp only [show ((5 : Int) == 5) = true from rfl, if_true, Option.some.injEq, Sum.inl.injEq] at h
          subst h
          by_cases hlt : p < q
          · rw [if_pos hlt]; exact eva_bin g _ _ _ _ _ _ _ _ rfl rfl rfl rfl rfl rfl rfl ha (.lt hb rfl rfl (decide_eq_true hlt))
          · rw [if_neg hlt]; exact eva_bin g _ _ _ _ _ _ _ _ rfl rfl rfl rfl rfl rfl rfl ha (.ge hb rfl rfl (decide_eq_false hlt))
      · cases h
    · cases h
    · cases h
  | twoO hk h1 h2 h ih1 ih2 =>
    intro hc hi hF
    have ha := ih1 hc.two.1 (ic2 hi).1 hF
    have hb := ih2 hc.two.2 (ic2 hi).2 (Nat.le_trans (ev_g h1 hc.two.1).2 hF)
    have hs := twoV_s h
    subst hs
    have hN := ct_stuck (.twoO hk h1 h2 h) hi
    have hN1 := hN.1
    have hN3 := hN.2.2
    rw [cc2 (by omega)] at hN1
    rw [nd2] at hN3
    have hv := ev_nr h1 ⟨by omega, hN.2.1, by omega⟩
    have hw := ev_nr h2 ⟨by omega, hN.2.1, by omega⟩
    obtain ⟨d, hd, e⟩ := vn_th (g := g) hv
    obtain ⟨d', hd', e'⟩ := vn_th (g := g) hw
    rename_i k n t f a b env F F1 F2 v w
    have hs : (v.seen.kind != 1) = true ∨ ((v.seen.kind != 1) = false ∧ (w.seen.kind != 1) = true) := by
      cases hv with
      | num =>
        cases hw with
        | num => unfold twoV at h; simp only at h; split at h <;> cases h
        | tru => exact .inr ⟨rfl, rfl⟩
        | clo _ _ _ => exact .inr ⟨rfl, rfl⟩
      | tru => exact .inl rfl
      | clo _ _ _ => exact .inl rfl
    have h8 : (k == 8) = false := by rcases hk with rfl | rfl <;> rfl
    have hB : BinC g k b env (.ok v F1) (.out .stuck) := .s4 hb e hd e' hd' h8 (by
      rcases hs with h | ⟨h, h'⟩
      · exact .inr (.inl ⟨rfl, h⟩)
      · exact .inr (.inr (.inr ⟨rfl, h, rfl, h'⟩)))
    rcases hk with rfl | rfl <;> exact eva_bin g _ _ _ _ _ _ _ _ rfl rfl rfl rfl rfl rfl rfl ha hB
  | call h1 h2 h3 ih1 ih2 ih3 =>
    intro hc hi hF
    have ha := ih1 hc.two.1 (ic2 hi).1 hF
    have g1 := ev_g h1 hc.two.1
    have g2 := ev_g h2 hc.two.2
    have hb := ih2 hc.two.2 (ic2 hi).2 (Nat.le_trans g1.2 hF)
    have hap := ih3 ⟨g1.1, g2.1⟩ (ic_ap hi h1 h2) (Nat.le_trans g2.2 (Nat.le_trans g1.2 hF))
    rename_i n t f a b env F F1 F2 v w r
    cases hf : v.isFn with
    | true =>
      obtain ⟨fid, caps, e, hcl, hca⟩ := hap.1 hf
      exact eva_bin g _ _ _ _ _ _ _ _ rfl rfl rfl rfl rfl rfl rfl ha (.call hb rfl e hcl hca)
    | false =>
      have hr := hap.2 hf
      subst hr
      have hN := ct_stuck (.call h1 h2 h3) hi
      have hN1 := hN.1
      have hN3 := hN.2.2
      rw [cc2 (by decide)] at hN1
      rw [nd2] at hN3
      have hv := ev_nr h1 ⟨by omega, hN.2.1, by omega⟩
      obtain ⟨d, hd, e⟩ := vn_th (g := g) hv
      refine eva_bin g _ _ _ _ _ _ _ _ rfl rfl rfl rfl rfl rfl rfl ha (.s8 hb e hd rfl (.inr ⟨rfl, ?_⟩))
      cases hv with
      | num => rfl
      | tru => rfl
      | clo _ _ _ => cases hf
  | clo0 => intro hc hi hF; exact ⟨fun _ => apa_clo0 g _ _ _, fun h => by cases h⟩
  | clo _ ih =>
    intro hc hi hF
    rename_i b env x F r _
    have hE := hc.1
    have hb : GC (.tm b (x :: env)) ∧ env.length ≤ 1000000 := by
      cases hE with
      | clo hb he hl =>
        refine ⟨⟨hb, fun v hv => ?_, by simp only [List.length_cons]; omega⟩, by omega⟩
        rcases List.mem_cons.1 hv with rfl | hv
        · exact hc.2
        · exact he v hv
    exact ⟨fun _ => apa_clo g _ _ _ _ (by omega) hb.2 (ih hb.1 (ic_clo hi) (by omega)), fun h => by cases h⟩
  | wrapO h =>
    intro hc hi hF
    obtain ⟨rfl, rfl, f0, f1, t0, t1, hfit, hu, hf', hx⟩ := wrap_fn (g := g) (F := F) hi
    refine ⟨fun _ => ?_, fun h => by cases h⟩
    rename_i kA kB kF _ _
    have hca := rcast_a g kF _ _ kA (!kB) hx t0 f0 hf'
    rw [castR_inr h] at hca
    exact apa_wrap g _ _ hca (.o (castV_o h))
  | wrapP h h2 ih =>
    intro hc hi hF
    obtain ⟨rfl, rfl, f0, f1, t0, t1, hfit, hu, hf', hx⟩ := wrap_fn (g := g) (F := F) hi
    refine ⟨fun _ => ?_, fun h => by cases h⟩
    rename_i kA kB kF _ _
    have hca := rcast_a g kF _ _ kA (!kB) hx t0 f0 hf'
    rw [castR_inl h] at hca
    obtain ⟨h5, h6⟩ := wrap_next hx t0 f0 hf' hu hc h
    exact apa_wrap g _ _ hca (.p (ev_o h2 _ rfl) ((ih h5 (.inl ⟨_, _, hu, h6⟩) hF).1 (vt_fn hu)))
  | wrap h h2 ih =>
    intro hc hi hF
    obtain ⟨rfl, rfl, f0, f1, t0, t1, hfit, hu, hf', hx⟩ := wrap_fn (g := g) (F := F) hi
    refine ⟨fun _ => ?_, fun h => by cases h⟩
    rename_i kA kB kF _ _
    have hca := rcast_a g kF _ _ kA (!kB) hx t0 f0 hf'
    rw [castR_inl h] at hca
    obtain ⟨h5, h6⟩ := wrap_next hx t0 f0 hf' hu hc h
    exact apa_wrap g _ _ hca (.w ((ih h5 (.inl ⟨_, _, hu, h6⟩) hF).1 (vt_fn hu)) (rcast_a g _ _ _ _ _ (ev_rt h2 _ ⟨_, hu, h6⟩) f1 t1 hfit))
  | apN => intro hc hi hF; exact ⟨fun h => (by cases h), fun _ => rfl⟩
  | apT => intro hc hi hF; exact ⟨fun h => (by cases h), fun _ => rfl⟩
  | apG => intro hc hi hF; exact ⟨fun h => (by cases h), fun _ => rfl⟩
end Go.Proofs.YtnflnbdlgdjfmabGreatDoor
namespace Go.Proofs.YtnflnbdlgdjfmabGreatDoor
open Go.RowKit
set_option linter.unusedVariables false
set_option linter.unusedSimpArgs false
set_option maxRecDepth 100000
attribute [local irreducible] RunL AW LocOp ACalls Gh
theorem seen_eq : ∀ v : V, v.seen = ⟨v.seen.kind, v.seen.n, false⟩ ∧ (v.seen.kind = 3 → v.seen.n = 0)
  | .num n => ⟨rfl, fun h => absurd (show (1 : Int) = 3 from h) (by decide)⟩
  | .tru n => ⟨rfl, fun h => absurd (show (2 : Int) = 3 from h) (by decide)⟩
  | .clo _ _ => ⟨rfl, fun _ => rfl⟩
  | .wrap _ _ _ _ _ => ⟨rfl, fun _ => rfl⟩
  | .tag v _ => seen_eq v
set_option maxHeartbeats 2000000 in
theorem outcome_a (t : Tm) (f : Nat) (r : Res) (he : ∀ g, EvA g t [] f r) (ho : ∀ o, r = .out o → (o.kind != 0) = true) : ACalls Tryz.prog 22 [t.u, .one (.int .i64 (f : Nat))] [] r.told.u [] := by
  refine acalls_of_body Tryz.func22 rfl (by kernel_rfl) (Nat.le_of_ble_eq_true rfl) zo (by simp [namesL]) ?_
  refine zq ?_
  refine zR ?_
  refine zM lan ?_;refine zM lah ?_;refine zn ?_
  refine zQ ?_;refine zV laa ?_;refine zV laq ?_
  refine zM (laP 1000 (by exact rfl) (by exact rfl) (by exact rfl) (by exact rfl)) ?_
  refine zV lab ?_;refine zn ?_
  refine AW.pin (b := 1000) (j := 3) (by exact rfl) (by exact Nat.le_refl 4) fun g => ?_
  have hb := he g
  unfold EvA at hb
  cases r with
  | out o =>
    have ho := ho o rfl
    replace hb : ACalls _ _ _ _ (.agg th0) [(1000, .obj (wEnd g o))] := hb
    refine zQ ?_;refine zV laa ?_;refine zV lai ?_
    refine zY (las (hb) rfl (by refine ⟨_, _, rfl, (by exact LeU.of_eq rfl zo), (by exact Exists.intro _ rfl), ?_⟩;refine zC7 ?_;refine ⟨_, _, rfl, (by exact LeU.one' rfl (LeC.nil _)), (by exact zo), ?_⟩;exact rfl) (by exact ⟨rfl, zo⟩) (by exact rfl) (by simp [namesL])) ?_
    refine zM lah ?_;refine zE laf ?_;refine zn ?_;refine zq ?_;refine zbl ?_;refine zQ ?_;refine zV laa ?_;refine zV lag ?_;refine zV lad ?_;refine zV lad ?_;refine zV lae ?_;refine zV lac ?_;refine zV lab ?_;refine zn ?_;refine zaT ?_;refine zQ ?_;refine zV laa ?_;refine zV lag ?_;refine zV lad ?_;refine zV (lai rfl rfl (by exact Cut.cons (by exact rfl) (Cut.cons (by exact rfl) (Cut.cons (by exact rfl) Cut.nil)))) ?_;refine zE laf ?_;refine zn ?_;refine zre ?_
    refine rq ?_
    exact ret_cell (l' := o.c) (by exact .inr rfl) (by exact rfl) (by exact rfl) (by exact rfl) [] trivial (by exact wkRow_refl _) (by exact ⟨zo, zo, zo, zo⟩) (by exact rfl)
  | ok v F' =>
    obtain ⟨c, hc, tg, e⟩ := th_cells g v
    obtain ⟨hs, hs3⟩ := seen_eq v
    replace hb : ACalls _ _ _ _ (.agg (V.th g v)) [(1000, .obj (wOk g F'))] := hb
    rw [e] at hb
    show AW _ _ _ _ _ _ (RetQ _ _ (V.seen v).u [])
    rw [hs]
    cases hk : (v.seen.kind == 3) with
    | true =>
      have hk3 : v.seen.kind = 3 := by simpa using hk
      rw [hs3 hk3] at hb ⊢
      rw [hk3] at hb ⊢
      refine zQ ?_;refine zV laa ?_;refine zV lai ?_
      refine zY (las (hb) rfl (by refine ⟨_, _, rfl, (by exact LeU.of_eq rfl zo), (by exact Exists.intro _ rfl), ?_⟩;refine zC7 ?_;refine ⟨_, _, rfl, (by exact LeU.one' rfl (LeC.nil _)), (by exact zo), ?_⟩;exact rfl) (by exact ⟨rfl, zo⟩) (by exact rfl) (by simp [namesL])) ?_
      refine zM lah ?_;refine zE laf ?_;refine zn ?_;refine zq ?_;refine zbl ?_;refine zQ ?_;refine zV laa ?_;refine zV lag ?_;refine zV lad ?_;refine zV lad ?_;refine zV lae ?_;refine zV lac ?_;refine zV lab ?_;refine zn ?_;refine zcF ?_;refine zQ ?_;refine zV lad ?_;refine zV lae ?_;refine zV lac ?_;refine zV lab ?_;refine zn ?_;refine zcT ?_;refine zQ ?_;refine zV laq ?_;refine zE laf ?_;refine zn ?_;refine zre ?_
      refine rq ?_
      exact ret_cell (l' := [.int .i64 3, .int .i64 0, .bool false]) (by exact .inr rfl) (by exact rfl) (by exact rfl) (by exact rfl) [] trivial (by exact wkRow_refl _) (by exact ⟨zo, zo, zo, zo⟩) (by exact rfl)
    | false =>
      refine zQ ?_;refine zV laa ?_;refine zV lai ?_
      refine zY (las (hb) rfl (by refine ⟨_, _, rfl, (by exact LeU.of_eq rfl zo), (by exact Exists.intro _ rfl), ?_⟩;refine zC7 ?_;refine ⟨_, _, rfl, (by exact LeU.one' rfl (LeC.nil _)), (by exact zo), ?_⟩;exact rfl) (by exact ⟨rfl, zo⟩) (by exact rfl) (by simp [namesL])) ?_
      refine zM lah ?_;refine zE laf ?_;refine zn ?_;refine zq ?_;refine zbl ?_;refine zQ ?_;refine zV laa ?_;refine zV lag ?_;refine zV lad ?_;refine zV lad ?_;refine zV lae ?_;refine zV lac ?_;refine zV lab ?_;refine zn ?_;refine zcF ?_;refine zQ ?_;refine zV lad ?_;refine zV lae ?_;refine zV lac ?_;refine zV lab ?_;refine zn ?_;refine zaF ?_;refine zsk ?_;refine zQ ?_;refine zV lad ?_;refine zV lae ?_;refine zV lad ?_;refine zV lae ?_;refine zV laq ?_;refine zE laf ?_;refine zn ?_;refine zre ?_
      refine rq ?_
      exact ret_cell (l' := [.int .i64 v.seen.kind, .int .i64 v.seen.n, .bool false]) (by exact .inr rfl) (by exact rfl) (by exact rfl) (by exact rfl) [] trivial (by exact wkRow_refl _) (by exact ⟨zo, zo, zo, zo⟩) (by exact rfl)
end Go.Proofs.YtnflnbdlgdjfmabGreatDoor
namespace Go.Proofs.YtnflnbdlgdjfmabGreatDoor
open Go.RowKit
set_option linter.unusedVariables false
set_option linter.unusedSimpArgs false
def mapEs (l : List (Int × Int)) : Array MapEntry := (l.zipIdx.map fun x => (⟨.int .i64 x.1.1, .int .i64 x.1.2, x.2⟩ : MapEntry)).toArray
theorem findNow_none (k : Int) : ∀ (l : List (Int × Int)) (n i : Nat), (∀ p ∈ l, p.1 ≠ k) → Instr.findNow (.int .i64) (.int .i64 k) ((l.zipIdx n).map fun x => (⟨.int .i64 x.1.1, .int .i64 x.1.2, x.2⟩ : MapEntry)) i = some none
  | [], _, _, _ => rfl
  | p :: l, n, i, h => by
    have h1 : (k == p.1) = false := by rw [beq_eq_false_iff_ne]; exact fun e => h p (by simp) e.symm
    have h2 := findNow_none k l (n + 1) (i + 1) fun q hq => h q (by simp [hq])
    simp only [List.zipIdx_cons, List.map_cons, Instr.findNow, Instr.sameNow, h1]
    exact h2
theorem set_alloc (w : World) (a b : Obj) : ({ w.alloc a with heap := (w.alloc a).heap.setIfInBounds w.heap.size b } : World) = w.alloc b := by
  simp only [World.alloc]
  congr 1
  apply Array.ext'
  simp [List.set_append]
theorem run_ins (w : World) (l : List (Int × Int)) (k v : Int) (h : ∀ p ∈ l, p.1 ≠ k) :
    (Instr.mapUpdate 149 (.map (some w.heap.size)) (.int .i64 k) (.int .i64 v)).run Tryz.prog (w.alloc (.map (mapEs l) l.length)) = .ok () (w.alloc (.map (mapEs (l ++ [(k, v)])) (l ++ [(k, v)]).length)) := by
  have hb : (w.alloc (.map (mapEs l) l.length)).heap[w.heap.size]? = some (.map (mapEs l) l.length) := by simp [World.alloc, -World.alloc_eq]
  have hf := findNow_none k l 0 0 h
  have hp : (mapEs l).push ⟨.int .i64 k, .int .i64 v, l.length⟩ = mapEs (l ++ [(k, v)]) := by
    simp [mapEs, List.zipIdx_append]
  unfold Instr.mapUpdate
  simp only [Sem.run_bind, run_underlying Tryz.underlying149, Result.andThen, MapKept.run_getObj_map hb, MapKept.run_checkKey Tryz.underlying3 (show MapKept.IsKey (.int .i64) (.int .i64 k) from rfl), MapKept.run_findKey Tryz.underlying3 (show Instr.findNow (.int .i64) (.int .i64 k) (mapEs l).toList 0 = some none by simpa [mapEs] using hf), MapKept.run_setObj_map _ hb]
  rw [set_alloc, hp, List.length_append]
  rfl
theorem findNow_some (k v : Int) : ∀ (l : List (Int × Int)) (n i : Nat), (l.find? fun p => p.1 == k) = some (k, v) → ∃ j, Instr.findNow (.int .i64) (.int .i64 k) ((l.zipIdx n).map fun x => (⟨.int .i64 x.1.1, .int .i64 x.1.2, x.2⟩ : MapEntry)) i = some (some (j, .int .i64 v))
  | [], _, _, h => by cases h
  | p :: l, n, i, h => by
    simp only [List.zipIdx_cons, List.map_cons, Instr.findNow, Instr.sameNow]
    rw [List.find?_cons] at h
    cases hp : (p.1 == k) with
    | true =>
      rw [hp] at h
      have hp2 : p = (k, v) := Option.some.inj h
      subst hp2
      simp
    | false =>
      rw [hp] at h
      have h1 : (k == p.1) = false := by rw [beq_eq_false_iff_ne] at hp ⊢; exact fun e => hp e.symm
      rw [h1]
      exact findNow_some k v l (n + 1) (i + 1) h
theorem run_look (w : World) (l : List (Int × Int)) (c : Nat) (k v : Int) (h : (l.find? fun p => p.1 == k) = some (k, v)) :
    (Instr.lookup 149 (.map (some w.heap.size)) (.int .i64 k) false).run Tryz.prog (w.alloc (.map (mapEs l) c)) = .ok (.int .i64 v) (w.alloc (.map (mapEs l) c)) := by
  have hb : (w.alloc (.map (mapEs l) c)).heap[w.heap.size]? = some (.map (mapEs l) c) := by simp [World.alloc, -World.alloc_eq]
  obtain ⟨j, hf⟩ := findNow_some k v l 0 0 h
  unfold Instr.lookup
  simp only [Sem.run_bind, run_underlying Tryz.underlying149, Result.andThen, MapKept.run_getObj_map hb, MapKept.run_checkKey Tryz.underlying3 (show MapKept.IsKey (.int .i64) (.int .i64 k) from rfl), MapKept.run_findKey Tryz.underlying3 (show Instr.findNow (.int .i64) (.int .i64 k) (mapEs l).toList 0 = some (some (j, .int .i64 v)) by simpa [mapEs] using hf), Sem.run_pure]
  rfl
def partsL : List (Int × Int) := [(1, 0), (2, 0), (3, 0), (4, 2), (5, 2), (6, 3), (7, 1), (8, 2), (9, 1)]
set_option maxRecDepth 100000 in
set_option maxHeartbeats 1000000 in
theorem parts_calls (w : World) (k v : Int) (h : (partsL.find? fun p => p.1 == k) = some (k, v)) : Calls Tryz.prog 55 #[.int .i64 k] w fun e w' => e = .returned (.int .i64 v) ∧ Below w.heap.size w w' := by
  have hmm : (Instr.makeMap 149 none).run Tryz.prog w = .ok (.map (some w.heap.size)) (w.alloc (.map (mapEs []) 0)) := rfl
  have i1 := run_ins w [] 1 0 (by decide)
  have i2 := run_ins w [(1, 0)] 2 0 (by decide)
  have i3 := run_ins w [(1, 0), (2, 0)] 3 0 (by decide)
  have i4 := run_ins w [(1, 0), (2, 0), (3, 0)] 4 2 (by decide)
  have i5 := run_ins w [(1, 0), (2, 0), (3, 0), (4, 2)] 5 2 (by decide)
  have i6 := run_ins w [(1, 0), (2, 0), (3, 0), (4, 2), (5, 2)] 6 3 (by decide)
  have i7 := run_ins w [(1, 0), (2, 0), (3, 0), (4, 2), (5, 2), (6, 3)] 7 1 (by decide)
  have i8 := run_ins w [(1, 0), (2, 0), (3, 0), (4, 2), (5, 2), (6, 3), (7, 1)] 8 2 (by decide)
  have i9 := run_ins w [(1, 0), (2, 0), (3, 0), (4, 2), (5, 2), (6, 3), (7, 1), (8, 2)] 9 1 (by decide)
  have lk := run_look w [(1, 0), (2, 0), (3, 0), (4, 2), (5, 2), (6, 3), (7, 1), (8, 2), (9, 1)] 9 k v h
  simp only [List.nil_append, List.cons_append, List.length_cons, List.length_nil] at i1 i2 i3 i4 i5 i6 i7 i8 i9
  go_enter Tryz.func55, Tryz.ntmps55
  go_wp2
  all_goals go_ret
  all_goals exact ⟨rfl, (Below.refl _ _).alloc (Nat.le_refl _) _⟩
theorem parts_find {k : Int} (h1 : 1 ≤ k) (h9 : k ≤ 9) : (partsL.find? fun p => p.1 == k) = some (k, arity k) := by
  obtain ⟨n, rfl⟩ : ∃ n : Nat, k = n := ⟨k.toNat, by omega⟩
  have : n < 10 := by omega
  match n, this with
  | 0, _ => omega
  | 1, _ | 2, _ | 3, _ | 4, _ | 5, _ | 6, _ | 7, _ | 8, _ | 9, _ => rfl
theorem parts_a (k : Int) (h1 : 1 ≤ k) (h9 : k ≤ 9) : ACalls Tryz.prog 55 [.one (.int .i64 k)] [] (.one (.int .i64 (arity k))) [] :=
  acalls_ext (by kernel_rfl) (fun F ρ w vals H ha => by
    obtain ⟨_, rfl, rfl⟩ := args1 ha
    exact (parts_calls w k (arity k) (parts_find h1 h9)).mono fun e w' ⟨he, hw⟩ => ⟨_, noG, he, hw, fun k h => h.elim, rfl⟩) zo
end Go.Proofs.YtnflnbdlgdjfmabGreatDoor
namespace Go.Proofs.YtnflnbdlgdjfmabGreatDoor
open Go.RowKit
set_option linter.unusedVariables false
set_option linter.unusedSimpArgs false
set_option maxRecDepth 100000
attribute [local irreducible] RunL AW LocOp ACalls Gh
set_option maxHeartbeats 2000000 in
theorem copyTm_a : ∀ a : Tm, TmOk a → a.nodes ≤ 1048576 → ACalls Tryz.prog 6 [a.u] [] a.u [] := by
  intro a
  induction a using Tm.ind' with
  | h a ih =>
  intro hok hsz
  have hne := nodes_eta a
  have hnn := nodesL_len a.l
  have hL := tmRows_length a.l
  refine acalls_of_body Tryz.func6 rfl (by kernel_rfl) (Nat.le_of_ble_eq_true rfl) zo (by simp [namesL]) ?_
  refine zQ ?_;refine zM lan ?_;refine zM lah ?_;refine zn ?_;refine zq ?_;refine zRD ?_;refine zV lad ?_;refine zV (lai rfl rfl (by exact Cut.cons (by exact rfl) (Cut.cons (by exact rfl) Cut.nil))) ?_
  refine zV (lal (copyT_a a.t hok.t) rfl (by refine zC2 ?_;exact rfl)) ?_
  refine zV lad ?_;refine zV (lai rfl rfl (by exact Cut.cons (by exact rfl) (Cut.cons (by exact rfl) Cut.nil))) ?_
  refine zV (lal (copyT_a a.f hok.f) rfl (by refine zC2 ?_;exact rfl)) ?_
  refine zV lad ?_;refine zE lav ?_;refine zV lad ?_;refine zE lav ?_;refine znD ?_;refine zQ ?_;refine zV lad ?_;refine zV lae ?_;refine zV lab ?_;refine zn ?_;refine zQ ?_;refine zV lad ?_;refine zE lav ?_;refine zn ?_;refine zq ?_;refine zQ ?_;refine zV laa ?_;refine zV lay ?_;refine zV laa ?_;refine zn ?_;refine zbl ?_
  refine AW.gh (gh_lit [(1, .one (.ptr 1 0)), (2, .one (.ptr 2 0)), (17, .one (slOf 7 (tmRows a.l))), (18, .one (.int .i64 ((tmRows a.l).length : Nat))), (19, .one (.int .i64 ((0 : Nat) : Int)))] [(1, .obj [.int .i64 a.k, .int .i64 a.n, .int .i64 a.t.k, slOf 2 (tyRows a.t.l), .int .i64 a.f.k, slOf 2 (tyRows a.f.l), .own 105 (0) (0)]), (2, .obj Tm.zero.c), (105, .row 27 7 (0) ([]))] [] [105] ⟨(zw rfl zo), (zw rfl zo), (by exact WkU.of_eq rfl zo), (zw rfl zo), (zw rfl zo), zo⟩ ⟨(by (refine Or.inl ⟨_, rfl, ?_⟩; show All2 _ _ _;exact ⟨WkC.le (LeC.refl _), WkC.le (LeC.refl _), WkC.le (LeC.refl _), WkC.le (LeC.refl _), WkC.le (LeC.refl _), WkC.le (LeC.refl _), WkC.nil (List.mem_cons_self ..), zo⟩)), (by (refine Or.inl ⟨_, rfl, ?_⟩; show All2 _ _ _;exact ⟨WkC.le (LeC.refl _), WkC.le (LeC.refl _), WkC.le (LeC.refl _), WkC.le (LeC.nil _), WkC.le (LeC.refl _), WkC.le (LeC.nil _), WkC.le (LeC.nil _), zo⟩)), (by exact Or.inr ⟨rfl, List.mem_cons_self .., _, _, by decide, rfl⟩), zo⟩ trivial ⟨rfl, zo⟩ rfl rfl ⟨⟨_, rfl⟩, ⟨_, rfl⟩, zo, zo, zo, zo⟩ ⟨(by exact ⟨zo, zo, zo, zo, zo, zo, ⟨_, _, _, _, rfl, Nat.le_refl _⟩, zo⟩), (by exact ⟨zo, zo, zo, zo, zo, zo, zo, zo⟩), (okRows_closed (by exact rfl)), zo⟩) ?_
  refine AW.lenSl 17 rfl fun hmax => ?_
  refine AW.loop (fun m t h => ∃ i : Nat, i ≤ a.l.length ∧ m = a.l.length - i ∧ t = tOfL [(1, .one (.ptr 1 0)), (2, .one (.ptr 2 0)), (17, .one (slOf 7 (tmRows a.l))), (18, .one (.int .i64 ((tmRows a.l).length : Nat))), (19, .one (.int .i64 ((i : Nat) : Int)))] ∧ h = ofL [(1, .obj [.int .i64 a.k, .int .i64 a.n, .int .i64 a.t.k, slOf 2 (tyRows a.t.l), .int .i64 a.f.k, slOf 2 (tyRows a.f.l), .own 105 (i) (i)]), (2, .obj Tm.zero.c), (105, .row 27 7 (i) (tmRows (a.l.take (i))))]) a.l.length ⟨0, Nat.zero_le _, rfl, rfl, rfl⟩ ?_
  rintro m t h ⟨i, hi, rfl, rfl, rfl⟩
  have htk : (tmRows (a.l.take i)).length = i := by rw [tmRows_length, List.length_take]; omega
  cases hlt : decide ((i : Int) < ((tmRows a.l).length : Nat)) with
  | false =>
    have hil : i = a.l.length := by simp at hlt; omega
    refine zQ ?_;refine zV lac ?_;refine zn ?_;refine zq ?_;refine zaF ?_;refine zex ?_;refine zQ ?_;refine zV lai ?_;refine zE laf ?_;refine zn ?_;refine zre ?_
    refine rq ?_
    refine ret_cell (by exact .inr rfl) (by exact rfl) (by exact rfl) (by exact rfl) [105] (by exact ⟨⟨_, rfl, closed_tmRows _⟩, zo⟩) (l' := a.c) (by exact ⟨.le (.refl _), .le (.refl _), .le (.refl _), .le (.refl _), .le (.refl _), .le (.refl _), .row (List.mem_cons_self ..) rfl htk (by rw [hil, List.take_length];exact LeRows.refl _), zo⟩) (by exact ⟨zo, zo, zo, zo, zo, zo, zo, zo⟩) (by exact rfl)
  | true =>
    have hil : i < a.l.length := by simp at hlt; omega
    have hr1 := tmRows_get hil
    have hn3 := nodes_mem (List.getElem_mem hil)
    refine zQ ?_;refine zV lac ?_;refine zn ?_;refine zq ?_;refine zaT ?_;refine zsk ?_;refine zq ?_;refine zbl ?_;refine zQ ?_;refine zV (lap _) ?_;refine zV lao ?_;refine zM lah ?_;refine zE laf ?_;refine zn ?_;refine zRD ?_;refine zV lad ?_;refine zV lae ?_;refine zV lai ?_
    refine zV (lal (ih a.l[i] (List.getElem_mem _) (hok.l _ (List.getElem_mem _)) (by omega)) rfl (by refine zC7 ?_;exact rfl)) ?_
    refine zV laF ?_
    refine zM (laK (by exact rfl) (by exact rfl) (by exact rfl) (by exact .inl rfl) (by exact htk) (by exact ⟨rfl, zo⟩) (by simp only [List.length_cons, List.length_nil]; omega)) ?_
    have hrows : tmRows (a.l.take i) ++ [a.l[i].c] = tmRows (a.l.take (i + 1)) := by
      rw [List.take_add_one, List.getElem?_eq_getElem hil, Option.toList_some, tmRows_append]; simp [tmRows, Tm.cells_c]
    rw [hrows]
    refine zV lad ?_;refine zE lav ?_;refine znD ?_;refine zR ?_;refine zV laB ?_;refine zV laa ?_;refine zn ?_
    exact ⟨a.l.length - (i + 1), _, _, by omega, (gh_lit [(1, .one (.ptr 1 0)), (2, .one (.ptr 2 0)), (17, .one (slOf 7 (tmRows a.l))), (18, .one (.int .i64 ((tmRows a.l).length : Nat))), (19, .one (.int .i64 (((i + 1) : Nat) : Int)))] [(1, .obj [.int .i64 a.k, .int .i64 a.n, .int .i64 a.t.k, slOf 2 (tyRows a.t.l), .int .i64 a.f.k, slOf 2 (tyRows a.f.l), .own 105 ((i + 1)) ((i + 1))]), (2, .obj Tm.zero.c), (105, .row 27 7 ((i + 1)) (tmRows (a.l.take (i + 1))))] [] [] ⟨(zw rfl zo), (zw rfl zo), (by exact WkU.of_eq rfl zo), (zw rfl zo), (zw rfl zo), zo⟩ ⟨(by exact zb rfl), (by exact zb rfl), (by exact zb rfl), zo⟩ trivial zo rfl rfl ⟨⟨_, rfl⟩, ⟨_, rfl⟩, zo, zo, zo, zo⟩ ⟨(by exact ⟨zo, zo, zo, zo, zo, zo, ⟨_, _, _, _, rfl, Nat.le_refl _⟩, zo⟩), (by exact ⟨zo, zo, zo, zo, zo, zo, zo, zo⟩), (okRows_closed (by exact closed_tmRows _)), zo⟩), i + 1, by omega, rfl, rfl, rfl⟩
set_option maxHeartbeats 4000000 in
theorem rsameTm_a : ∀ a b : Tm, ACalls Tryz.prog 11 [a.u, b.u] [] (.one (.bool (a.same b))) [] := by
  intro a
  induction a using Tm.ind' with
  | h a ih =>
  intro b
  have hL := tmRows_length a.l
  have hM := tmRows_length b.l
  have s1 := rsame_a a.t b.t
  have s2 := rsame_a a.f b.f
  refine acalls_of_body Tryz.func11 rfl (by kernel_rfl) (Nat.le_of_ble_eq_true rfl) zo (by simp [namesL]) ?_
  refine zq ?_
  refine zR ?_
  refine zM lan ?_;refine zM lan ?_;refine zV lab ?_;refine zn ?_
  refine zq ?_
  refine AW.midC (fun t h => t = tOfL [(2, .one (.ptr 2 0)), (3, .one (.ptr 3 0)), (5, .one (.bool (a.k == b.k && a.n == b.n && a.t.same b.t && a.f.same b.f && (((tmRows a.l).length : Nat) : Int) == ((tmRows b.l).length : Nat))))] ∧ h = ofL [(2, .obj a.c), (3, .obj b.c)]) ?_ ?_
  · cases h1 : (a.k == b.k) with
    | false =>
      refine zR ?_;refine zV lad ?_;refine zV lae ?_;refine zV lad ?_;refine zV lae ?_;refine zV lac ?_;refine zV laa ?_;refine zf ?_;refine zf ?_;refine zf ?_;refine zf ?_;refine zf ?_;refine zV (lam false) ?_;refine zV laa ?_;refine zs ?_;refine zs ?_;refine zs ?_;refine zs ?_;refine zs ?_;refine zV lax ?_;refine zV laa ?_;refine zs ?_;refine zs ?_;refine zs ?_;refine zs ?_;refine zs ?_;refine zV lax ?_;refine zV laa ?_;refine zs ?_;refine zs ?_;refine zs ?_;refine zs ?_;refine zs ?_;refine zs ?_;refine zs ?_;refine zV lax ?_;refine zV lab ?_;refine zn ?_
      exact ⟨_, _, (gh_lit [(2, .one (.ptr 2 0)), (3, .one (.ptr 3 0)), (5, .one (.bool (false)))] [(2, .obj a.c), (3, .obj b.c)] [] [] ⟨(zw rfl zo), (zw rfl zo), (zw rfl zo), zo⟩ ⟨(by exact zb rfl), (by exact zb rfl), zo⟩ trivial zo rfl rfl ⟨⟨_, rfl⟩, ⟨_, rfl⟩, zo, zo⟩ ⟨(by exact ⟨zo, zo, zo, zo, zo, zo, zo, zo⟩), (by exact ⟨zo, zo, zo, zo, zo, zo, zo, zo⟩), zo⟩), by simp, rfl⟩
    | true =>
    cases h2 : (a.n == b.n) with
    | false =>
      refine zR ?_;refine zV lad ?_;refine zV lae ?_;refine zV lad ?_;refine zV lae ?_;refine zV lac ?_;refine zV laa ?_;refine zT lad ?_;refine zT lae ?_;refine zT lad ?_;refine zT lae ?_;refine zT lac ?_;refine zV (lam true) ?_;refine zV laa ?_;refine zf ?_;refine zf ?_;refine zf ?_;refine zf ?_;refine zf ?_;refine zV (lam false) ?_;refine zV laa ?_;refine zs ?_;refine zs ?_;refine zs ?_;refine zs ?_;refine zs ?_;refine zV lax ?_;refine zV laa ?_;refine zs ?_;refine zs ?_;refine zs ?_;refine zs ?_;refine zs ?_;refine zs ?_;refine zs ?_;refine zV lax ?_;refine zV lab ?_;refine zn ?_
      exact ⟨_, _, (gh_lit [(2, .one (.ptr 2 0)), (3, .one (.ptr 3 0)), (5, .one (.bool (false)))] [(2, .obj a.c), (3, .obj b.c)] [] [] ⟨(zw rfl zo), (zw rfl zo), (zw rfl zo), zo⟩ ⟨(by exact zb rfl), (by exact zb rfl), zo⟩ trivial zo rfl rfl ⟨⟨_, rfl⟩, ⟨_, rfl⟩, zo, zo⟩ ⟨(by exact ⟨zo, zo, zo, zo, zo, zo, zo, zo⟩), (by exact ⟨zo, zo, zo, zo, zo, zo, zo, zo⟩), zo⟩), by simp, rfl⟩
    | true =>
    refine zR ?_;refine zV lad ?_;refine zV lae ?_;refine zV lad ?_;refine zV lae ?_;refine zV lac ?_;refine zV laa ?_;refine zT lad ?_;refine zT lae ?_;refine zT lad ?_;refine zT lae ?_;refine zT lac ?_;refine zV (lam true) ?_;refine zV laa ?_;refine zT lad ?_;refine zT (lai rfl rfl (by exact Cut.cons (by exact rfl) (Cut.cons (by exact rfl) Cut.nil))) ?_;refine zT lad ?_;refine zT (lai rfl rfl (by exact Cut.cons (by exact rfl) (Cut.cons (by exact rfl) Cut.nil))) ?_
    refine zT (lal s1 rfl (by refine zC2 ?_;refine zC2 ?_;exact rfl)) ?_
    cases h3 : a.t.same b.t with
    | false =>
      refine zV (lam true) ?_;refine zV laa ?_;refine zs ?_;refine zs ?_;refine zs ?_;refine zs ?_;refine zs ?_;refine zV lax ?_;refine zV laa ?_;refine zs ?_;refine zs ?_;refine zs ?_;refine zs ?_;refine zs ?_;refine zs ?_;refine zs ?_;refine zV lax ?_;refine zV lab ?_;refine zn ?_
      exact ⟨_, _, (gh_lit [(2, .one (.ptr 2 0)), (3, .one (.ptr 3 0)), (5, .one (.bool (false)))] [(2, .obj a.c), (3, .obj b.c)] [] [] ⟨(zw rfl zo), (zw rfl zo), (zw rfl zo), zo⟩ ⟨(by exact zb rfl), (by exact zb rfl), zo⟩ trivial zo rfl rfl ⟨⟨_, rfl⟩, ⟨_, rfl⟩, zo, zo⟩ ⟨(by exact ⟨zo, zo, zo, zo, zo, zo, zo, zo⟩), (by exact ⟨zo, zo, zo, zo, zo, zo, zo, zo⟩), zo⟩), by simp, rfl⟩
    | true =>
    refine zV (lam true) ?_;refine zV laa ?_;refine zI lad ?_;refine zI (lai rfl rfl (by exact Cut.cons (by exact rfl) (Cut.cons (by exact rfl) Cut.nil))) ?_;refine zI lad ?_;refine zI (lai rfl rfl (by exact Cut.cons (by exact rfl) (Cut.cons (by exact rfl) Cut.nil))) ?_
    refine zI (lal s2 rfl (by refine zC2 ?_;refine zC2 ?_;exact rfl)) ?_
    cases h4 : a.f.same b.f with
    | false =>
      refine zV laA ?_;refine zV laa ?_;refine zs ?_;refine zs ?_;refine zs ?_;refine zs ?_;refine zs ?_;refine zs ?_;refine zs ?_;refine zV lax ?_;refine zV lab ?_;refine zn ?_
      exact ⟨_, _, (gh_lit [(2, .one (.ptr 2 0)), (3, .one (.ptr 3 0)), (5, .one (.bool (false)))] [(2, .obj a.c), (3, .obj b.c)] [] [] ⟨(zw rfl zo), (zw rfl zo), (zw rfl zo), zo⟩ ⟨(by exact zb rfl), (by exact zb rfl), zo⟩ trivial zo rfl rfl ⟨⟨_, rfl⟩, ⟨_, rfl⟩, zo, zo⟩ ⟨(by exact ⟨zo, zo, zo, zo, zo, zo, zo, zo⟩), (by exact ⟨zo, zo, zo, zo, zo, zo, zo, zo⟩), zo⟩), by simp, rfl⟩
    | true =>
    refine zV laA ?_;refine zV laa ?_;refine zI lad ?_;refine zI lae ?_;refine zI lay ?_;refine zI lad ?_;refine zI lae ?_;refine zI lay ?_;refine zI lac ?_;refine zV laA ?_;refine zV lab ?_;refine zn ?_
    exact ⟨_, _, (gh_lit [(2, .one (.ptr 2 0)), (3, .one (.ptr 3 0)), (5, .one (.bool ((((tmRows a.l).length : Nat) : Int) == ((tmRows b.l).length : Nat))))] [(2, .obj a.c), (3, .obj b.c)] [] [] ⟨(zw rfl zo), (zw rfl zo), (zw rfl zo), zo⟩ ⟨(by exact zb rfl), (by exact zb rfl), zo⟩ trivial zo rfl rfl ⟨⟨_, rfl⟩, ⟨_, rfl⟩, zo, zo⟩ ⟨(by exact ⟨zo, zo, zo, zo, zo, zo, zo, zo⟩), (by exact ⟨zo, zo, zo, zo, zo, zo, zo, zo⟩), zo⟩), by simp, rfl⟩
  · rintro t h ⟨rfl, rfl⟩
    have h0 : a.same b = ((a.k == b.k && a.n == b.n && a.t.same b.t && a.f.same b.f && (((tmRows a.l).length : Nat) : Int) == ((tmRows b.l).length : Nat)) && sameTL (a.l.drop 0) (b.l.drop 0)) := by
      rw [sameT_eta, hL, hM, List.drop_zero, List.drop_zero]
      by_cases hl : a.l.length = b.l.length
      · simp [hl]
      · simp [hl, sameTL_len hl]
    have hl : (a.k == b.k && a.n == b.n && a.t.same b.t && a.f.same b.f && (((tmRows a.l).length : Nat) : Int) == ((tmRows b.l).length : Nat)) = true → a.l.length = b.l.length := by
      intro h; rw [hL, hM, Bool.and_eq_true] at h; have := h.2; simp at this; omega
    generalize (a.k == b.k && a.n == b.n && a.t.same b.t && a.f.same b.f && (((tmRows a.l).length : Nat) : Int) == ((tmRows b.l).length : Nat)) = ok0 at *
    refine zq ?_;refine zQ ?_;refine zV lab ?_;refine zn ?_;refine zbl ?_
    refine AW.gh (gh_lit [(2, .one (.ptr 2 0)), (3, .one (.ptr 3 0)), (5, .one (.bool (ok0))), (6, .one (.int .i64 ((0 : Nat) : Int)))] [(2, .obj a.c), (3, .obj b.c)] [] [] ⟨(zw rfl zo), (zw rfl zo), (zw rfl zo), (zw rfl zo), zo⟩ ⟨(by exact zb rfl), (by exact zb rfl), zo⟩ trivial zo rfl rfl ⟨⟨_, rfl⟩, ⟨_, rfl⟩, zo, zo, zo⟩ ⟨(by exact ⟨zo, zo, zo, zo, zo, zo, zo, zo⟩), (by exact ⟨zo, zo, zo, zo, zo, zo, zo, zo⟩), zo⟩) ?_
    refine AW.lenBlk 2 6 rfl rfl fun hmax => ?_
    refine AW.loop (fun m t h => ∃ i : Nat, ∃ ok : Bool, i ≤ a.l.length ∧ m = a.l.length - i ∧ (ok = true → a.l.length = b.l.length) ∧ a.same b = (ok && sameTL (a.l.drop i) (b.l.drop i)) ∧ t = tOfL [(2, .one (.ptr 2 0)), (3, .one (.ptr 3 0)), (5, .one (.bool (ok))), (6, .one (.int .i64 ((i : Nat) : Int)))] ∧ h = ofL [(2, .obj a.c), (3, .obj b.c)]) a.l.length ⟨0, ok0, Nat.zero_le _, rfl, hl, h0, rfl, rfl⟩ ?_
    rintro m t h ⟨i, ok, hi, rfl, hlen, hinv, rfl, rfl⟩
    clear hl h0
    cases ok with
    | false =>
      refine zq ?_;refine zQ ?_;refine zV laa ?_;refine zV laa ?_;refine zs ?_;refine zs ?_;refine zs ?_;refine zs ?_;refine zs ?_;refine zV lax ?_;refine zn ?_;refine zcF ?_;refine zex ?_;refine zQ ?_;refine zV laa ?_;refine zV lab ?_;refine zn ?_;refine zre ?_
      rw [hinv]
      exact ret_same (.inr rfl) rfl zo
    | true =>
    have hlen := hlen rfl
    cases hlt : decide ((i : Int) < ((tmRows a.l).length : Nat)) with
    | false =>
      have hil : i = a.l.length := by simp at hlt; omega
      refine zq ?_;refine zQ ?_;refine zV laa ?_;refine zV laa ?_;refine zI laa ?_;refine zI lad ?_;refine zI lae ?_;refine zI lay ?_;refine zI lac ?_;refine zV laA ?_;refine zn ?_;refine zaF ?_;refine zex ?_;refine zQ ?_;refine zV laa ?_;refine zV lab ?_;refine zn ?_;refine zre ?_
      rw [hinv, hil, show sameTL (a.l.drop a.l.length) (b.l.drop a.l.length) = true by rw [List.drop_length, hlen, List.drop_length]; rfl]
      exact ret_same (.inr rfl) rfl zo
    | true =>
      have hil : i < a.l.length := by simp at hlt; omega
      have hilb : i < b.l.length := by omega
      have hr1 := tmRows_get hil
      have hr2 := tmRows_get hilb
      have hs := sameTL_drop hil hilb
      refine zq ?_;refine zQ ?_;refine zV laa ?_;refine zV laa ?_;refine zI laa ?_;refine zI lad ?_;refine zI lae ?_;refine zI lay ?_;refine zI lac ?_;refine zV laA ?_;refine zn ?_;refine zaT ?_;refine zsk ?_;refine zq ?_;refine zbl ?_;refine zRD ?_;refine zV lad ?_;refine zV lae ?_;refine zV laa ?_;refine zV (lap _) ?_;refine zV lao ?_;refine zV lad ?_;refine zV lae ?_;refine zV laa ?_;refine zV (lap _) ?_;refine zV lao ?_
      refine zV (lal (ih a.l[i] (List.getElem_mem _) b.l[i]) rfl (by refine zC7 ?_;refine zC7 ?_;exact rfl)) ?_
      refine zV lab ?_;refine znD ?_;refine zR ?_;refine zV laa ?_;refine zV laB ?_;refine zV lab ?_;refine zn ?_
      exact ⟨a.l.length - (i + 1), _, _, by omega, (gh_lit [(2, .one (.ptr 2 0)), (3, .one (.ptr 3 0)), (5, .one (.bool (a.l[i].same b.l[i]))), (6, .one (.int .i64 (((i + 1) : Nat) : Int)))] [(2, .obj a.c), (3, .obj b.c)] [] [] ⟨(zw rfl zo), (zw rfl zo), (zw rfl zo), (zw rfl zo), zo⟩ ⟨(by exact zb rfl), (by exact zb rfl), zo⟩ trivial zo rfl rfl ⟨⟨_, rfl⟩, ⟨_, rfl⟩, zo, zo, zo⟩ ⟨(by exact ⟨zo, zo, zo, zo, zo, zo, zo, zo⟩), (by exact ⟨zo, zo, zo, zo, zo, zo, zo, zo⟩), zo⟩), i + 1, _, by omega, rfl, fun _ => hlen, by rw [hinv, hs]; rfl, rfl, rfl⟩
set_option maxHeartbeats 2000000 in
theorem nodesOf_a (a : Tm) (hsz : a.nodes ≤ 1048576) : ACalls Tryz.prog 43 [a.u] [] (.one (.int .i64 ((a.nodes : Nat) : Int))) [] := by
  refine acalls_of_body Tryz.func43 rfl (by kernel_rfl) (Nat.le_of_ble_eq_true rfl) zo (by simp [namesL]) ?_
  refine zq ?_
  refine zR ?_
  refine zM lan ?_;refine zV lab ?_;refine zn ?_
  refine zq ?_
  refine zRD ?_
  refine zV lai ?_
  refine zM (loc_buildOwnD (len := 1) (rows := [a.c]) (by exact rfl) (by exact rfl) (by decide) (by decide) (by exact RowsOf.cons (by exact rfl) RowsOf.nil) (by exact AllP.cons rfl AllP.nil) (by exact rfl) (by exact rfl) (by exact rfl)) ?_
  refine zV lab ?_;refine zV lab ?_;refine znD ?_;refine zq ?_;refine zbl ?_
  refine AW.gh (gh_lit [(3, .one (.int .i64 ((0 : Nat) : Int))), (4, .one (.own 7 (0) (1)))] [(7, .row 27 7 (0) ([a.c]))] [] [] ⟨(zw rfl zo), (by exact WkU.of_eq rfl zo), zo⟩ ⟨(by exact zb rfl), zo⟩ trivial zo rfl rfl ⟨zo, ⟨_, _, _, _, rfl, Nat.le_refl _⟩, zo⟩ ⟨(okRows_closed (by exact rfl)), zo⟩) ?_
  rw [show [a.c] = tmRows [a] by simp [tmRows, Tm.cells_c]]
  refine AW.loop (fun m t h => ∃ (st : List Tm) (c v : Nat), m = nodesL st ∧ c + nodesL st = a.nodes ∧ t = tOfL [(3, .one (.int .i64 ((c : Nat) : Int))), (4, .one (.own 7 (v) (st.length)))] ∧ h = ofL [(7, .row 27 7 (v) (tmRows st))]) a.nodes ⟨[a], 0, 0, by simp [nodesL], by simp [nodesL], rfl, rfl⟩ ?_
  rintro m t h ⟨st, c, v, rfl, hc, rfl, rfl⟩
  have hlen := nodesL_len st
  rcases List.eq_nil_or_concat st with rfl | ⟨st', x, he⟩
  · have hd : decide ((([] : List Tm).length : Nat) > (0 : Int)) = false := rfl
    have hcn : c = a.nodes := by simpa [nodesL] using hc
    subst hcn
    refine zq ?_;refine zQ ?_;refine zV laa ?_;refine zV laL ?_;refine zV lac ?_;refine zn ?_;refine zcF ?_;refine zex ?_;refine zQ ?_;refine zV laa ?_;refine zV lab ?_;refine zn ?_;refine zre ?_
    exact ret_same (.inr rfl) rfl zo
  · rw [List.concat_eq_append] at he
    subst he
    have hls : (st' ++ [x]).length = st'.length + 1 := by simp
    have hd : decide ((((st' ++ [x]).length : Nat) : Int) > 0) = true := by rw [hls]; simp
    have hrow : (tmRows (st' ++ [x]))[st'.length]? = some x.c := by rw [tmRows_append, List.getElem?_append_right (by rw [tmRows_length]; exact Nat.le_refl _), tmRows_length]; simp [tmRows, Tm.cells_c]
    have hrl : (tmRows (st' ++ [x])).length = st'.length + 1 := by rw [tmRows_length, hls]
    have hn1 : nodesL (st' ++ [x]) = nodesL st' + (1 + nodesL x.l) := by rw [nodesL_append]; simp only [nodesL]; rw [nodes_eta x]; omega
    have hn2 := nodesL_len st'
    have hn3 := nodesL_len x.l
    have hk7 := tmRows_len7 x.l
    have hxl := tmRows_length x.l
    refine zq ?_;refine zQ ?_;refine zV laa ?_;refine zV laL ?_;refine zV lac ?_;refine zn ?_;refine zaT ?_;refine zsk ?_;refine zbl ?_;refine zQ ?_;refine zV laa ?_;refine zV laa ?_;refine zV laL ?_;refine zV laJ ?_
    refine zV (laG st'.length (by exact rfl) (by exact rfl) (by omega) (by exact rfl) (by omega)) ?_
    refine zV (loc_loadEA rfl rfl (by assumption) (by exact Cut.all (by exact rfl))) ?_;refine zM lah ?_;refine zE laf ?_;refine zn ?_;refine zq ?_;refine zRD ?_;refine zV laa ?_;refine zV laa ?_;refine zV laL ?_;refine zV laJ ?_
    refine zV (loc_sliceOwn (n' := st'.length) (by exact rfl) (by exact rfl) (by omega) (by exact rfl) (by omega) (by omega)) ?_
    refine zV lad ?_;refine zV lae ?_
    refine zM (loc_appendOwn (news := tmRows x.l) (rows0 := tmRows st') (by exact rfl) (by exact rfl) (by exact rfl) (by exact .inr (.inl rfl)) (by omega) (by rw [tmRows_append, List.take_left' (tmRows_length _)]) hk7 (by unfold maxLen; omega) (by omega)) ?_
    rw [← tmRows_append]
    refine zV lab ?_;refine znD ?_;refine zR ?_;refine zV laa ?_;refine zV laB ?_;refine zV lab ?_;refine zn ?_
    exact ⟨nodesL (st' ++ x.l), _, _, by rw [nodesL_append]; omega, (gh_lit [(3, .one (.int .i64 (((c + 1) : Nat) : Int))), (4, .one (.own 7 ((v + 1)) ((st'.length + (tmRows x.l).length))))] [(7, .row 27 7 ((v + 1)) (tmRows (st' ++ x.l)))] [] [] ⟨(zw rfl zo), (by exact WkU.of_eq rfl zo), zo⟩ ⟨(by exact zb rfl), zo⟩ trivial zo rfl rfl ⟨zo, ⟨_, _, _, _, rfl, Nat.le_refl _⟩, zo⟩ ⟨(okRows_closed (by exact closed_tmRows _)), zo⟩), st' ++ x.l, c + 1, v + 1, rfl, by rw [nodesL_append]; omega, by rw [List.length_append, hxl], rfl⟩
end Go.Proofs.YtnflnbdlgdjfmabGreatDoor
namespace Go.Proofs.YtnflnbdlgdjfmabGreatDoor
open Go.RowKit
set_option linter.unusedVariables false
set_option linter.unusedSimpArgs false
set_option maxRecDepth 100000
attribute [local irreducible] RunL AW LocOp ACalls Gh
set_option maxHeartbeats 4000000 in
theorem eraseOf_n : ∀ (N : Nat) (a : Tm), a.nodes ≤ N → N ≤ 1048576 → ACalls Tryz.prog 26 [a.u] [] (eraseT a).u [] := by
  intro N
  induction N with
  | zero => intro a h; have := nodes_pos a; omega
  | succ N ih =>
  intro a haN hN
  refine acalls_of_body Tryz.func26 rfl (by kernel_rfl) (Nat.le_of_ble_eq_true rfl) zo (by simp [namesL]) ?_
  refine zQ ?_;refine zM lan ?_;refine zM lah ?_;refine zn ?_;refine zq ?_;refine zbl ?_
  refine AW.gh (gh_lit [(1, .one (.ptr 1 0)), (2, .one (.ptr 2 0))] [(1, .obj a.c), (2, .obj Tm.zero.c)] [] [] ⟨(zw rfl zo), (zw rfl zo), zo⟩ ⟨(by exact zb rfl), (by (refine Or.inl ⟨_, rfl, ?_⟩; show All2 _ _ _;exact ⟨WkC.le (LeC.refl _), WkC.le (LeC.refl _), WkC.le (LeC.refl _), WkC.le (LeC.nil _), WkC.le (LeC.refl _), WkC.le (LeC.nil _), WkC.le (LeC.nil _), zo⟩)), zo⟩ trivial zo rfl rfl ⟨⟨_, rfl⟩, ⟨_, rfl⟩, zo⟩ ⟨(by exact ⟨zo, zo, zo, zo, zo, zo, zo, zo⟩), (by exact ⟨zo, zo, zo, zo, zo, zo, zo, zo⟩), zo⟩) ?_
  refine AW.loop (fun m t h => ∃ b : Tm, m = b.nodes ∧ b.nodes ≤ N + 1 ∧ eraseT a = eraseT b ∧ t = tOfL [(1, .one (.ptr 1 0)), (2, .one (.ptr 2 0))] ∧ h = ofL [(1, .obj b.c), (2, .obj Tm.zero.c)]) a.nodes ⟨a, rfl, haN, rfl, rfl, rfl⟩ ?_
  rintro m t h ⟨b, rfl, hb, hab, rfl, rfl⟩
  have hne := nodes_eta b
  have hL := tmRows_length b.l
  refine zq ?_
  refine zq ?_
  refine AW.midC (fun t h => t = tOfL [(1, .one (.ptr 1 0)), (2, .one (.ptr 2 0)), (19, .one (.bool ((decide (b.k ≥ 9) && decide (b.k ≤ 10)) && (((tmRows b.l).length : Nat) : Int) == 1)))] ∧ h = ofL [(1, .obj b.c), (2, .obj Tm.zero.c)]) ?_ ?_
  · cases h9 : decide (b.k ≥ 9) with
    | false =>
      refine zR ?_;refine zV lad ?_;refine zV lae ?_;refine zV lac ?_;refine zV laa ?_;refine zf ?_;refine zf ?_;refine zf ?_;refine zV (lam false) ?_;refine zV laa ?_;refine zs ?_;refine zs ?_;refine zs ?_;refine zs ?_;refine zV lax ?_;refine zn ?_
      exact ⟨_, _, (gh_lit [(1, .one (.ptr 1 0)), (2, .one (.ptr 2 0)), (19, .one (.bool (false)))] [(1, .obj b.c), (2, .obj Tm.zero.c)] [] [] ⟨(zw rfl zo), (zw rfl zo), (zw rfl zo), zo⟩ ⟨(by exact zb rfl), (by exact zb rfl), zo⟩ trivial zo rfl rfl ⟨⟨_, rfl⟩, ⟨_, rfl⟩, zo, zo⟩ ⟨(by exact ⟨zo, zo, zo, zo, zo, zo, zo, zo⟩), (by exact ⟨zo, zo, zo, zo, zo, zo, zo, zo⟩), zo⟩), by simp, rfl⟩
    | true =>
    cases h10 : decide (b.k ≤ 10) with
    | false =>
      refine zR ?_;refine zV lad ?_;refine zV lae ?_;refine zV lac ?_;refine zV laa ?_;refine zT lad ?_;refine zT lae ?_;refine zT lac ?_;refine zV (lam true) ?_;refine zV laa ?_;refine zf ?_;refine zf ?_;refine zf ?_;refine zf ?_;refine zV (lam false) ?_;refine zn ?_
      exact ⟨_, _, (gh_lit [(1, .one (.ptr 1 0)), (2, .one (.ptr 2 0)), (19, .one (.bool (false)))] [(1, .obj b.c), (2, .obj Tm.zero.c)] [] [] ⟨(zw rfl zo), (zw rfl zo), (zw rfl zo), zo⟩ ⟨(by exact zb rfl), (by exact zb rfl), zo⟩ trivial zo rfl rfl ⟨⟨_, rfl⟩, ⟨_, rfl⟩, zo, zo⟩ ⟨(by exact ⟨zo, zo, zo, zo, zo, zo, zo, zo⟩), (by exact ⟨zo, zo, zo, zo, zo, zo, zo, zo⟩), zo⟩), by simp, rfl⟩
    | true =>
      refine zR ?_;refine zV lad ?_;refine zV lae ?_;refine zV lac ?_;refine zV laa ?_;refine zT lad ?_;refine zT lae ?_;refine zT lac ?_;refine zV (lam true) ?_;refine zV laa ?_;refine zT lad ?_;refine zT lae ?_;refine zT lay ?_;refine zT lac ?_;refine zV (lam true) ?_;refine zn ?_
      exact ⟨_, _, (gh_lit [(1, .one (.ptr 1 0)), (2, .one (.ptr 2 0)), (19, .one (.bool ((((tmRows b.l).length : Nat) : Int) == 1)))] [(1, .obj b.c), (2, .obj Tm.zero.c)] [] [] ⟨(zw rfl zo), (zw rfl zo), (zw rfl zo), zo⟩ ⟨(by exact zb rfl), (by exact zb rfl), zo⟩ trivial zo rfl rfl ⟨⟨_, rfl⟩, ⟨_, rfl⟩, zo, zo⟩ ⟨(by exact ⟨zo, zo, zo, zo, zo, zo, zo, zo⟩), (by exact ⟨zo, zo, zo, zo, zo, zo, zo, zo⟩), zo⟩), by simp, rfl⟩
  · rintro t h ⟨rfl, rfl⟩
    have hE : ((decide (b.k ≥ 9) && decide (b.k ≤ 10)) && (((tmRows b.l).length : Nat) : Int) == 1) = ((b.k == 10 || b.k == 9) && b.l.length == 1) := by
      rw [hL]
      have e1 : (((b.l.length : Nat) : Int) == 1) = (b.l.length == 1) := by rw [Bool.eq_iff_iff]; simp; omega
      have e2 : (decide (b.k ≥ 9) && decide (b.k ≤ 10)) = (b.k == 10 || b.k == 9) := by rw [Bool.eq_iff_iff]; simp; omega
      rw [e1, e2]
    rw [hE]
    cases hc : ((b.k == 10 || b.k == 9) && b.l.length == 1) with
    | true =>
      have hl1 : b.l.length = 1 := by simp at hc; exact hc.2
      obtain ⟨x, hx⟩ := len1 hl1
      have hr1 : (tmRows b.l)[0]? = some x.c := by rw [hx]; simp [tmRows, Tm.cells_c]
      have hn3 := nodes_mem (l := b.l) (a := x) (by rw [hx]; simp)
      refine zcT ?_;refine zsk ?_;refine zbl ?_;refine zR ?_;refine zV lad ?_;refine zV lae ?_;refine zV (lap _) ?_;refine zV lao ?_;refine zE laf ?_;refine zn ?_
      exact ⟨x.nodes, _, _, by omega, (gh_lit [(1, .one (.ptr 1 0)), (2, .one (.ptr 2 0))] [(1, .obj x.c), (2, .obj Tm.zero.c)] [] [] ⟨(zw rfl zo), (zw rfl zo), zo⟩ ⟨(by exact zb rfl), (by exact zb rfl), zo⟩ trivial zo rfl rfl ⟨⟨_, rfl⟩, ⟨_, rfl⟩, zo⟩ ⟨(by exact ⟨zo, zo, zo, zo, zo, zo, zo, zo⟩), (by exact ⟨zo, zo, zo, zo, zo, zo, zo, zo⟩), zo⟩), x, rfl, by omega, by rw [hab, eraseT_one hc hx], rfl, rfl⟩
    | false =>
      rw [eraseT_all hc] at hab
      rw [hab]
      refine zcF ?_;refine zex ?_;refine zQ ?_;refine zV lad ?_;refine zV lae ?_;refine zV lad ?_;refine zV lae ?_;refine zV laq ?_;refine zM lah ?_;refine zE laf ?_;refine zn ?_;refine zq ?_;refine zQ ?_;refine zV lad ?_;refine zV lae ?_;refine zV lay ?_;refine zV laa ?_;refine zn ?_;refine zbl ?_
      refine AW.gh (gh_lit [(2, .one (.ptr 2 0)), (3, .one (.ptr 3 0)), (30, .one (slOf 7 (tmRows b.l))), (31, .one (.int .i64 ((tmRows b.l).length : Nat))), (32, .one (.int .i64 ((0 : Nat) : Int)))] [(2, .obj Tm.zero.c), (3, .obj [.int .i64 b.k, .int .i64 b.n, .int .i64 0, slOf 2 [], .int .i64 0, slOf 2 [], .own 105 (0) (0)]), (105, .row 27 7 (0) (tmRows (eraseL (b.l.take (0)))))] [] [105] ⟨(zw rfl zo), (zw rfl zo), (by exact WkU.of_eq rfl zo), (zw rfl zo), (zw rfl zo), zo⟩ ⟨(by exact zb rfl), (by (refine Or.inl ⟨_, rfl, ?_⟩; show All2 _ _ _;exact ⟨WkC.le (LeC.refl _), WkC.le (LeC.refl _), WkC.le (LeC.refl _), WkC.le (LeC.nil _), WkC.le (LeC.refl _), WkC.le (LeC.nil _), WkC.nil (List.mem_cons_self ..), zo⟩)), (by exact Or.inr ⟨rfl, List.mem_cons_self .., _, _, by decide, rfl⟩), zo⟩ trivial ⟨rfl, zo⟩ rfl rfl ⟨⟨_, rfl⟩, ⟨_, rfl⟩, zo, zo, zo, zo⟩ ⟨(by exact ⟨zo, zo, zo, zo, zo, zo, zo, zo⟩), (by exact ⟨zo, zo, zo, zo, zo, zo, ⟨_, _, _, _, rfl, Nat.le_refl _⟩, zo⟩), (okRows_closed (by exact rfl)), zo⟩) ?_
      refine AW.lenSl 30 rfl fun hmax => ?_
      refine AW.loop (fun m t h => ∃ i : Nat, i ≤ b.l.length ∧ m = b.l.length - i ∧ t = tOfL [(2, .one (.ptr 2 0)), (3, .one (.ptr 3 0)), (30, .one (slOf 7 (tmRows b.l))), (31, .one (.int .i64 ((tmRows b.l).length : Nat))), (32, .one (.int .i64 ((i : Nat) : Int)))] ∧ h = ofL [(2, .obj Tm.zero.c), (3, .obj [.int .i64 b.k, .int .i64 b.n, .int .i64 0, slOf 2 [], .int .i64 0, slOf 2 [], .own 105 (i) (i)]), (105, .row 27 7 (i) (tmRows (eraseL (b.l.take (i)))))]) b.l.length ⟨0, Nat.zero_le _, rfl, rfl, rfl⟩ ?_
      rintro m t h ⟨i, hi, rfl, rfl, rfl⟩
      have htk : (tmRows (eraseL (b.l.take i))).length = i := by rw [tmRows_length, eraseL_length, List.length_take]; omega
      have hnn := nodesL_len b.l
      cases hlt : decide ((i : Int) < ((tmRows b.l).length : Nat)) with
      | false =>
        have hil : i = b.l.length := by simp at hlt; omega
        refine zQ ?_;refine zV lac ?_;refine zn ?_;refine zq ?_;refine zaF ?_;refine zex ?_;refine zQ ?_;refine zV lai ?_;refine zE laf ?_;refine zn ?_;refine zre ?_
        refine rq ?_
        refine ret_cell (by exact .inr rfl) (by exact rfl) (by exact rfl) (by exact rfl) [105] (by exact ⟨⟨_, rfl, closed_tmRows _⟩, zo⟩) (l' := (Tm.mk b.k b.n .any .any (eraseL b.l)).c) (by exact ⟨.le (.refl _), .le (.refl _), .le (.refl _), .le (.refl _), .le (.refl _), .le (.refl _), .row (List.mem_cons_self ..) rfl htk (by rw [hil, List.take_length];exact LeRows.refl _), zo⟩) (by exact ⟨zo, zo, zo, zo, zo, zo, zo, zo⟩) (by exact rfl)
      | true =>
        have hil : i < b.l.length := by simp at hlt; omega
        have hr1 := tmRows_get hil
        have hn3 := nodes_mem (List.getElem_mem hil)
        refine zQ ?_;refine zV lac ?_;refine zn ?_;refine zq ?_;refine zaT ?_;refine zsk ?_;refine zq ?_;refine zbl ?_;refine zQ ?_;refine zV (lap _) ?_;refine zV lao ?_;refine zM lah ?_;refine zE laf ?_;refine zn ?_;refine zRD ?_;refine zV lad ?_;refine zV lae ?_;refine zV lai ?_
        refine zV (lal (ih b.l[i] (by omega) (by omega)) rfl (by refine zC7 ?_;exact rfl)) ?_
        refine zV laF ?_
        refine zM (laK (by exact rfl) (by exact rfl) (by exact rfl) (by exact .inl rfl) (by exact htk) (by exact ⟨rfl, zo⟩) (by simp only [List.length_cons, List.length_nil]; omega)) ?_
        have hrows : tmRows (eraseL (b.l.take i)) ++ [(eraseT b.l[i]).c] = tmRows (eraseL (b.l.take (i + 1))) := by
          rw [eraseL_take hil, tmRows_append]; simp [tmRows, Tm.cells_c]
        rw [hrows]
        refine zV lad ?_;refine zE lav ?_;refine znD ?_;refine zR ?_;refine zV laB ?_;refine zV laa ?_;refine zn ?_
        exact ⟨b.l.length - (i + 1), _, _, by omega, (gh_lit [(2, .one (.ptr 2 0)), (3, .one (.ptr 3 0)), (30, .one (slOf 7 (tmRows b.l))), (31, .one (.int .i64 ((tmRows b.l).length : Nat))), (32, .one (.int .i64 (((i + 1) : Nat) : Int)))] [(2, .obj Tm.zero.c), (3, .obj [.int .i64 b.k, .int .i64 b.n, .int .i64 0, slOf 2 [], .int .i64 0, slOf 2 [], .own 105 ((i + 1)) ((i + 1))]), (105, .row 27 7 ((i + 1)) (tmRows (eraseL (b.l.take ((i + 1))))))] [] [] ⟨(zw rfl zo), (zw rfl zo), (by exact WkU.of_eq rfl zo), (zw rfl zo), (zw rfl zo), zo⟩ ⟨(by exact zb rfl), (by exact zb rfl), (by exact zb rfl), zo⟩ trivial zo rfl rfl ⟨⟨_, rfl⟩, ⟨_, rfl⟩, zo, zo, zo, zo⟩ ⟨(by exact ⟨zo, zo, zo, zo, zo, zo, zo, zo⟩), (by exact ⟨zo, zo, zo, zo, zo, zo, ⟨_, _, _, _, rfl, Nat.le_refl _⟩, zo⟩), (okRows_closed (by exact closed_tmRows _)), zo⟩), i + 1, by omega, rfl, rfl, rfl⟩
theorem eraseOf_a (a : Tm) (hsz : a.nodes ≤ 1048576) : ACalls Tryz.prog 26 [a.u] [] (eraseT a).u [] := eraseOf_n a.nodes a (Nat.le_refl _) hsz
end Go.Proofs.YtnflnbdlgdjfmabGreatDoor
