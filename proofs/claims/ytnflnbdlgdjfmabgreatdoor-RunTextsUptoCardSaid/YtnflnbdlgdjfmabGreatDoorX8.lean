/-
  Merged texts of the proof. Conditions: those typed in each theorem.
-/
import Derived.Test.YtnflnbdlgdjfmabGreatDoorX7
import Derived.WalkKit
import Derived.Carry
import Derived.MapKept
set_option linter.unusedVariables false
set_option linter.unusedSimpArgs false
namespace Go.Proofs.YtnflnbdlgdjfmabGreatDoor
open Go.RowKit
set_option maxRecDepth 100000
attribute [local irreducible] RunL AW LocOp ACalls Gh
theorem okW1 {g F : Nat} : OkL [(1000, .obj (wOk g F))] := by
  intro b x hx
  have := ld6 hx
  cases List.mem_singleton.1 this
  exact okBlk_of okW
section
variable (g F : Nat) (n : Int) (T f : Ty) (env : List V)
set_option maxHeartbeats 4000000 in
theorem eva_if (a b c : Tm) {r r1 : Res} (ha : EvA g a env F r1)
    (hC : (∃ o, r1 = .out o ∧ (o.kind != 0) = true ∧ r = .out o) ∨ (∃ v F1 k1 n1 d tg, r1 = .ok v F1 ∧ V.th g v = [.int .i64 k1, .int .i64 n1, d, .int .i64 tg] ∧ closedC d = true ∧ r = .out .stuck ∧ ((tg != 0) = true ∨ ((tg != 0) = false ∧ (k1 != 2) = true)))
      ∨ (∃ F1, r1 = .ok (.tru 1) F1 ∧ EvA g b env F1 r) ∨ (∃ F1, r1 = .ok (.tru 0) F1 ∧ EvA g c env F1 r)) : EvA g (.mk 6 n T f [a, b, c]) env F r := by
  obtain ⟨k', n', d', tg', hc, e⟩ := lcG g r
  have hr1 : (tmRows [a, b, c])[0]? = some a.c := by simp [tmRows, Tm.cells_c]
  have hr2 : (tmRows [a, b, c])[1]? = some b.c := by simp [tmRows, Tm.cells_c]
  have hr3 : (tmRows [a, b, c])[2]? = some c.c := by simp [tmRows, Tm.cells_c]
  unfold EvA at ha hC ⊢
  let t : Tm := .mk 6 n T f [a, b, c]
  refine zB1 Tryz.func41 ?_;refine zQ ?_;refine zM laE ?_;refine zM lan ?_;refine zM laE ?_;refine zM lah ?_;refine zn ?_;refine AW.gh (lbV (bw := 3) (b := 1000) (by exact rfl) (by exact rfl) lau) ?_;refine AW.gh (laZ [(3, .one (fpo [.raw g 0] 0)), (4, .one (fpo (t).c 0)), (5, .one (fpo [slOf 4 (thRows g env)] 0)), (6, .one (.ptr 6 0))] [(1000, .obj (wOk g F)), (6, .obj th0)] [3, 4, 5] [] ⟨(by exact WkC.obj (List.mem_cons_self ..) rfl (la0 _)), (by exact WkC.obj (by decide) rfl (la0 _)), (by exact WkC.obj (by decide) rfl (la0 _)), (zw rfl zo), zo⟩ ⟨(by exact zb rfl), (by exact zb rfl), zo⟩ ⟨⟨_, rfl, rfl⟩, ⟨_, rfl, rfl⟩, ⟨_, rfl, rfl⟩, zo⟩ trivial rfl rfl ⟨zo, zo, zo, ⟨_, rfl⟩, zo⟩ ⟨(by exact ⟨zo, zo, zo, ⟨_, rfl⟩, zo⟩), (by exact ⟨zo, zo, zo, zo, zo⟩), zo⟩) ?_
  refine zq (zQ ?_);refine zV (lav (b := 1000) (by exact rfl) (by exact rfl) (by exact rfl) (by exact lau)) ?_;refine zV lag ?_;refine zV lad ?_;refine zV lad ?_;refine zV lae ?_;refine zV lac ?_;refine zn ?_;refine zcF ?_;refine zsk (zq (zQ ?_));refine zV lak ?_;refine zV lai ?_;refine zn (zbl (zQ ?_));refine zV lac ?_;refine zV lab ?_;refine zn ?_;refine zcF ?_;refine zq (zQ ?_);refine zV lac ?_;refine zV lab ?_;refine zn ?_;refine zcF ?_;refine zR ?_;refine zV lac ?_;refine zV lab ?_;refine zn ?_;refine zcF ?_;refine zQ ?_;refine zV lac ?_;refine zV lab ?_;refine zn ?_;refine zcF ?_;refine zQ ?_;refine zV lac ?_;refine zV lab ?_;refine zn ?_;refine zcF ?_;refine zQ ?_;refine zV lac ?_;refine zV lab ?_;refine zn ?_;refine zcF ?_;refine zsk (zq ?_);refine zRD ?_;refine zV (lav (b := 1000) (by exact rfl) (by exact rfl) (by exact rfl) (by exact lau)) ?_;refine zV lak ?_;refine zV lai ?_;refine zV (lap _) ?_;refine zV lao ?_;refine zV lai ?_
  rcases hC with ⟨o, rfl, ho, rfl⟩ | ⟨v, F1, k1, n1, d, tg, rfl, ev, hd, rfl, htg⟩ | ⟨F1, rfl, hb⟩ | ⟨F1, rfl, hb⟩
  · replace ha : ACalls _ _ _ _ (.agg th0) [(1000, .obj (wEnd g o))] := ha
    refine zY (lat (ha) rfl (by refine ⟨_, _, rfl, (by exact LeU.of_eq rfl zo), (by exact Exists.intro _ rfl), ?_⟩;refine zC7 ?_;refine zC ?_;exact rfl)) ?_
    refine zM lah ?_;refine zE laf ?_;refine znD ?_;refine zq (zQ ?_);refine zV (lav (b := 1000) (by exact rfl) (by exact rfl) (by exact rfl) (by exact laR)) ?_;refine zV lag ?_;refine zV lad ?_;refine zV lad ?_;refine zV lae ?_;refine zV lac ?_;refine zn ?_;refine zaT ?_;refine zQ ?_;refine zV laq ?_;refine zE laf ?_;refine zn (zre ?_)
    exact lbj (.inr rfl) (by exact rfl) (by exact rfl) (laX _) rfl (by exact rfl) (laX _) okT0 okE
  · replace ha : ACalls _ _ _ _ (.agg (V.th g v)) [(1000, .obj (wOk g F1))] := ha
    rw [ev] at ha
    rcases htg with htg | ⟨htg, hk⟩
    · refine zY (lat (ha) rfl (by refine ⟨_, _, rfl, (by exact LeU.of_eq rfl trivial), (by exact Exists.intro _ rfl), ?_⟩; refine zC7 ?_; refine zC ?_; exact rfl)) ?_
      refine zM lah ?_;refine zE laf ?_;refine znD ?_;refine zq (zQ ?_);refine zV (lav (b := 1000) (by exact rfl) (by exact rfl) (by exact rfl) (by exact lau)) ?_;refine zV lag ?_;refine zV lad ?_;refine zV lad ?_;refine zV lae ?_;refine zV lac ?_;refine zn ?_;refine zcF ?_;refine zsk (zq (zQ ?_));refine zV lak ?_;refine zV lai ?_;refine zV lac ?_;refine zn ?_;refine zcT ?_;refine zq (zQ ?_);refine zV lad ?_;refine zV lae ?_;refine zV lac ?_;refine zV laa ?_;refine zt ?_;refine zt ?_;refine zt ?_;refine zV (lam true) ?_;refine zn ?_;refine zcT ?_;refine zQ ?_;refine zV (lav (b := 1000) (by exact rfl) (by exact rfl) (by exact rfl) (by exact lau)) ?_
      refine zY (lat (lci g F1) rfl (by refine ⟨_, _, rfl, (by exact LeU.of_eq rfl zo), (by exact Exists.intro _ rfl), ?_⟩;exact rfl)) ?_
      refine zE laf ?_;refine zn (zre ?_)
      exact lbj (.inr rfl) (by exact rfl) (by exact rfl) (laX _) rfl (by exact rfl) (laX _) okT0 okE
    · refine zY (lat (ha) rfl (by refine ⟨_, _, rfl, (by exact LeU.of_eq rfl trivial), (by exact Exists.intro _ rfl), ?_⟩; refine zC7 ?_; refine zC ?_; exact rfl)) ?_
      refine zM lah ?_;refine zE laf ?_;refine znD ?_;refine zq (zQ ?_);refine zV (lav (b := 1000) (by exact rfl) (by exact rfl) (by exact rfl) (by exact lau)) ?_;refine zV lag ?_;refine zV lad ?_;refine zV lad ?_;refine zV lae ?_;refine zV lac ?_;refine zn ?_;refine zcF ?_;refine zsk (zq (zQ ?_));refine zV lak ?_;refine zV lai ?_;refine zV lac ?_;refine zn ?_;refine zcT ?_;refine zq (zQ ?_);refine zV lad ?_;refine zV lae ?_;refine zV lac ?_;refine zV laa ?_;refine zF lad ?_;refine zF lae ?_;refine zF lac ?_;refine zV (lam false) ?_;refine zn ?_;refine zaT ?_;refine zQ ?_;refine zV (lav (b := 1000) (by exact rfl) (by exact rfl) (by exact rfl) (by exact lau)) ?_
      refine zY (lat (lci g F1) rfl (by refine ⟨_, _, rfl, (by exact LeU.of_eq rfl zo), (by exact Exists.intro _ rfl), ?_⟩;exact rfl)) ?_
      refine zE laf ?_;refine zn (zre ?_)
      exact lbj (.inr rfl) (by exact rfl) (by exact rfl) (laX _) rfl (by exact rfl) (laX _) okT0 okE
  · replace ha : ACalls _ _ _ _ (.agg [.int .i64 2, .int .i64 1, .nilf, .int .i64 0]) [(1000, .obj (wOk g F1))] := ha
    rw [e] at hb ⊢
    refine zY (lat (ha) rfl (by refine ⟨_, _, rfl, (by exact LeU.of_eq rfl zo), (by exact Exists.intro _ rfl), ?_⟩;refine zC7 ?_;refine zC ?_;exact rfl)) ?_
    refine zM lah ?_;refine zE laf ?_;refine znD ?_;refine zq (zQ ?_);refine zV (lav (b := 1000) (by exact rfl) (by exact rfl) (by exact rfl) (by exact lau)) ?_;refine zV lag ?_;refine zV lad ?_;refine zV lad ?_;refine zV lae ?_;refine zV lac ?_;refine zn ?_;refine zcF ?_;refine zsk (zq (zQ ?_));refine zV lak ?_;refine zV lai ?_;refine zV lac ?_;refine zn ?_;refine zcT ?_;refine zq (zQ ?_);refine zV lad ?_;refine zV lae ?_;refine zV lac ?_;refine zV laa ?_;refine zI lad ?_;refine zI lae ?_;refine zI lac ?_;refine zV law ?_;refine zn ?_;refine zcF ?_;refine zsk (zq (zQ ?_));refine zV lad ?_;refine zV lae ?_;refine zV lac ?_;refine zn ?_;refine zcT ?_;refine zq ?_;refine zRD ?_;refine zV (lav (b := 1000) (by exact rfl) (by exact rfl) (by exact rfl) (by exact lau)) ?_;refine zV lak ?_;refine zV lai ?_;refine zV (lap _) ?_;refine zV lao ?_;refine zV lai ?_
    refine zY (lat (hb) rfl (by refine ⟨_, _, rfl, (by exact LeU.of_eq rfl zo), (by exact Exists.intro _ rfl), ?_⟩;refine zC7 ?_;refine zC ?_;exact rfl)) ?_
    refine zE laf ?_;refine znD ?_;refine zre ?_
    exact lbj (.inr rfl) (by exact rfl) (by exact rfl) (laX _) rfl (by exact rfl) (laX _) (by exact ⟨zo, zo, la5 hc, zo, zo⟩) lf3
  · replace ha : ACalls _ _ _ _ (.agg [.int .i64 2, .int .i64 0, .nilf, .int .i64 0]) [(1000, .obj (wOk g F1))] := ha
    rw [e] at hb ⊢
    refine zY (lat (ha) rfl (by refine ⟨_, _, rfl, (by exact LeU.of_eq rfl zo), (by exact Exists.intro _ rfl), ?_⟩;refine zC7 ?_;refine zC ?_;exact rfl)) ?_
    refine zM lah ?_;refine zE laf ?_;refine znD ?_;refine zq (zQ ?_);refine zV (lav (b := 1000) (by exact rfl) (by exact rfl) (by exact rfl) (by exact lau)) ?_;refine zV lag ?_;refine zV lad ?_;refine zV lad ?_;refine zV lae ?_;refine zV lac ?_;refine zn ?_;refine zcF ?_;refine zsk (zq (zQ ?_));refine zV lak ?_;refine zV lai ?_;refine zV lac ?_;refine zn ?_;refine zcT ?_;refine zq (zQ ?_);refine zV lad ?_;refine zV lae ?_;refine zV lac ?_;refine zV laa ?_;refine zI lad ?_;refine zI lae ?_;refine zI lac ?_;refine zV law ?_;refine zn ?_;refine zcF ?_;refine zsk (zq (zQ ?_));refine zV lad ?_;refine zV lae ?_;refine zV lac ?_;refine zn ?_;refine zcF ?_;refine zsk (zq ?_);refine zRD ?_;refine zV (lav (b := 1000) (by exact rfl) (by exact rfl) (by exact rfl) (by exact lau)) ?_;refine zV lak ?_;refine zV lai ?_;refine zV (lap _) ?_;refine zV lao ?_;refine zV lai ?_
    refine zY (lat (hb) rfl (by refine ⟨_, _, rfl, (by exact LeU.of_eq rfl zo), (by exact Exists.intro _ rfl), ?_⟩;refine zC7 ?_;refine zC ?_;exact rfl)) ?_
    refine zE laf ?_;refine znD ?_;refine zre ?_
    exact lbj (.inr rfl) (by exact rfl) (by exact rfl) (laX _) rfl (by exact rfl) (laX _) (by exact ⟨zo, zo, la5 hc, zo, zo⟩) lf3
inductive BinC (g : Nat) (k : Int) (b : Tm) (env : List V) : Res → Res → Prop
  | o {o : Out} (ho : (o.kind != 0) = true) : BinC g k b env (.out o) (.out o)
  | p {v : V} {F1 : Nat} {o : Out} (ho : (o.kind != 0) = true) (hb : EvA g b env F1 (.out o)) : BinC g k b env (.ok v F1) (.out o)
  | s8 {v w : V} {F1 F2 : Nat} {k1 n1 tg : Int} {d : C} (hb : EvA g b env F1 (.ok w F2)) (ev : V.th g v = [.int .i64 k1, .int .i64 n1, d, .int .i64 tg]) (hd : closedC d = true) (h8 : (k == 8) = true) (hs : (tg != 0) = true ∨ ((tg != 0) = false ∧ (k1 != 3) = true)) : BinC g k b env (.ok v F1) (.out .stuck)
  | s4 {v w : V} {F1 F2 : Nat} {k1 n1 tg k2 n2 tg2 : Int} {d d2 : C} (hb : EvA g b env F1 (.ok w F2)) (ev : V.th g v = [.int .i64 k1, .int .i64 n1, d, .int .i64 tg]) (hd : closedC d = true) (ew : V.th g w = [.int .i64 k2, .int .i64 n2, d2, .int .i64 tg2]) (hd2 : closedC d2 = true) (h8 : (k == 8) = false)
      (hs : (tg != 0) = true ∨ ((tg != 0) = false ∧ (k1 != 1) = true) ∨ ((tg != 0) = false ∧ (k1 != 1) = false ∧ (tg2 != 0) = true) ∨ ((tg != 0) = false ∧ (k1 != 1) = false ∧ (tg2 != 0) = false ∧ (k2 != 1) = true)) : BinC g k b env (.ok v F1) (.out .stuck)
  | call {v w : V} {F1 F2 : Nat} {fid : FuncId} {caps : List U} {r : Res} (hb : EvA g b env F1 (.ok w F2)) (h8 : (k == 8) = true) (ev : V.th g v = [.int .i64 3, .int .i64 0, cloOf fid caps, .int .i64 0]) (hcl : capsOk caps = true) (hap : ACalls Tryz.prog fid (.agg (V.th g w) :: caps) [(1000, .obj (wOk g F2))] (.agg (resC g r)) [(1000, .obj (wAft g r))]) : BinC g k b env (.ok v F1) r
  | add {p q : Int} {F1 F2 : Nat} (hb : EvA g b env F1 (.ok (.num q) F2)) (h8 : (k == 8) = false) (h4 : (k == 4) = true) (hp : -1000000 ≤ p ∧ p ≤ 1000000) (hq : -1000000 ≤ q ∧ q ≤ 1000000) : BinC g k b env (.ok (.num p) F1) (.ok (.num (min (max (p + q) (-1000000)) 1000000)) F2)
  | lt {p q : Int} {F1 F2 : Nat} (hb : EvA g b env F1 (.ok (.num q) F2)) (h8 : (k == 8) = false) (h4 : (k == 4) = false) (hlt : decide (p < q) = true) : BinC g k b env (.ok (.num p) F1) (.ok (.tru 1) F2)
  | ge {p q : Int} {F1 F2 : Nat} (hb : EvA g b env F1 (.ok (.num q) F2)) (h8 : (k == 8) = false) (h4 : (k == 4) = false) (hlt : decide (p < q) = false) : BinC g k b env (.ok (.num p) F1) (.ok (.tru 0) F2)
set_option maxHeartbeats 8000000 in
theorem lc8 (k : Int) (a b : Tm) {r r1 : Res} (k1 : (k == 1) = false) (k2 : (k == 2) = false) (k3 : (k == 3) = false) (k7 : (k == 7) = false) (k9 : (k == 9) = false) (k10 : (k == 10) = false) (k6 : (k == 6) = false)
    (ha : EvA g a env F r1) (hC : BinC g k b env r1 r) : EvA g (.mk k n T f [a, b]) env F r := by
  obtain ⟨k', n', d', tg', hc, e⟩ := lcG g r
  have hr1 : (tmRows [a, b])[0]? = some a.c := by simp [tmRows, Tm.cells_c]
  have hr2 : (tmRows [a, b])[1]? = some b.c := by simp [tmRows, Tm.cells_c]
  unfold EvA at ha ⊢
  let t : Tm := .mk k n T f [a, b]
  refine zB1 Tryz.func41 ?_;refine zQ ?_;refine zM laE ?_;refine zM lan ?_;refine zM laE ?_;refine zM lah ?_;refine zn ?_;refine AW.gh (lbV (bw := 3) (b := 1000) (by exact rfl) (by exact rfl) lau) ?_;refine AW.gh (laZ [(3, .one (fpo [.raw g 0] 0)), (4, .one (fpo (t).c 0)), (5, .one (fpo [slOf 4 (thRows g env)] 0)), (6, .one (.ptr 6 0))] [(1000, .obj (wOk g F)), (6, .obj th0)] [3, 4, 5] [] ⟨(by exact WkC.obj (List.mem_cons_self ..) rfl (la0 _)), (by exact WkC.obj (by decide) rfl (la0 _)), (by exact WkC.obj (by decide) rfl (la0 _)), (zw rfl zo), zo⟩ ⟨(by exact zb rfl), (by exact zb rfl), zo⟩ ⟨⟨_, rfl, rfl⟩, ⟨_, rfl, rfl⟩, ⟨_, rfl, rfl⟩, zo⟩ trivial rfl rfl ⟨zo, zo, zo, ⟨_, rfl⟩, zo⟩ ⟨(by exact ⟨zo, zo, zo, ⟨_, rfl⟩, zo⟩), (by exact ⟨zo, zo, zo, zo, zo⟩), zo⟩) ?_
  refine zq (zQ ?_);refine zV (lav (b := 1000) (by exact rfl) (by exact rfl) (by exact rfl) (by exact lau)) ?_;refine zV lag ?_;refine zV lad ?_;refine zV lad ?_;refine zV lae ?_;refine zV lac ?_;refine zn ?_;refine zcF ?_;refine zsk (zq (zQ ?_));refine zV lak ?_;refine zV lai ?_;refine zn (zbl (zQ ?_));refine zV lac ?_;refine zV lab ?_;refine zn ?_;refine zaF ?_;refine zq (zQ ?_);refine zV lac ?_;refine zV lab ?_;refine zn ?_;refine zaF ?_;refine zR ?_;refine zV lac ?_;refine zV lab ?_;refine zn ?_;refine zaF ?_;refine zQ ?_;refine zV lac ?_;refine zV lab ?_;refine zn ?_;refine zaF ?_;refine zQ ?_;refine zV lac ?_;refine zV lab ?_;refine zn ?_;refine zaF ?_;refine zQ ?_;refine zV lac ?_;refine zV lab ?_;refine zn ?_;refine zaF ?_;refine zsk (zq ?_);refine zRD ?_;refine zV (lav (b := 1000) (by exact rfl) (by exact rfl) (by exact rfl) (by exact lau)) ?_;refine zV lak ?_;refine zV lai ?_;refine zV (lap _) ?_;refine zV lao ?_;refine zV lai ?_
  cases hC with
  | o ho =>
    rename_i o
    replace ha : ACalls _ _ _ _ (.agg th0) [(1000, .obj (wEnd g o))] := ha
    refine zY (lat (ha) rfl (by refine ⟨_, _, rfl, (by exact LeU.of_eq rfl zo), (by exact Exists.intro _ rfl), ?_⟩;refine zC7 ?_;refine zC ?_;exact rfl)) ?_
    refine zM lah ?_;refine zE laf ?_;refine znD ?_;refine zq (zQ ?_);refine zV (lav (b := 1000) (by exact rfl) (by exact rfl) (by exact rfl) (by exact laR)) ?_;refine zV lag ?_;refine zV lad ?_;refine zV lad ?_;refine zV lae ?_;refine zV lac ?_;refine zn ?_;refine zaT ?_;refine zQ ?_;refine zV laq ?_;refine zE laf ?_;refine zn (zre ?_)
    exact lbj (.inr rfl) (by exact rfl) (by exact rfl) (laX _) rfl (by exact rfl) (laX _) okT0 okE
  | p ho hb =>
    rename_i v F1 o
    obtain ⟨d, hd, tg, ev⟩ := lbk g v
    replace ha : ACalls _ _ _ _ (.agg (V.th g v)) [(1000, .obj (wOk g F1))] := ha
    replace hb : ACalls _ _ _ _ (.agg th0) [(1000, .obj (wEnd g o))] := hb
    rw [ev] at ha
    refine zY (lat (ha) rfl (by refine ⟨_, _, rfl, (by exact LeU.of_eq rfl zo), (by exact Exists.intro _ rfl), ?_⟩;refine zC7 ?_;refine zC ?_;exact rfl)) ?_
    refine zM lah ?_;refine zE laf ?_;refine znD ?_;refine zq (zQ ?_);refine zV (lav (b := 1000) (by exact rfl) (by exact rfl) (by exact rfl) (by exact lau)) ?_;refine zV lag ?_;refine zV lad ?_;refine zV lad ?_;refine zV lae ?_;refine zV lac ?_;refine zn ?_;refine zcF ?_;refine zsk (zq (zQ ?_));refine zV lak ?_;refine zV lai ?_;refine zV lac ?_;refine zn ?_;refine zaF ?_;refine zsk (zq ?_);refine zRD ?_;refine zV (lav (b := 1000) (by exact rfl) (by exact rfl) (by exact rfl) (by exact lau)) ?_;refine zV lak ?_;refine zV lai ?_;refine zV (lap _) ?_;refine zV lao ?_;refine zV lai ?_
    refine zY (lat (hb) rfl (by refine ⟨_, _, rfl, (by exact LeU.of_eq rfl zo), (by exact Exists.intro _ rfl), ?_⟩;refine zC7 ?_;refine zC ?_;exact rfl)) ?_
    refine zM lah ?_;refine zE laf ?_;refine znD ?_;refine zq (zbl (zQ ?_));refine zV (lav (b := 1000) (by exact rfl) (by exact rfl) (by exact rfl) (by exact laR)) ?_;refine zV lag ?_;refine zV lad ?_;refine zV lad ?_;refine zV lae ?_;refine zV lac ?_;refine zV lab ?_;refine zn ?_;refine zaT ?_;refine zQ ?_;refine zV laq ?_;refine zE laf ?_;refine zn (zre ?_)
    exact lbj (.inr rfl) (by exact rfl) (by exact rfl) (laX _) rfl (by exact rfl) (laX _) okT0 okE
  | s8 hb ev hd h8 hs =>
    rename_i v w F1 F2 q1 n1 tg d
    obtain ⟨d2, hd2, tg2, ew⟩ := lbk g w
    replace ha : ACalls _ _ _ _ (.agg (V.th g v)) [(1000, .obj (wOk g F1))] := ha
    replace hb : ACalls _ _ _ _ (.agg (V.th g w)) [(1000, .obj (wOk g F2))] := hb
    rw [ev] at ha
    rw [ew] at hb
    rcases hs with h | ⟨h, h'⟩
    · refine zY (lat (ha) rfl (by refine ⟨_, _, rfl, (by exact LeU.of_eq rfl trivial), (by exact Exists.intro _ rfl), ?_⟩; refine zC7 ?_; refine zC ?_; exact rfl)) ?_; refine zM lah ?_; refine zE laf ?_; refine znD ?_; refine zq (zQ ?_); refine zV (lav (b := 1000) (by exact rfl) (by exact rfl) (by exact rfl) (by exact lau)) ?_; refine zV lag ?_; refine zV lad ?_; refine zV lad ?_; refine zV lae ?_; refine zV lac ?_; refine zn ?_; refine zcF ?_; refine zsk (zq (zQ ?_)); refine zV lak ?_; refine zV lai ?_; refine zV lac ?_; refine zn ?_; refine zaF ?_; refine zsk (zq ?_); refine zRD ?_; refine zV (lav (b := 1000) (by exact rfl) (by exact rfl) (by exact rfl) (by exact lau)) ?_; refine zV lak ?_; refine zV lai ?_; refine zV (lap _) ?_; refine zV lao ?_; refine zV lai ?_; refine zY (lat (hb) rfl (by refine ⟨_, _, rfl, (by exact LeU.of_eq rfl trivial), (by exact Exists.intro _ rfl), ?_⟩; refine zC7 ?_; refine zC ?_; exact rfl)) ?_; refine zM lah ?_; refine zE laf ?_; refine znD ?_; refine zq (zbl (zQ ?_)); refine zV (lav (b := 1000) (by exact rfl) (by exact rfl) (by exact rfl) (by exact lau)) ?_; refine zV lag ?_; refine zV lad ?_; refine zV lad ?_; refine zV lae ?_; refine zV lac ?_; refine zV lab ?_; refine zn ?_; refine zcF ?_; refine zQ ?_; refine zV lak ?_; refine zV lai ?_; refine zV lac ?_; refine zV lab ?_; refine zn ?_; refine zaT ?_; refine zq (zQ ?_); refine zV lad ?_; refine zV lae ?_; refine zV lac ?_; refine zV laa ?_; refine zt ?_; refine zt ?_; refine zt ?_; refine zV (lam true) ?_; refine zn ?_; refine zcT ?_; refine zQ ?_; refine zV (lav (b := 1000) (by exact rfl) (by exact rfl) (by exact rfl) (by exact lau)) ?_; refine zY (lat (lci g (F2)) rfl (by refine ⟨_, _, rfl, (by exact LeU.of_eq rfl trivial), (by exact Exists.intro _ rfl), ?_⟩; exact rfl)) ?_; refine zE laf ?_; refine zn (zre ?_); exact lbj (.inr rfl) (by exact rfl) (by exact rfl) (laX _) rfl (by exact rfl) (laX _) okT0 okE
    · refine zY (lat (ha) rfl (by refine ⟨_, _, rfl, (by exact LeU.of_eq rfl trivial), (by exact Exists.intro _ rfl), ?_⟩; refine zC7 ?_; refine zC ?_; exact rfl)) ?_; refine zM lah ?_; refine zE laf ?_; refine znD ?_; refine zq (zQ ?_); refine zV (lav (b := 1000) (by exact rfl) (by exact rfl) (by exact rfl) (by exact lau)) ?_; refine zV lag ?_; refine zV lad ?_; refine zV lad ?_; refine zV lae ?_; refine zV lac ?_; refine zn ?_; refine zcF ?_; refine zsk (zq (zQ ?_)); refine zV lak ?_; refine zV lai ?_; refine zV lac ?_; refine zn ?_; refine zaF ?_; refine zsk (zq ?_); refine zRD ?_; refine zV (lav (b := 1000) (by exact rfl) (by exact rfl) (by exact rfl) (by exact lau)) ?_; refine zV lak ?_; refine zV lai ?_; refine zV (lap _) ?_; refine zV lao ?_; refine zV lai ?_; refine zY (lat (hb) rfl (by refine ⟨_, _, rfl, (by exact LeU.of_eq rfl trivial), (by exact Exists.intro _ rfl), ?_⟩; refine zC7 ?_; refine zC ?_; exact rfl)) ?_; refine zM lah ?_; refine zE laf ?_; refine znD ?_; refine zq (zbl (zQ ?_)); refine zV (lav (b := 1000) (by exact rfl) (by exact rfl) (by exact rfl) (by exact lau)) ?_; refine zV lag ?_; refine zV lad ?_; refine zV lad ?_; refine zV lae ?_; refine zV lac ?_; refine zV lab ?_; refine zn ?_; refine zcF ?_; refine zQ ?_; refine zV lak ?_; refine zV lai ?_; refine zV lac ?_; refine zV lab ?_; refine zn ?_; refine zaT ?_; refine zq (zQ ?_); refine zV lad ?_; refine zV lae ?_; refine zV lac ?_; refine zV laa ?_; refine zF lad ?_; refine zF lae ?_; refine zF lac ?_; refine zV (lam false) ?_; refine zn ?_; refine zaT ?_; refine zQ ?_; refine zV (lav (b := 1000) (by exact rfl) (by exact rfl) (by exact rfl) (by exact lau)) ?_; refine zY (lat (lci g (F2)) rfl (by refine ⟨_, _, rfl, (by exact LeU.of_eq rfl trivial), (by exact Exists.intro _ rfl), ?_⟩; exact rfl)) ?_; refine zE laf ?_; refine zn (zre ?_); exact lbj (.inr rfl) (by exact rfl) (by exact rfl) (laX _) rfl (by exact rfl) (laX _) okT0 okE
  | s4 hb ev hd ew hd2 h8 hs =>
    rename_i v w F1 F2 q1 n1 tg q2 n2 tg2 d d2
    replace ha : ACalls _ _ _ _ (.agg (V.th g v)) [(1000, .obj (wOk g F1))] := ha
    replace hb : ACalls _ _ _ _ (.agg (V.th g w)) [(1000, .obj (wOk g F2))] := hb
    rw [ev] at ha
    rw [ew] at hb
    rcases hs with h | ⟨h, h'⟩ | ⟨h, h', h''⟩ | ⟨h, h', h'', h3⟩
    · refine zY (lat (ha) rfl (by refine ⟨_, _, rfl, (by exact LeU.of_eq rfl trivial), (by exact Exists.intro _ rfl), ?_⟩; refine zC7 ?_; refine zC ?_; exact rfl)) ?_; refine zM lah ?_; refine zE laf ?_; refine znD ?_; refine zq (zQ ?_); refine zV (lav (b := 1000) (by exact rfl) (by exact rfl) (by exact rfl) (by exact lau)) ?_; refine zV lag ?_; refine zV lad ?_; refine zV lad ?_; refine zV lae ?_; refine zV lac ?_; refine zn ?_; refine zcF ?_; refine zsk (zq (zQ ?_)); refine zV lak ?_; refine zV lai ?_; refine zV lac ?_; refine zn ?_; refine zaF ?_; refine zsk (zq ?_); refine zRD ?_; refine zV (lav (b := 1000) (by exact rfl) (by exact rfl) (by exact rfl) (by exact lau)) ?_; refine zV lak ?_; refine zV lai ?_; refine zV (lap _) ?_; refine zV lao ?_; refine zV lai ?_; refine zY (lat (hb) rfl (by refine ⟨_, _, rfl, (by exact LeU.of_eq rfl trivial), (by exact Exists.intro _ rfl), ?_⟩; refine zC7 ?_; refine zC ?_; exact rfl)) ?_; refine zM lah ?_; refine zE laf ?_; refine znD ?_; refine zq (zbl (zQ ?_)); refine zV (lav (b := 1000) (by exact rfl) (by exact rfl) (by exact rfl) (by exact lau)) ?_; refine zV lag ?_; refine zV lad ?_; refine zV lad ?_; refine zV lae ?_; refine zV lac ?_; refine zV lab ?_; refine zn ?_; refine zcF ?_; refine zQ ?_; refine zV lak ?_; refine zV lai ?_; refine zV lac ?_; refine zV lab ?_; refine zn ?_; refine zaF ?_; refine zQ ?_; refine zV lad ?_; refine zV lae ?_; refine zV lac ?_; refine zV laa ?_; refine zt ?_; refine zt ?_; refine zt ?_; refine zV (lam true) ?_; refine zV laa ?_; refine zs ?_; refine zs ?_; refine zs ?_; refine zV laA ?_; refine zV laa ?_; refine zs ?_; refine zs ?_; refine zs ?_; refine zV laA ?_; refine zV lab ?_; refine zn ?_; refine zcT ?_; refine zQ ?_; refine zV (lav (b := 1000) (by exact rfl) (by exact rfl) (by exact rfl) (by exact lau)) ?_; refine zY (lat (lci g (F2)) rfl (by refine ⟨_, _, rfl, (by exact LeU.of_eq rfl trivial), (by exact Exists.intro _ rfl), ?_⟩; exact rfl)) ?_; refine zE laf ?_; refine zn (zre ?_); exact lbj (.inr rfl) (by exact rfl) (by exact rfl) (laX _) rfl (by exact rfl) (laX _) okT0 okE
    · refine zY (lat (ha) rfl (by refine ⟨_, _, rfl, (by exact LeU.of_eq rfl trivial), (by exact Exists.intro _ rfl), ?_⟩; refine zC7 ?_; refine zC ?_; exact rfl)) ?_; refine zM lah ?_; refine zE laf ?_; refine znD ?_; refine zq (zQ ?_); refine zV (lav (b := 1000) (by exact rfl) (by exact rfl) (by exact rfl) (by exact lau)) ?_; refine zV lag ?_; refine zV lad ?_; refine zV lad ?_; refine zV lae ?_; refine zV lac ?_; refine zn ?_; refine zcF ?_; refine zsk (zq (zQ ?_)); refine zV lak ?_; refine zV lai ?_; refine zV lac ?_; refine zn ?_; refine zaF ?_; refine zsk (zq ?_); refine zRD ?_; refine zV (lav (b := 1000) (by exact rfl) (by exact rfl) (by exact rfl) (by exact lau)) ?_; refine zV lak ?_; refine zV lai ?_; refine zV (lap _) ?_; refine zV lao ?_; refine zV lai ?_; refine zY (lat (hb) rfl (by refine ⟨_, _, rfl, (by exact LeU.of_eq rfl trivial), (by exact Exists.intro _ rfl), ?_⟩; refine zC7 ?_; refine zC ?_; exact rfl)) ?_; refine zM lah ?_; refine zE laf ?_; refine znD ?_; refine zq (zbl (zQ ?_)); refine zV (lav (b := 1000) (by exact rfl) (by exact rfl) (by exact rfl) (by exact lau)) ?_; refine zV lag ?_; refine zV lad ?_; refine zV lad ?_; refine zV lae ?_; refine zV lac ?_; refine zV lab ?_; refine zn ?_; refine zcF ?_; refine zQ ?_; refine zV lak ?_; refine zV lai ?_; refine zV lac ?_; refine zV lab ?_; refine zn ?_; refine zaF ?_; refine zQ ?_; refine zV lad ?_; refine zV lae ?_; refine zV lac ?_; refine zV laa ?_; refine zF lad ?_; refine zF lae ?_; refine zF lac ?_; refine zV (lam false) ?_; refine zV laa ?_; refine zt ?_; refine zt ?_; refine zt ?_; refine zV (lam true) ?_; refine zV laa ?_; refine zs ?_; refine zs ?_; refine zs ?_; refine zV laA ?_; refine zV lab ?_; refine zn ?_; refine zcT ?_; refine zQ ?_; refine zV (lav (b := 1000) (by exact rfl) (by exact rfl) (by exact rfl) (by exact lau)) ?_; refine zY (lat (lci g (F2)) rfl (by refine ⟨_, _, rfl, (by exact LeU.of_eq rfl trivial), (by exact Exists.intro _ rfl), ?_⟩; exact rfl)) ?_; refine zE laf ?_; refine zn (zre ?_); exact lbj (.inr rfl) (by exact rfl) (by exact rfl) (laX _) rfl (by exact rfl) (laX _) okT0 okE
    · refine zY (lat (ha) rfl (by refine ⟨_, _, rfl, (by exact LeU.of_eq rfl trivial), (by exact Exists.intro _ rfl), ?_⟩; refine zC7 ?_; refine zC ?_; exact rfl)) ?_; refine zM lah ?_; refine zE laf ?_; refine znD ?_; refine zq (zQ ?_); refine zV (lav (b := 1000) (by exact rfl) (by exact rfl) (by exact rfl) (by exact lau)) ?_; refine zV lag ?_; refine zV lad ?_; refine zV lad ?_; refine zV lae ?_; refine zV lac ?_; refine zn ?_; refine zcF ?_; refine zsk (zq (zQ ?_)); refine zV lak ?_; refine zV lai ?_; refine zV lac ?_; refine zn ?_; refine zaF ?_; refine zsk (zq ?_); refine zRD ?_; refine zV (lav (b := 1000) (by exact rfl) (by exact rfl) (by exact rfl) (by exact lau)) ?_; refine zV lak ?_; refine zV lai ?_; refine zV (lap _) ?_; refine zV lao ?_; refine zV lai ?_; refine zY (lat (hb) rfl (by refine ⟨_, _, rfl, (by exact LeU.of_eq rfl trivial), (by exact Exists.intro _ rfl), ?_⟩; refine zC7 ?_; refine zC ?_; exact rfl)) ?_; refine zM lah ?_; refine zE laf ?_; refine znD ?_; refine zq (zbl (zQ ?_)); refine zV (lav (b := 1000) (by exact rfl) (by exact rfl) (by exact rfl) (by exact lau)) ?_; refine zV lag ?_; refine zV lad ?_; refine zV lad ?_; refine zV lae ?_; refine zV lac ?_; refine zV lab ?_; refine zn ?_; refine zcF ?_; refine zQ ?_; refine zV lak ?_; refine zV lai ?_; refine zV lac ?_; refine zV lab ?_; refine zn ?_; refine zaF ?_; refine zQ ?_; refine zV lad ?_; refine zV lae ?_; refine zV lac ?_; refine zV laa ?_; refine zF lad ?_; refine zF lae ?_; refine zF lac ?_; refine zV (lam false) ?_; refine zV laa ?_; refine zF lad ?_; refine zF lae ?_; refine zF lac ?_; refine zV (lam false) ?_; refine zV laa ?_; refine zt ?_; refine zt ?_; refine zt ?_; refine zV (lam true) ?_; refine zV lab ?_; refine zn ?_; refine zcT ?_; refine zQ ?_; refine zV (lav (b := 1000) (by exact rfl) (by exact rfl) (by exact rfl) (by exact lau)) ?_; refine zY (lat (lci g (F2)) rfl (by refine ⟨_, _, rfl, (by exact LeU.of_eq rfl trivial), (by exact Exists.intro _ rfl), ?_⟩; exact rfl)) ?_; refine zE laf ?_; refine zn (zre ?_); exact lbj (.inr rfl) (by exact rfl) (by exact rfl) (laX _) rfl (by exact rfl) (laX _) okT0 okE
    · refine zY (lat (ha) rfl (by refine ⟨_, _, rfl, (by exact LeU.of_eq rfl trivial), (by exact Exists.intro _ rfl), ?_⟩; refine zC7 ?_; refine zC ?_; exact rfl)) ?_; refine zM lah ?_; refine zE laf ?_; refine znD ?_; refine zq (zQ ?_); refine zV (lav (b := 1000) (by exact rfl) (by exact rfl) (by exact rfl) (by exact lau)) ?_; refine zV lag ?_; refine zV lad ?_; refine zV lad ?_; refine zV lae ?_; refine zV lac ?_; refine zn ?_; refine zcF ?_; refine zsk (zq (zQ ?_)); refine zV lak ?_; refine zV lai ?_; refine zV lac ?_; refine zn ?_; refine zaF ?_; refine zsk (zq ?_); refine zRD ?_; refine zV (lav (b := 1000) (by exact rfl) (by exact rfl) (by exact rfl) (by exact lau)) ?_; refine zV lak ?_; refine zV lai ?_; refine zV (lap _) ?_; refine zV lao ?_; refine zV lai ?_; refine zY (lat (hb) rfl (by refine ⟨_, _, rfl, (by exact LeU.of_eq rfl trivial), (by exact Exists.intro _ rfl), ?_⟩; refine zC7 ?_; refine zC ?_; exact rfl)) ?_; refine zM lah ?_; refine zE laf ?_; refine znD ?_; refine zq (zbl (zQ ?_)); refine zV (lav (b := 1000) (by exact rfl) (by exact rfl) (by exact rfl) (by exact lau)) ?_; refine zV lag ?_; refine zV lad ?_; refine zV lad ?_; refine zV lae ?_; refine zV lac ?_; refine zV lab ?_; refine zn ?_; refine zcF ?_; refine zQ ?_; refine zV lak ?_; refine zV lai ?_; refine zV lac ?_; refine zV lab ?_; refine zn ?_; refine zaF ?_; refine zQ ?_; refine zV lad ?_; refine zV lae ?_; refine zV lac ?_; refine zV laa ?_; refine zF lad ?_; refine zF lae ?_; refine zF lac ?_; refine zV (lam false) ?_; refine zV laa ?_; refine zF lad ?_; refine zF lae ?_; refine zF lac ?_; refine zV (lam false) ?_; refine zV laa ?_; refine zF lad ?_; refine zF lae ?_; refine zF lac ?_; refine zV (lam false) ?_; refine zV lab ?_; refine zn ?_; refine zaT ?_; refine zQ ?_; refine zV (lav (b := 1000) (by exact rfl) (by exact rfl) (by exact rfl) (by exact lau)) ?_; refine zY (lat (lci g (F2)) rfl (by refine ⟨_, _, rfl, (by exact LeU.of_eq rfl trivial), (by exact Exists.intro _ rfl), ?_⟩; exact rfl)) ?_; refine zE laf ?_; refine zn (zre ?_); exact lbj (.inr rfl) (by exact rfl) (by exact rfl) (laX _) rfl (by exact rfl) (laX _) okT0 okE
  | call hb h8 ev hcl hap =>
    rename_i v w F1 F2 fid caps
    obtain ⟨d2, hd2, tg2, ew⟩ := lbk g w
    replace ha : ACalls _ _ _ _ (.agg (V.th g v)) [(1000, .obj (wOk g F1))] := ha
    replace hb : ACalls _ _ _ _ (.agg (V.th g w)) [(1000, .obj (wOk g F2))] := hb
    rw [ev] at ha
    rw [ew] at hb hap
    rw [e] at hap ⊢
    refine zY (lat (ha) rfl (by refine ⟨_, _, rfl, (by exact LeU.of_eq rfl zo), (by exact Exists.intro _ rfl), ?_⟩;refine zC7 ?_;refine zC ?_;exact rfl)) ?_
    refine zM lah ?_;refine zE laf ?_;refine znD ?_;refine zq (zQ ?_);refine zV (lav (b := 1000) (by exact rfl) (by exact rfl) (by exact rfl) (by exact lau)) ?_;refine zV lag ?_;refine zV lad ?_;refine zV lad ?_;refine zV lae ?_;refine zV lac ?_;refine zn ?_;refine zcF ?_;refine zsk (zq (zQ ?_));refine zV lak ?_;refine zV lai ?_;refine zV lac ?_;refine zn ?_;refine zaF ?_;refine zsk (zq ?_);refine zRD ?_;refine zV (lav (b := 1000) (by exact rfl) (by exact rfl) (by exact rfl) (by exact lau)) ?_;refine zV lak ?_;refine zV lai ?_;refine zV (lap _) ?_;refine zV lao ?_;refine zV lai ?_
    refine zY (lat (hb) rfl (by refine ⟨_, _, rfl, (by exact LeU.of_eq rfl zo), (by exact Exists.intro _ rfl), ?_⟩;refine zC7 ?_;refine zC ?_;exact rfl)) ?_
    refine zM lah ?_;refine zE laf ?_;refine znD ?_;refine zq (zbl (zQ ?_));refine zV (lav (b := 1000) (by exact rfl) (by exact rfl) (by exact rfl) (by exact lau)) ?_;refine zV lag ?_;refine zV lad ?_;refine zV lad ?_;refine zV lae ?_;refine zV lac ?_;refine zV lab ?_;refine zn ?_;refine zcF ?_;refine zQ ?_;refine zV lak ?_;refine zV lai ?_;refine zV lac ?_;refine zV lab ?_;refine zn ?_;refine zaT ?_;refine zq (zQ ?_);refine zV lad ?_;refine zV lae ?_;refine zV lac ?_;refine zV laa ?_;refine zI lad ?_;refine zI lae ?_;refine zI lac ?_;refine zV law ?_;refine zn ?_;refine zcF ?_;refine zsk (zQ ?_);refine zV lad ?_;refine zV lae ?_;refine zV laj ?_
    refine zY (lfW (us' := [.agg [.int .i64 w.seen.kind, .int .i64 w.seen.n, d2, .int .i64 tg2]]) (by exact rfl) hcl (by exact rfl) (by exact ⟨LeU.of_eq rfl zo, zo⟩) hap (by intro b hb; rw [List.mem_singleton.1 hb]; rfl) (by exact rfl) (by simp [namesL]) (by exact okW1) (by intro u hu; rw [List.mem_singleton.1 hu];exact lbh.1 ⟨zo, zo, la5 hd2, zo, zo⟩)) ?_
    refine zE laf ?_;refine zn (zre ?_)
    exact lbj (.inr rfl) (by exact rfl) (by exact rfl) (laX _) rfl (by exact rfl) (laX _) (by exact ⟨zo, zo, la5 hc, zo, zo⟩) lf3
  | add hb h8 h4 hp hq =>
    rename_i p q F1 F2
    replace ha : ACalls _ _ _ _ (.agg [.int .i64 1, .int .i64 (p), .nilf, .int .i64 0]) [(1000, .obj (wOk g F1))] := ha
    replace hb : ACalls _ _ _ _ (.agg [.int .i64 1, .int .i64 (q), .nilf, .int .i64 0]) [(1000, .obj (wOk g F2))] := hb
    refine zY (lat (ha) rfl (by refine ⟨_, _, rfl, (by exact LeU.of_eq rfl zo), (by exact Exists.intro _ rfl), ?_⟩;refine zC7 ?_;refine zC ?_;exact rfl)) ?_
    refine zM lah ?_;refine zE laf ?_;refine znD ?_;refine zq (zQ ?_);refine zV (lav (b := 1000) (by exact rfl) (by exact rfl) (by exact rfl) (by exact lau)) ?_;refine zV lag ?_;refine zV lad ?_;refine zV lad ?_;refine zV lae ?_;refine zV lac ?_;refine zn ?_;refine zcF ?_;refine zsk (zq (zQ ?_));refine zV lak ?_;refine zV lai ?_;refine zV lac ?_;refine zn ?_;refine zaF ?_;refine zsk (zq ?_);refine zRD ?_;refine zV (lav (b := 1000) (by exact rfl) (by exact rfl) (by exact rfl) (by exact lau)) ?_;refine zV lak ?_;refine zV lai ?_;refine zV (lap _) ?_;refine zV lao ?_;refine zV lai ?_
    refine zY (lat (hb) rfl (by refine ⟨_, _, rfl, (by exact LeU.of_eq rfl zo), (by exact Exists.intro _ rfl), ?_⟩;refine zC7 ?_;refine zC ?_;exact rfl)) ?_
    refine zM lah ?_;refine zE laf ?_;refine znD ?_;refine zq (zbl (zQ ?_));refine zV (lav (b := 1000) (by exact rfl) (by exact rfl) (by exact rfl) (by exact lau)) ?_;refine zV lag ?_;refine zV lad ?_;refine zV lad ?_;refine zV lae ?_;refine zV lac ?_;refine zV lab ?_;refine zn ?_;refine zcF ?_;refine zQ ?_;refine zV lak ?_;refine zV lai ?_;refine zV lac ?_;refine zV lab ?_;refine zn ?_;refine zaF ?_;refine zQ ?_;refine zV lad ?_;refine zV lae ?_;refine zV lac ?_;refine zV laa ?_;refine zI lad ?_;refine zI lae ?_;refine zI lac ?_;refine zV law ?_;refine zV laa ?_;refine zI lad ?_;refine zI lae ?_;refine zI lac ?_;refine zV law ?_;refine zV laa ?_;refine zI lad ?_;refine zI lae ?_;refine zI lac ?_;refine zV law ?_;refine zV lab ?_;refine zn ?_;refine zcF ?_;refine zQ ?_;refine zV lak ?_;refine zV lai ?_;refine zV lac ?_;refine zV lab ?_;refine zn ?_;refine zaT ?_;refine zQ ?_;refine zV lad ?_;refine zV lae ?_;refine zV lad ?_;refine zV lae ?_;refine zV laI ?_
    refine zV (loc_max2 rfl rfl) ?_
    refine zV (loc_min2 rfl rfl) ?_
    refine zV laq ?_;refine zE laf ?_;refine zn (zre ?_)
    exact lbj (k' := [.int .i64 1, .int .i64 (min (max (p + q) (-1000000)) 1000000), .nilf, .int .i64 0]) (m' := wOk g F2) (.inr rfl) (by exact rfl) (by exact rfl) (laX _) rfl (by exact rfl) (laX _) (by exact ⟨zo, zo, zo, zo, zo⟩) okW
  | lt hb h8 h4 hlt =>
    rename_i p q F1 F2
    replace ha : ACalls _ _ _ _ (.agg [.int .i64 1, .int .i64 (p), .nilf, .int .i64 0]) [(1000, .obj (wOk g F1))] := ha
    replace hb : ACalls _ _ _ _ (.agg [.int .i64 1, .int .i64 (q), .nilf, .int .i64 0]) [(1000, .obj (wOk g F2))] := hb
    refine zY (lat (ha) rfl (by refine ⟨_, _, rfl, (by exact LeU.of_eq rfl zo), (by exact Exists.intro _ rfl), ?_⟩;refine zC7 ?_;refine zC ?_;exact rfl)) ?_
    refine zM lah ?_;refine zE laf ?_;refine znD ?_;refine zq (zQ ?_);refine zV (lav (b := 1000) (by exact rfl) (by exact rfl) (by exact rfl) (by exact lau)) ?_;refine zV lag ?_;refine zV lad ?_;refine zV lad ?_;refine zV lae ?_;refine zV lac ?_;refine zn ?_;refine zcF ?_;refine zsk (zq (zQ ?_));refine zV lak ?_;refine zV lai ?_;refine zV lac ?_;refine zn ?_;refine zaF ?_;refine zsk (zq ?_);refine zRD ?_;refine zV (lav (b := 1000) (by exact rfl) (by exact rfl) (by exact rfl) (by exact lau)) ?_;refine zV lak ?_;refine zV lai ?_;refine zV (lap _) ?_;refine zV lao ?_;refine zV lai ?_
    refine zY (lat (hb) rfl (by refine ⟨_, _, rfl, (by exact LeU.of_eq rfl zo), (by exact Exists.intro _ rfl), ?_⟩;refine zC7 ?_;refine zC ?_;exact rfl)) ?_
    refine zM lah ?_;refine zE laf ?_;refine znD ?_;refine zq (zbl (zQ ?_));refine zV (lav (b := 1000) (by exact rfl) (by exact rfl) (by exact rfl) (by exact lau)) ?_;refine zV lag ?_;refine zV lad ?_;refine zV lad ?_;refine zV lae ?_;refine zV lac ?_;refine zV lab ?_;refine zn ?_;refine zcF ?_;refine zQ ?_;refine zV lak ?_;refine zV lai ?_;refine zV lac ?_;refine zV lab ?_;refine zn ?_;refine zaF ?_;refine zQ ?_;refine zV lad ?_;refine zV lae ?_;refine zV lac ?_;refine zV laa ?_;refine zI lad ?_;refine zI lae ?_;refine zI lac ?_;refine zV law ?_;refine zV laa ?_;refine zI lad ?_;refine zI lae ?_;refine zI lac ?_;refine zV law ?_;refine zV laa ?_;refine zI lad ?_;refine zI lae ?_;refine zI lac ?_;refine zV law ?_;refine zV lab ?_;refine zn ?_;refine zcF ?_;refine zQ ?_;refine zV lak ?_;refine zV lai ?_;refine zV lac ?_;refine zV lab ?_;refine zn ?_;refine zaF ?_;refine zQ ?_;refine zV lad ?_;refine zV lae ?_;refine zV lad ?_;refine zV lae ?_;refine zV lac ?_;refine zV lab ?_;refine zn ?_;refine zaT ?_;refine zQ ?_;refine zV laq ?_;refine zE laf ?_;refine zn (zre ?_)
    exact lbj (k' := [.int .i64 2, .int .i64 1, .nilf, .int .i64 0]) (m' := wOk g F2) (.inr rfl) (by exact rfl) (by exact rfl) (laX _) rfl (by exact rfl) (laX _) (by exact ⟨zo, zo, zo, zo, zo⟩) okW
  | ge hb h8 h4 hlt =>
    rename_i p q F1 F2
    replace ha : ACalls _ _ _ _ (.agg [.int .i64 1, .int .i64 (p), .nilf, .int .i64 0]) [(1000, .obj (wOk g F1))] := ha
    replace hb : ACalls _ _ _ _ (.agg [.int .i64 1, .int .i64 (q), .nilf, .int .i64 0]) [(1000, .obj (wOk g F2))] := hb
    refine zY (lat (ha) rfl (by refine ⟨_, _, rfl, (by exact LeU.of_eq rfl zo), (by exact Exists.intro _ rfl), ?_⟩;refine zC7 ?_;refine zC ?_;exact rfl)) ?_
    refine zM lah ?_;refine zE laf ?_;refine znD ?_;refine zq (zQ ?_);refine zV (lav (b := 1000) (by exact rfl) (by exact rfl) (by exact rfl) (by exact lau)) ?_;refine zV lag ?_;refine zV lad ?_;refine zV lad ?_;refine zV lae ?_;refine zV lac ?_;refine zn ?_;refine zcF ?_;refine zsk (zq (zQ ?_));refine zV lak ?_;refine zV lai ?_;refine zV lac ?_;refine zn ?_;refine zaF ?_;refine zsk (zq ?_);refine zRD ?_;refine zV (lav (b := 1000) (by exact rfl) (by exact rfl) (by exact rfl) (by exact lau)) ?_;refine zV lak ?_;refine zV lai ?_;refine zV (lap _) ?_;refine zV lao ?_;refine zV lai ?_
    refine zY (lat (hb) rfl (by refine ⟨_, _, rfl, (by exact LeU.of_eq rfl zo), (by exact Exists.intro _ rfl), ?_⟩;refine zC7 ?_;refine zC ?_;exact rfl)) ?_
    refine zM lah ?_;refine zE laf ?_;refine znD ?_;refine zq (zbl (zQ ?_));refine zV (lav (b := 1000) (by exact rfl) (by exact rfl) (by exact rfl) (by exact lau)) ?_;refine zV lag ?_;refine zV lad ?_;refine zV lad ?_;refine zV lae ?_;refine zV lac ?_;refine zV lab ?_;refine zn ?_;refine zcF ?_;refine zQ ?_;refine zV lak ?_;refine zV lai ?_;refine zV lac ?_;refine zV lab ?_;refine zn ?_;refine zaF ?_;refine zQ ?_;refine zV lad ?_;refine zV lae ?_;refine zV lac ?_;refine zV laa ?_;refine zI lad ?_;refine zI lae ?_;refine zI lac ?_;refine zV law ?_;refine zV laa ?_;refine zI lad ?_;refine zI lae ?_;refine zI lac ?_;refine zV law ?_;refine zV laa ?_;refine zI lad ?_;refine zI lae ?_;refine zI lac ?_;refine zV law ?_;refine zV lab ?_;refine zn ?_;refine zcF ?_;refine zQ ?_;refine zV lak ?_;refine zV lai ?_;refine zV lac ?_;refine zV lab ?_;refine zn ?_;refine zaF ?_;refine zQ ?_;refine zV lad ?_;refine zV lae ?_;refine zV lad ?_;refine zV lae ?_;refine zV lac ?_;refine zV lab ?_;refine zn ?_;refine zaF ?_;refine zsk (zQ ?_);refine zV laq ?_;refine zE laf ?_;refine zn (zre ?_)
    exact lbj (k' := [.int .i64 2, .int .i64 0, .nilf, .int .i64 0]) (m' := wOk g F2) (.inr rfl) (by exact rfl) (by exact rfl) (laX _) rfl (by exact rfl) (laX _) (by exact ⟨zo, zo, zo, zo, zo⟩) okW
end
def ApA (g : Nat) (f x : V) (F : Nat) (r : Res) : Prop := ∃ (fid : FuncId) (caps : List U), V.th g f = [.int .i64 3, .int .i64 0, cloOf fid caps, .int .i64 0] ∧ capsOk caps = true ∧ ACalls Tryz.prog fid (.agg (V.th g x) :: caps) [(1000, .obj (wOk g F))] (.agg (resC g r)) [(1000, .obj (wAft g r))]
section
variable (g F : Nat)
set_option maxHeartbeats 2000000 in
theorem apa_clo0 (b : Tm) (env : List V) (x : V) : ApA g (.clo b env) x 0 (.out .fuel) := by
  refine ⟨71, [wHeld g, .one (fpo (bodyC b) 0), .one (fpo [slOf 4 (thRows g env)] 0)], by simp only [V.th], rfl, ?_⟩
  obtain ⟨c, hc, tg, e⟩ := lbk g x
  rw [e]
  show ACalls _ _ _ _ (.agg th0) [(1000, .obj (wEnd g .fuel))]
  refine zB1 Tryz.func71 ?_
  refine zQ ?_;refine zM lan ?_;refine zM lah ?_;refine zn (zq (zQ ?_));refine zV (lav (b := 1000) (by exact rfl) (by exact rfl) (by exact rfl) (by exact lau)) ?_;refine zV lag ?_;refine zV lad ?_;refine zV lae ?_;refine zV lac ?_;refine zn ?_;refine zcT ?_;refine zQ ?_;refine zV (lav (b := 1000) (by exact rfl) (by exact rfl) (by exact rfl) (by exact lau)) ?_;refine zV laq ?_
  refine zY (lat (over_a g 0 .fuel) rfl (by refine ⟨_, _, rfl, (by exact LeU.of_eq rfl zo), (by exact Exists.intro _ rfl), ?_⟩;refine ⟨_, _, rfl, (by exact LeU.of_eq rfl zo), (by exact ⟨zo, zo, zo, zo⟩), ?_⟩;exact rfl)) ?_
  refine zE laf ?_;refine zn (zre ?_)
  exact lbj (.inr rfl) (by exact rfl) (by exact rfl) (laX _) rfl (by exact rfl) (laX _) okT0 okE
set_option maxHeartbeats 2000000 in
theorem apa_clo (b : Tm) (env : List V) (x : V) {r : Res} (hF : F ≤ 1000000) (hl : env.length ≤ 1000000) (hb : EvA g b (x :: env) F r) : ApA g (.clo b env) x (F + 1) r := by
  refine ⟨71, [wHeld g, .one (fpo (bodyC b) 0), .one (fpo [slOf 4 (thRows g env)] 0)], by simp only [V.th], rfl, ?_⟩
  obtain ⟨c, hc, tg, e⟩ := lbk g x
  obtain ⟨k', n', d', tg', hd, e'⟩ := lcG g r
  have hr1 : (tmRows [b])[0]? = some b.c := by simp [tmRows, Tm.cells_c]
  have hcl : closedRows [V.th g x] = true := by simp only [closedRows, th_closed, Bool.and_self]
  have hg0 : ((((F + 1 : Nat)) : Int) == 0) = false := by simp; omega
  have hg1 : (((F + 1 : Nat)) : Int) - 1 = (F : Nat) := by omega
  have h4 : ∀ r ∈ thRows g env, r.length = 4 := fun r hr => by
    rw [ldn] at hr
    obtain ⟨v, _, rfl⟩ := List.mem_map.1 hr
    exact th_len g v
  have hn := lcP g env
  unfold EvA at hb
  rw [show thRows g (x :: env) = V.th g x :: thRows g env by simp only [thRows]] at hb
  rw [e] at hb hcl ⊢
  rw [e'] at hb ⊢
  refine zB1 Tryz.func71 ?_
  refine zQ ?_;refine zM lan ?_;refine zM lah ?_;refine zn (zq (zQ ?_));refine zV (lav (b := 1000) (by exact rfl) (by exact rfl) (by exact rfl) (by exact lau)) ?_;refine zV lag ?_;refine zV lad ?_;refine zV lae ?_;refine zV lac ?_;refine zn ?_;refine zcF ?_;refine zsk (zQ ?_);refine zV (lav (b := 1000) (by exact rfl) (by exact rfl) (by exact rfl) (by exact lau)) ?_;refine zV lag ?_;refine zV lad ?_;refine zV lae ?_;refine zV laJ ?_;refine zV lag ?_;refine zV lad ?_;refine zE lax ?_;refine zn (zq ?_);refine zRD ?_;refine zV (lav (b := 1000) (by exact rfl) (by exact rfl) (by exact rfl) (by exact List.mem_cons_of_mem _ (List.mem_cons_of_mem _ (List.mem_cons_of_mem _ (List.mem_cons_self ..))))) ?_;refine zV lak ?_;refine zV lai ?_;refine zV (lap _) ?_;refine zV lao ?_;refine zV laj ?_
  refine zV (laF (rows := [[.int .i64 x.seen.kind, .int .i64 x.seen.n, c, .int .i64 tg]]) (by exact rfl) (by exact rfl) (by decide) (by decide) (by exact RowsOf.cons (by exact rfl) RowsOf.nil) (by exact AllP.cons (by exact rfl) AllP.nil) hcl) ?_
  refine zV lai ?_
  rw [hg1]
  refine zV (loc_appendF (by exact rfl) (by exact rfl) (by exact .inl rfl) (by exact .inr (.inl rfl)) h4 (by intro r hr; rw [List.mem_singleton.1 hr]; rfl) (by rw [hn]; simp only [List.length_cons, List.length_nil]; unfold maxLen; omega) (by rw [hn]; simp only [List.length_cons, List.length_nil]; omega)) ?_
  refine zY (lat (hb) rfl (by refine ⟨_, _, rfl, (by exact LeU.of_eq rfl zo), (by exact Exists.intro _ rfl), ?_⟩;refine zC7 ?_;refine zC ?_;exact rfl)) ?_
  refine zE laf ?_;refine znD ?_;refine zre ?_
  exact lbj (.inr rfl) (by exact rfl) (by exact rfl) (laX _) rfl (by exact rfl) (laX _) (by exact ⟨zo, zo, la5 hd, zo, zo⟩) lf3
variable {u : V} {f1 t1 : Ty} {at' : Int} {back : Bool}
inductive WrapC (g : Nat) (u : V) (f1 t1 : Ty) (at' : Int) (back : Bool) : Res → Res → Prop
  | o {o : Out} (ho : (o.kind != 0) = true) : WrapC g u f1 t1 at' back (.out o) (.out o)
  | p {y : V} {F : Nat} {o : Out} (ho : (o.kind != 0) = true) (hap : ApA g u y F (.out o)) : WrapC g u f1 t1 at' back (.ok y F) (.out o)
  | w {y z : V} {F F2 : Nat} {r : Res} (hap : ApA g u y F (.ok z F2)) (hca : ACalls Tryz.prog 73 [.one (.ptr 1000 0), .agg (V.th g z), Ty.u (f1), Ty.u (t1), .one (.int .i64 at'), .one (.bool (back))] [(1000, .obj (wOk g F2))] (.agg (resC g r)) [(1000, .obj (wAft g r))]) : WrapC g u f1 t1 at' back (.ok y F) r
set_option maxHeartbeats 4000000 in
theorem apa_wrap {kf kt : Int} {f0 t0 : Ty} (x : V) {r1 r : Res} (hc1 : ACalls Tryz.prog 73 [.one (.ptr 1000 0), .agg (V.th g x), Ty.u (t0), Ty.u (f0), .one (.int .i64 at'), .one (.bool (!back))] [(1000, .obj (wOk g F))] (.agg (resC g r1)) [(1000, .obj (wAft g r1))]) (hC : WrapC g u f1 t1 at' back r1 r) : ApA g (.wrap u (.mk kf [f0, f1]) (.mk kt [t0, t1]) at' back) x F r := by
  refine ⟨106, [wHeld g, .one (fpo (Ty.mk kt [t0, t1]).c 0), .one (fpo (Ty.mk kf [f0, f1]).c 0), .one (fpo [.int .i64 at'] 0), .one (fpo [.bool back] 0), .one (fpo (V.th g u) 0)], by simp only [V.th], by simp only [capsOk, capOk, wHeld, Bool.and_true, Bool.and_eq_true];exact ⟨rfl, rfl, rfl, rfl, rfl, rfl⟩, ?_⟩
  obtain ⟨c, hc, tg, e⟩ := lbk g x
  obtain ⟨cu, hcu, tgu, eu⟩ := lbk g u
  have ht0 : (tyRows [t0, t1])[0]? = some t0.c := by simp [tyRows, Ty.cells_c]
  have ht1 : (tyRows [t0, t1])[1]? = some t1.c := by simp [tyRows, Ty.cells_c]
  have hf0 : (tyRows [f0, f1])[0]? = some f0.c := by simp [tyRows, Ty.cells_c]
  have hf1 : (tyRows [f0, f1])[1]? = some f1.c := by simp [tyRows, Ty.cells_c]
  rw [e] at hc1 ⊢
  cases hC with
  | o ho =>
    rename_i o
    replace hc1 : ACalls _ _ _ _ (.agg th0) [(1000, .obj (wEnd g o))] := hc1
    show ACalls _ _ _ _ (.agg th0) [(1000, .obj (wEnd g o))]
    rw [eu]
    refine zB1 Tryz.func106 ?_
    refine zQ ?_;refine zM lan ?_;refine zM lah ?_;refine zn (zq ?_);refine zRD ?_;refine zV (lav (b := 1000) (by exact rfl) (by exact rfl) (by exact rfl) (by exact lau)) ?_;refine zV laj ?_;refine zV lak ?_;refine zV lai ?_;refine zV (lap _) ?_;refine zV lao ?_;refine zV lak ?_;refine zV lai ?_;refine zV (lap _) ?_;refine zV lao ?_;refine zV lai ?_;refine zV lai ?_;refine zV laz ?_
    refine zY (lat (hc1) rfl (by refine ⟨_, _, rfl, (by exact LeU.of_eq rfl zo), (by exact Exists.intro _ rfl), ?_⟩;refine ⟨_, _, rfl, (by exact LeU.of_eq rfl zo), (by (exact ⟨zo, zo, la5 (by assumption), zo, zo⟩; done)), ?_⟩;refine zC2 ?_;refine zC2 ?_;refine zC ?_;refine zC ?_;exact rfl)) ?_
    refine zM lah ?_;refine zE laf ?_;refine znD ?_;refine zq (zQ ?_);refine zV (lav (b := 1000) (by exact rfl) (by exact rfl) (by exact rfl) (by exact laR)) ?_;refine zV lag ?_;refine zV lad ?_;refine zV lad ?_;refine zV lae ?_;refine zV lac ?_;refine zn ?_;refine zaT ?_;refine zQ ?_;refine zV laq ?_;refine zE laf ?_;refine zn (zre ?_)
    exact lbj (.inr rfl) (by exact rfl) (by exact rfl) (laX _) rfl (by exact rfl) (laX _) okT0 okE
  | p ho hap =>
    rename_i y F1 o
    obtain ⟨fid, caps, eu, hcl, hap⟩ := hap
    obtain ⟨d, hd, tg', e'⟩ := lbk g y
    replace hc1 : ACalls _ _ _ _ (.agg (V.th g y)) [(1000, .obj (wOk g F1))] := hc1
    replace hap : ACalls _ _ _ _ (.agg th0) [(1000, .obj (wEnd g o))] := hap
    rw [e'] at hc1 hap
    show ACalls _ _ _ _ (.agg th0) [(1000, .obj (wEnd g o))]
    rw [eu]
    refine zB1 Tryz.func106 ?_
    refine zQ ?_;refine zM lan ?_;refine zM lah ?_;refine zn (zq ?_);refine zRD ?_;refine zV (lav (b := 1000) (by exact rfl) (by exact rfl) (by exact rfl) (by exact lau)) ?_;refine zV laj ?_;refine zV lak ?_;refine zV lai ?_;refine zV (lap _) ?_;refine zV lao ?_;refine zV lak ?_;refine zV lai ?_;refine zV (lap _) ?_;refine zV lao ?_;refine zV lai ?_;refine zV lai ?_;refine zV laz ?_
    refine zY (lat (hc1) rfl (by refine ⟨_, _, rfl, (by exact LeU.of_eq rfl zo), (by exact Exists.intro _ rfl), ?_⟩;refine ⟨_, _, rfl, (by exact LeU.of_eq rfl zo), (by (exact ⟨zo, zo, la5 (by assumption), zo, zo⟩; done)), ?_⟩;refine zC2 ?_;refine zC2 ?_;refine zC ?_;refine zC ?_;exact rfl)) ?_
    refine zM lah ?_;refine zE laf ?_;refine znD ?_;refine zq (zQ ?_);refine zV (lav (b := 1000) (by exact rfl) (by exact rfl) (by exact rfl) (by exact lau)) ?_;refine zV lag ?_;refine zV lad ?_;refine zV lad ?_;refine zV lae ?_;refine zV lac ?_;refine zn ?_;refine zcF ?_;refine zsk (zQ ?_);refine zV lak ?_;refine zV lai ?_;refine zV laj ?_
    refine zY (lfW (us' := [.agg [.int .i64 y.seen.kind, .int .i64 y.seen.n, d, .int .i64 tg']]) (by exact rfl) hcl (by exact rfl) (by exact ⟨LeU.of_eq rfl zo, zo⟩) hap (by intro b hb; rw [List.mem_singleton.1 hb]; rfl) (by exact rfl) (by simp [namesL]) (by exact okW1) (by intro u hu; rw [List.mem_singleton.1 hu];exact lbh.1 ⟨zo, zo, la5 hd, zo, zo⟩)) ?_
    refine zM lah ?_;refine zE laf ?_;refine zn (zq (zQ ?_));refine zV (lav (b := 1000) (by exact rfl) (by exact rfl) (by exact rfl) (by exact laR)) ?_;refine zV lag ?_;refine zV lad ?_;refine zV lad ?_;refine zV lae ?_;refine zV lac ?_;refine zn ?_;refine zaT ?_;refine zQ ?_;refine zV laq ?_;refine zE laf ?_;refine zn (zre ?_)
    exact lbj (.inr rfl) (by exact rfl) (by exact rfl) (laX _) rfl (by exact rfl) (laX _) okT0 okE
  | w hap hca =>
    rename_i y z F1 F2
    obtain ⟨fid, caps, eu, hcl, hap⟩ := hap
    obtain ⟨d, hd, tg', e'⟩ := lbk g y
    obtain ⟨d2, hd2, tg2, e2⟩ := lbk g z
    obtain ⟨k', n', d', tg3, hc, e3⟩ := lcG g r
    replace hc1 : ACalls _ _ _ _ (.agg (V.th g y)) [(1000, .obj (wOk g F1))] := hc1
    replace hap : ACalls _ _ _ _ (.agg (V.th g z)) [(1000, .obj (wOk g F2))] := hap
    rw [e'] at hc1 hap
    rw [e2] at hap hca
    rw [e3] at hca ⊢
    rw [eu]
    refine zB1 Tryz.func106 ?_
    refine zQ ?_;refine zM lan ?_;refine zM lah ?_;refine zn (zq ?_);refine zRD ?_;refine zV (lav (b := 1000) (by exact rfl) (by exact rfl) (by exact rfl) (by exact lau)) ?_;refine zV laj ?_;refine zV lak ?_;refine zV lai ?_;refine zV (lap _) ?_;refine zV lao ?_;refine zV lak ?_;refine zV lai ?_;refine zV (lap _) ?_;refine zV lao ?_;refine zV lai ?_;refine zV lai ?_;refine zV laz ?_
    refine zY (lat (hc1) rfl (by refine ⟨_, _, rfl, (by exact LeU.of_eq rfl zo), (by exact Exists.intro _ rfl), ?_⟩;refine ⟨_, _, rfl, (by exact LeU.of_eq rfl zo), (by (exact ⟨zo, zo, la5 (by assumption), zo, zo⟩; done)), ?_⟩;refine zC2 ?_;refine zC2 ?_;refine zC ?_;refine zC ?_;exact rfl)) ?_
    refine zM lah ?_;refine zE laf ?_;refine znD ?_;refine zq (zQ ?_);refine zV (lav (b := 1000) (by exact rfl) (by exact rfl) (by exact rfl) (by exact lau)) ?_;refine zV lag ?_;refine zV lad ?_;refine zV lad ?_;refine zV lae ?_;refine zV lac ?_;refine zn ?_;refine zcF ?_;refine zsk (zQ ?_);refine zV lak ?_;refine zV lai ?_;refine zV laj ?_
    refine zY (lfW (us' := [.agg [.int .i64 y.seen.kind, .int .i64 y.seen.n, d, .int .i64 tg']]) (by exact rfl) hcl (by exact rfl) (by exact ⟨LeU.of_eq rfl zo, zo⟩) hap (by intro b hb; rw [List.mem_singleton.1 hb]; rfl) (by exact rfl) (by simp [namesL]) (by exact okW1) (by intro u hu; rw [List.mem_singleton.1 hu];exact lbh.1 ⟨zo, zo, la5 hd, zo, zo⟩)) ?_
    refine zM lah ?_;refine zE laf ?_;refine zn (zq (zQ ?_));refine zV (lav (b := 1000) (by exact rfl) (by exact rfl) (by exact rfl) (by exact lau)) ?_;refine zV lag ?_;refine zV lad ?_;refine zV lad ?_;refine zV lae ?_;refine zV lac ?_;refine zn ?_;refine zcF ?_;refine zsk (zq ?_);refine zRD ?_;refine zV (lav (b := 1000) (by exact rfl) (by exact rfl) (by exact rfl) (by exact lau)) ?_;refine zV laj ?_;refine zV lak ?_;refine zV lai ?_;refine zV (lap _) ?_;refine zV lao ?_;refine zV lak ?_;refine zV lai ?_;refine zV (lap _) ?_;refine zV lao ?_;refine zV lai ?_;refine zV lai ?_
    refine zY (lat (hca) rfl (by refine ⟨_, _, rfl, (by exact LeU.of_eq rfl zo), (by exact Exists.intro _ rfl), ?_⟩;refine ⟨_, _, rfl, (by exact LeU.of_eq rfl zo), (by (exact ⟨zo, zo, la5 (by assumption), zo, zo⟩; done)), ?_⟩;refine zC2 ?_;refine zC2 ?_;refine zC ?_;refine zC ?_;exact rfl)) ?_
    refine zE laf ?_;refine znD ?_;refine zre ?_
    exact lbj (.inr rfl) (by exact rfl) (by exact rfl) (laX _) rfl (by exact rfl) (laX _) (by exact ⟨zo, zo, la5 hc, zo, zo⟩) lf3
end
end Go.Proofs.YtnflnbdlgdjfmabGreatDoor
namespace Go.Proofs.YtnflnbdlgdjfmabGreatDoor
open Go.RowKit
theorem castV_o {v : V} {f t : Ty} {at' : Int} {back : Bool} {o : Out} (h : castV v f t at' back = .inr o) : (o.kind != 0) = true := by
  unfold castV at h
  split at h
  · cases h
  split at h
  · cases h
  split at h
  · cases h
  split at h
  · split at h
    · split at h
      · split at h
        · cases h
        · split at h
          · cases h
          · cases h; rfl
      · cases h; rfl
    · cases h; rfl
  · cases h; rfl
theorem twoV_s {k : Int} {v w : V} {o : Out} (h : twoV k v w = some (.inr o)) : o = .stuck := by
  unfold twoV at h
  split at h
  · split at h <;> cases h
  · cases h; rfl
  · cases h; rfl
theorem ev_o {c : Cmd} {F : Nat} {r : Res} (h : Ev c F r) : ∀ o, r = .out o → (o.kind != 0) = true := by
  have hR : ∀ {v : V} {f t : Ty} {at' : Int} {back : Bool} {F : Nat} (o : Out), castR v f t at' back F = .out o → (o.kind != 0) = true := fun {v f t at' back F} o h => by
    unfold castR at h
    cases hc : castV v f t at' back with
    | inl u => rw [hc] at h; cases h
    | inr o' => rw [hc] at h; cases h; exact castV_o hc
  induction h with
  | ref _ => intro o h; cases h
  | refS _ => intro o h; cases h; rfl
  | lit => intro o h; cases h
  | says => intro o h; cases h
  | fn => intro o h; cases h
  | asc _ ih => exact ih
  | castO _ ih => exact ih
  | cast _ _ => exact hR
  | ifO _ ih => exact ih
  | ifS _ _ _ => intro o h; cases h; rfl
  | ifT _ _ _ ih => exact ih
  | ifF _ _ _ ih => exact ih
  | binO _ _ ih => exact ih
  | binP _ _ _ _ ih => exact ih
  | twoV _ _ _ _ _ _ => intro o h; cases h
  | twoO _ _ _ h _ _ => intro o h'; cases h'; rw [twoV_s h]; rfl
  | call _ _ _ _ _ ih => exact ih
  | clo0 => intro o h; cases h; rfl
  | clo _ ih => exact ih
  | wrapO hc => intro o h; cases h; exact castV_o hc
  | wrapP _ _ ih => exact ih
  | wrap _ _ _ => exact hR
  | apN => intro o h; cases h; rfl
  | apT => intro o h; cases h; rfl
  | apG => intro o h; cases h; rfl
theorem ct_stuck {c : Cmd} {F : Nat} (h : Ev c F (.out .stuck)) (hi : IC c) : NC' c := by
  rcases hi with ⟨τ, ht⟩ | h'
  · rcases ev_rt h τ ht with h | ⟨n, b, h⟩
    · simp [Out.stuck, Out.fuel] at h
    · simp [Out.stuck, Out.blame] at h
  · exact h'
theorem ic1 {k n : Int} {t f : Ty} {b : Tm} {env : List V} (hk : k ≠ 7) (h : IC (.tm (.mk k n t f [b]) env)) : IC (.tm b env) := by
  rcases h with ⟨τ, Γ, he, ht⟩ | ⟨hc, he, hn⟩
  · cases ht with
    | fn _ => exact absurd rfl hk
    | asc h => exact .inl ⟨_, Γ, he, h⟩
    | cast _ _ _ h => exact .inl ⟨_, Γ, he, h⟩
  · by_cases h10 : k = 10
    · subst h10; exact (cc_ten hc).elim
    · rw [cc1 h10] at hc; rw [nd1] at hn; exact .inr ⟨hc, he, by omega⟩
theorem ic2 {k n : Int} {t f : Ty} {a b : Tm} {env : List V} (h : IC (.tm (.mk k n t f [a, b]) env)) : IC (.tm a env) ∧ IC (.tm b env) := by
  rcases h with ⟨τ, Γ, he, ht⟩ | ⟨hc, he, hn⟩
  · cases ht with
    | add ha hb => exact ⟨.inl ⟨_, Γ, he, ha⟩, .inl ⟨_, Γ, he, hb⟩⟩
    | less ha hb => exact ⟨.inl ⟨_, Γ, he, ha⟩, .inl ⟨_, Γ, he, hb⟩⟩
    | call ha hb => exact ⟨.inl ⟨_, Γ, he, ha⟩, .inl ⟨_, Γ, he, hb⟩⟩
  · by_cases h10 : k = 10
    · subst h10; exact (cc_ten hc).elim
    · rw [cc2 h10] at hc; rw [nd2] at hn; exact ⟨.inr ⟨by omega, he, by omega⟩, .inr ⟨by omega, he, by omega⟩⟩
theorem ic3 {k n : Int} {t f : Ty} {a b c : Tm} {env : List V} (h : IC (.tm (.mk k n t f [a, b, c]) env)) : IC (.tm a env) ∧ IC (.tm b env) ∧ IC (.tm c env) := by
  rcases h with ⟨τ, Γ, he, ht⟩ | ⟨hc, he, hn⟩
  · cases ht with
    | ife ha hb hc => exact ⟨.inl ⟨_, Γ, he, ha⟩, .inl ⟨_, Γ, he, hb⟩, .inl ⟨_, Γ, he, hc⟩⟩
  · by_cases h10 : k = 10
    · subst h10; exact (cc_ten hc).elim
    · rw [cc3 h10] at hc; rw [nd3] at hn; exact ⟨.inr ⟨by omega, he, by omega⟩, .inr ⟨by omega, he, by omega⟩, .inr ⟨by omega, he, by omega⟩⟩
theorem ic_ap {n : Int} {t f : Ty} {a b : Tm} {env : List V} {v w : V} {F F1 F2 F3 : Nat} (h : IC (.tm (.mk 8 n t f [a, b]) env)) (ha : Ev (.tm a env) F (.ok v F1)) (hb : Ev (.tm b env) F2 (.ok w F3)) : IC (.ap v w) := by
  rcases h with ⟨τ, Γ, he, ht⟩ | ⟨hc, he, hn⟩
  · cases ht with
    | call h1 h2 => exact .inl ⟨τ, _, ev_rt ha _ ⟨Γ, he, h1⟩, ev_rt hb _ ⟨Γ, he, h2⟩⟩
  · rw [cc2 (by decide)] at hc; rw [nd2] at hn
    exact .inr ⟨ev_nr ha ⟨by omega, he, by omega⟩, ev_nr hb ⟨by omega, he, by omega⟩⟩
theorem ic_clo {b : Tm} {env : List V} {x : V} (h : IC (.ap (.clo b env) x)) : IC (.tm b (x :: env)) := by
  rcases h with ⟨τ, σ, hf, hx⟩ | ⟨hf, hx⟩
  · cases hf with | clo hl he hb => exact .inl ⟨_, _, EnvT.cons ⟨hl, he⟩ hx, hb⟩
  · cases hf with
    | clo he hc hn =>
      refine .inr ⟨hc, fun v hv => ?_, hn⟩
      rcases List.mem_cons.1 hv with rfl | hv
      · exact hx
      · exact he v hv
theorem vn_th {g : Nat} {v : V} (h : VN v) : ∃ d, closedC d = true ∧ V.th g v = [.int .i64 v.seen.kind, .int .i64 v.seen.n, d, .int .i64 0] := by
  cases h with
  | num => exact ⟨_, rfl, rfl⟩
  | tru => exact ⟨_, rfl, rfl⟩
  | clo _ _ _ => exact ⟨_, rfl, rfl⟩
def V.isFn : V → Bool
  | .clo _ _ => true
  | .wrap _ _ _ _ _ => true
  | _ => false
theorem vt_fn {v : V} {σ τ : Ty} (h : VT v (.to σ τ)) : v.isFn = true := by cases h <;> rfl
def CA (g : Nat) : Cmd → Nat → Res → Prop
  | .tm t env, F, r => EvA g t env F r
  | .ap f x, F, r => (f.isFn = true → ApA g f x F r) ∧ (f.isFn = false → r = .out .stuck)
theorem ldU {v u : V} {f t : Ty} {at' : Int} {back : Bool} {F : Nat} (h : castV v f t at' back = .inl u) : castR v f t at' back F = .ok u F := by unfold castR; rw [h]
theorem castR_inr {v : V} {f t : Ty} {at' : Int} {back : Bool} {F : Nat} {o : Out} (h : castV v f t at' back = .inr o) : castR v f t at' back F = .out o := by unfold castR; rw [h]
theorem wrap_fn {g F : Nat} {x u : V} {f0 f1 t0 t1 : Ty} {kf kt at' : Int} {back : Bool} (h : IC (.ap (.wrap u (.mk kf [f0, f1]) (.mk kt [t0, t1]) at' back) x)) : kf = 3 ∧ kt = 3 ∧ Right f0 ∧ Right f1 ∧ Right t0 ∧ Right t1 ∧ f1.fits t1 = true ∧ VT u (.to f0 f1) ∧ t0.fits f0 = true ∧ VT x t0 := by
  rcases h with ⟨τ, σ, hf, hx⟩ | ⟨hf, _⟩
  · cases hf with | wrap h0 h1 h2 h3 g0 g1 hv => exact ⟨rfl, rfl, h0, h1, h2, h3, g1, hv, lcq ▸ g0, hx⟩
  · cases hf
theorem wrap_next {x y u : V} {f0 f1 t0 t1 : Ty} {at' : Int} {back b : Bool} (hx : VT x t0) (h2 : Right t0) (h0 : Right f0) (hf : t0.fits f0 = true) (hu : VT u (.to f0 f1)) (hc : GC (.ap (.wrap u (.mk 3 [f0, f1]) (.mk 3 [t0, t1]) at' back) x)) (h : castV x t0 f0 at' b = .inl y) : GC (.ap u y) ∧ VT y f0 := by
  refine ⟨⟨?_, castV_g hc.2 h2 h0 h⟩, ?_⟩
  · cases hc.1 with | wrap _ _ _ _ hv => exact hv
  · rcases ldg (at' := at') (back := b) hx h2 h0 hf with ⟨u, h4, h5⟩ | h4
    · rw [h] at h4; cases h4; exact h5
    · rw [h] at h4; cases h4
theorem ev_a {c : Cmd} {F : Nat} {r : Res} (g : Nat) (h : Ev c F r) : GC c → IC c → F ≤ 1000000 → CA g c F r := by
  induction h with
  | ref hv =>
    intro hc hi hF
    cases hc.1 with
    | ref h0 => obtain ⟨m, rfl⟩ := Int.eq_ofNat_of_zero_le h0; exact eva_ref g _ _ _ _ _ hv
    | bin hk _ _ => omega
  | refS hv =>
    intro hc hi hF
    cases hc.1 with
    | ref h0 => obtain ⟨m, rfl⟩ := Int.eq_ofNat_of_zero_le h0; exact eva_refS g _ _ _ _ _ hv
    | bin hk _ _ => omega
  | lit => intro hc hi hF; exact eva_lit g _ _ _ _ _ _
  | says => intro hc hi hF; exact eva_says g _ _ _ _ _ _
  | fn =>
    intro hc hi hF
    cases hc.1 with
    | fn _ => exact eva_fn g _ _ _ _ _ _
    | bin hk _ _ => omega
  | asc _ ih =>
    intro hc hi hF
    cases hc.1 with
    | asc _ => exact eva_as g _ _ _ _ _ _ (ih hc.head (ic1 (by decide) hi) hF)
    | bin hk _ _ => omega
  | castO h ih =>
    intro hc hi hF
    cases hc.1 with
    | cast _ _ _ => exact eva_castO g _ _ _ _ _ _ (ev_o h _ rfl) (ih hc.head (ic1 (by decide) hi) hF)
    | bin hk _ _ => omega
  | cast h ih =>
    intro hc hi hF
    cases hc.1 with
    | cast ht hf _ =>
      refine eva_cast g _ _ _ _ _ _ (ih hc.head (ic1 (by decide) hi) hF) ?_
      rcases hi with ⟨τ, Γ, he, hT⟩ | ⟨hc, _, _⟩
      · cases hT with
        | cast ht hf hs hb => exact lf6 g _ _ _ _ _ (ev_rt h _ ⟨Γ, he, hb⟩) hf ht hs
      · exact (cc_ten hc).elim
    | bin hk _ _ => omega
  | ifO h ih =>
    intro hc hi hF
    exact eva_if g _ _ _ _ _ _ _ _ (ih hc.three.1 (ic3 hi).1 hF) (.inl ⟨_, rfl, ev_o h _ rfl, rfl⟩)
  | ifS h hv ih =>
    intro hc hi hF
    have hN := ct_stuck (.ifS h hv) hi
    have hn := ev_nr h ⟨by have := hN.1; rw [cc3 (by decide)] at this; omega, hN.2.1, by have := hN.2.2; rw [nd3] at this; omega⟩
    obtain ⟨d, hd, e⟩ := vn_th (g := g) hn
    refine eva_if g _ _ _ _ _ _ _ _ (ih hc.three.1 (ic3 hi).1 hF) (.inr (.inl ⟨_, _, _, _, d, _, rfl, e, hd, rfl, .inr ⟨rfl, ?_⟩⟩))
    cases hn with
    | num => rfl
    | tru => exact absurd rfl (hv _)
    | clo _ _ _ => rfl
  | ifT h1 _ ih1 ih2 =>
    intro hc hi hF
    have hle := (ev_g h1 hc.three.1).2
    exact eva_if g _ _ _ _ _ _ _ _ (ih1 hc.three.1 (ic3 hi).1 hF) (.inr (.inr (.inl ⟨_, rfl, ih2 hc.three.2.1 (ic3 hi).2.1 (Nat.le_trans hle hF)⟩)))
  | ifF h1 _ ih1 ih2 =>
    intro hc hi hF
    have hle := (ev_g h1 hc.three.1).2
    exact eva_if g _ _ _ _ _ _ _ _ (ih1 hc.three.1 (ic3 hi).1 hF) (.inr (.inr (.inr ⟨_, rfl, ih2 hc.three.2.2 (ic3 hi).2.2 (Nat.le_trans hle hF)⟩)))
  | binO hk h ih =>
    intro hc hi hF
    have ha := ih hc.two.1 (ic2 hi).1 hF
    rcases hk with rfl | rfl | rfl <;> exact lc8 g _ _ _ _ _ _ _ _ rfl rfl rfl rfl rfl rfl rfl ha (.o (ev_o h _ rfl))
  | binP hk h1 h2 ih1 ih2 =>
    intro hc hi hF
    have ha := ih1 hc.two.1 (ic2 hi).1 hF
    have hb := ih2 hc.two.2 (ic2 hi).2 (Nat.le_trans (ev_g h1 hc.two.1).2 hF)
    rcases hk with rfl | rfl | rfl <;> exact lc8 g _ _ _ _ _ _ _ _ rfl rfl rfl rfl rfl rfl rfl ha (.p (ev_o h2 _ rfl) hb)
  | twoV hk h1 h2 h ih1 ih2 =>
    intro hc hi hF
    have ha := ih1 hc.two.1 (ic2 hi).1 hF
    have hb := ih2 hc.two.2 (ic2 hi).2 (Nat.le_trans (ev_g h1 hc.two.1).2 hF)
    unfold twoV at h
    split at h
    · rename_i p q
      split at h
      · rename_i hin
        simp only [Bool.and_eq_true, ld0] at hin
        rcases hk with rfl | rfl
        · have hcl : clamp (p + q) = min (max (p + q) (-1000000)) 1000000 := by unfold clamp; omega
          simp only [show ((4 : Int) == 5) = false from rfl, Bool.false_eq_true, if_false, Option.some.injEq, Sum.inl.injEq] at h
          subst h
          rw [hcl]
          exact lc8 g _ _ _ _ _ _ _ _ rfl rfl rfl rfl rfl rfl rfl ha (.add hb rfl rfl hin.1 hin.2)
        · simp only [show ((5 : Int) == 5) = true from rfl, if_true, Option.some.injEq, Sum.inl.injEq] at h
          subst h
          by_cases hlt : p < q
          · rw [if_pos hlt]; exact lc8 g _ _ _ _ _ _ _ _ rfl rfl rfl rfl rfl rfl rfl ha (.lt hb rfl rfl (decide_eq_true hlt))
          · rw [if_neg hlt]; exact lc8 g _ _ _ _ _ _ _ _ rfl rfl rfl rfl rfl rfl rfl ha (.ge hb rfl rfl (decide_eq_false hlt))
      · cases h
    · cases h
    · cases h
  | twoO hk h1 h2 h ih1 ih2 =>
    intro hc hi hF
    have ha := ih1 hc.two.1 (ic2 hi).1 hF
    have hb := ih2 hc.two.2 (ic2 hi).2 (Nat.le_trans (ev_g h1 hc.two.1).2 hF)
    have hs := twoV_s h
    subst hs
    have hN := ct_stuck (.twoO hk h1 h2 h) hi
    have hN1 := hN.1
    have hN3 := hN.2.2
    rw [cc2 (by omega)] at hN1
    rw [nd2] at hN3
    have hv := ev_nr h1 ⟨by omega, hN.2.1, by omega⟩
    have hw := ev_nr h2 ⟨by omega, hN.2.1, by omega⟩
    obtain ⟨d, hd, e⟩ := vn_th (g := g) hv
    obtain ⟨d', hd', e'⟩ := vn_th (g := g) hw
    rename_i k n t f a b env F F1 F2 v w
    have hs : (v.seen.kind != 1) = true ∨ ((v.seen.kind != 1) = false ∧ (w.seen.kind != 1) = true) := by
      cases hv with
      | num =>
        cases hw with
        | num => unfold twoV at h; simp only at h; split at h <;> cases h
        | tru => exact .inr ⟨rfl, rfl⟩
        | clo _ _ _ => exact .inr ⟨rfl, rfl⟩
      | tru => exact .inl rfl
      | clo _ _ _ => exact .inl rfl
    have h8 : (k == 8) = false := by rcases hk with rfl | rfl <;> rfl
    have hB : BinC g k b env (.ok v F1) (.out .stuck) := .s4 hb e hd e' hd' h8 (by
      rcases hs with h | ⟨h, h'⟩
      · exact .inr (.inl ⟨rfl, h⟩)
      · exact .inr (.inr (.inr ⟨rfl, h, rfl, h'⟩)))
    rcases hk with rfl | rfl <;> exact lc8 g _ _ _ _ _ _ _ _ rfl rfl rfl rfl rfl rfl rfl ha hB
  | call h1 h2 h3 ih1 ih2 ih3 =>
    intro hc hi hF
    have ha := ih1 hc.two.1 (ic2 hi).1 hF
    have g1 := ev_g h1 hc.two.1
    have g2 := ev_g h2 hc.two.2
    have hb := ih2 hc.two.2 (ic2 hi).2 (Nat.le_trans g1.2 hF)
    have hap := ih3 ⟨g1.1, g2.1⟩ (ic_ap hi h1 h2) (Nat.le_trans g2.2 (Nat.le_trans g1.2 hF))
    rename_i n t f a b env F F1 F2 v w r
    cases hf : v.isFn with
    | true =>
      obtain ⟨fid, caps, e, hcl, hca⟩ := hap.1 hf
      exact lc8 g _ _ _ _ _ _ _ _ rfl rfl rfl rfl rfl rfl rfl ha (.call hb rfl e hcl hca)
    | false =>
      have hr := hap.2 hf
      subst hr
      have hN := ct_stuck (.call h1 h2 h3) hi
      have hN1 := hN.1
      have hN3 := hN.2.2
      rw [cc2 (by decide)] at hN1
      rw [nd2] at hN3
      have hv := ev_nr h1 ⟨by omega, hN.2.1, by omega⟩
      obtain ⟨d, hd, e⟩ := vn_th (g := g) hv
      refine lc8 g _ _ _ _ _ _ _ _ rfl rfl rfl rfl rfl rfl rfl ha (.s8 hb e hd rfl (.inr ⟨rfl, ?_⟩))
      cases hv with
      | num => rfl
      | tru => rfl
      | clo _ _ _ => cases hf
  | clo0 => intro hc hi hF; exact ⟨fun _ => apa_clo0 g _ _ _, fun h => by cases h⟩
  | clo _ ih =>
    intro hc hi hF
    rename_i b env x F r _
    have hE := hc.1
    have hb : GC (.tm b (x :: env)) ∧ env.length ≤ 1000000 := by
      cases hE with
      | clo hb he hl =>
        refine ⟨⟨hb, fun v hv => ?_, by simp only [List.length_cons]; omega⟩, by omega⟩
        rcases List.mem_cons.1 hv with rfl | hv
        · exact hc.2
        · exact he v hv
    exact ⟨fun _ => apa_clo g _ _ _ _ (by omega) hb.2 (ih hb.1 (ic_clo hi) (by omega)), fun h => by cases h⟩
  | wrapO h =>
    intro hc hi hF
    obtain ⟨rfl, rfl, f0, f1, t0, t1, hfit, hu, hf', hx⟩ := wrap_fn (g := g) (F := F) hi
    refine ⟨fun _ => ?_, fun h => by cases h⟩
    rename_i kA kB kF _ _
    have hca := lf6 g kF _ _ kA (!kB) hx t0 f0 hf'
    rw [castR_inr h] at hca
    exact apa_wrap g _ _ hca (.o (castV_o h))
  | wrapP h h2 ih =>
    intro hc hi hF
    obtain ⟨rfl, rfl, f0, f1, t0, t1, hfit, hu, hf', hx⟩ := wrap_fn (g := g) (F := F) hi
    refine ⟨fun _ => ?_, fun h => by cases h⟩
    rename_i kA kB kF _ _
    have hca := lf6 g kF _ _ kA (!kB) hx t0 f0 hf'
    rw [ldU h] at hca
    obtain ⟨h5, h6⟩ := wrap_next hx t0 f0 hf' hu hc h
    exact apa_wrap g _ _ hca (.p (ev_o h2 _ rfl) ((ih h5 (.inl ⟨_, _, hu, h6⟩) hF).1 (vt_fn hu)))
  | wrap h h2 ih =>
    intro hc hi hF
    obtain ⟨rfl, rfl, f0, f1, t0, t1, hfit, hu, hf', hx⟩ := wrap_fn (g := g) (F := F) hi
    refine ⟨fun _ => ?_, fun h => by cases h⟩
    rename_i kA kB kF _ _
    have hca := lf6 g kF _ _ kA (!kB) hx t0 f0 hf'
    rw [ldU h] at hca
    obtain ⟨h5, h6⟩ := wrap_next hx t0 f0 hf' hu hc h
    exact apa_wrap g _ _ hca (.w ((ih h5 (.inl ⟨_, _, hu, h6⟩) hF).1 (vt_fn hu)) (lf6 g _ _ _ _ _ (ev_rt h2 _ ⟨_, hu, h6⟩) f1 t1 hfit))
  | apN => intro hc hi hF; exact ⟨fun h => (by cases h), fun _ => rfl⟩
  | apT => intro hc hi hF; exact ⟨fun h => (by cases h), fun _ => rfl⟩
  | apG => intro hc hi hF; exact ⟨fun h => (by cases h), fun _ => rfl⟩
end Go.Proofs.YtnflnbdlgdjfmabGreatDoor
namespace Go.Proofs.YtnflnbdlgdjfmabGreatDoor
open Go.RowKit
set_option maxRecDepth 100000
attribute [local irreducible] RunL AW LocOp ACalls Gh
theorem seen_eq : ∀ v : V, v.seen = ⟨v.seen.kind, v.seen.n, false⟩ ∧ (v.seen.kind = 3 → v.seen.n = 0)
  | .num n => ⟨rfl, fun h => absurd (show (1 : Int) = 3 from h) (by decide)⟩
  | .tru n => ⟨rfl, fun h => absurd (show (2 : Int) = 3 from h) (by decide)⟩
  | .clo _ _ => ⟨rfl, fun _ => rfl⟩
  | .wrap _ _ _ _ _ => ⟨rfl, fun _ => rfl⟩
  | .tag v _ => seen_eq v
set_option maxHeartbeats 2000000 in
theorem outcome_a (t : Tm) (f : Nat) (r : Res) (he : ∀ g, EvA g t [] f r) (ho : ∀ o, r = .out o → (o.kind != 0) = true) : ACalls Tryz.prog 22 [t.u, .one (.int .i64 (f : Nat))] [] r.told.u [] := by
  refine zB Tryz.func22 ?_
  refine zq ?_
  refine zR ?_
  refine zM lan ?_;refine zM lah ?_;refine zn ?_
  refine zQ ?_;refine zV laa ?_;refine zV laq ?_
  refine zM (laQ 1000 (by exact rfl) (by exact rfl) (by exact rfl) (by exact rfl)) ?_
  refine zV lab ?_;refine zn ?_
  refine AW.pin (b := 1000) (j := 3) (by exact rfl) (by exact Nat.le_refl 4) fun g => ?_
  have hb := he g
  unfold EvA at hb
  cases r with
  | out o =>
    have ho := ho o rfl
    replace hb : ACalls _ _ _ _ (.agg th0) [(1000, .obj (wEnd g o))] := hb
    refine zQ ?_;refine zV laa ?_;refine zV laj ?_
    refine zY (lat (hb) rfl (by refine ⟨_, _, rfl, (by exact LeU.of_eq rfl zo), (by exact Exists.intro _ rfl), ?_⟩;refine zC7 ?_;refine ⟨_, _, rfl, (by exact LeU.one' rfl (LeC.nil _)), (by exact zo), ?_⟩;exact rfl)) ?_
    refine zM lah ?_;refine zE laf ?_;refine zn (zq (zbl (zQ ?_)));refine zV laa ?_;refine zV lag ?_;refine zV lad ?_;refine zV lad ?_;refine zV lae ?_;refine zV lac ?_;refine zV lab ?_;refine zn ?_;refine zaT ?_;refine zQ ?_;refine zV laa ?_;refine zV lag ?_;refine zV lad ?_;refine zV (laj rfl rfl (by exact Cut.cons (by exact rfl) (Cut.cons (by exact rfl) (Cut.cons (by exact rfl) Cut.nil)))) ?_;refine zE laf ?_;refine zn (zre ?_)
    refine rq ?_
    exact lbg (l' := o.c) (by exact .inr rfl) (by exact rfl) (by exact rfl) (by exact rfl) [] trivial (by exact laX _) (by exact ⟨zo, zo, zo, zo⟩) (by exact rfl)
  | ok v F' =>
    obtain ⟨c, hc, tg, e⟩ := lbk g v
    obtain ⟨hs, hs3⟩ := seen_eq v
    replace hb : ACalls _ _ _ _ (.agg (V.th g v)) [(1000, .obj (wOk g F'))] := hb
    rw [e] at hb
    show AW _ _ _ _ _ _ (RetQ _ _ (V.seen v).u [])
    rw [hs]
    cases hk : (v.seen.kind == 3) with
    | true =>
      have hk3 : v.seen.kind = 3 := by simpa using hk
      rw [hs3 hk3] at hb ⊢
      rw [hk3] at hb ⊢
      refine zQ ?_;refine zV laa ?_;refine zV laj ?_
      refine zY (lat (hb) rfl (by refine ⟨_, _, rfl, (by exact LeU.of_eq rfl zo), (by exact Exists.intro _ rfl), ?_⟩;refine zC7 ?_;refine ⟨_, _, rfl, (by exact LeU.one' rfl (LeC.nil _)), (by exact zo), ?_⟩;exact rfl)) ?_
      refine zM lah ?_;refine zE laf ?_;refine zn (zq (zbl (zQ ?_)));refine zV laa ?_;refine zV lag ?_;refine zV lad ?_;refine zV lad ?_;refine zV lae ?_;refine zV lac ?_;refine zV lab ?_;refine zn ?_;refine zcF ?_;refine zQ ?_;refine zV lad ?_;refine zV lae ?_;refine zV lac ?_;refine zV lab ?_;refine zn ?_;refine zcT ?_;refine zQ ?_;refine zV laq ?_;refine zE laf ?_;refine zn (zre ?_)
      refine rq ?_
      exact lbg (l' := [.int .i64 3, .int .i64 0, .bool false]) (by exact .inr rfl) (by exact rfl) (by exact rfl) (by exact rfl) [] trivial (by exact laX _) (by exact ⟨zo, zo, zo, zo⟩) (by exact rfl)
    | false =>
      refine zQ ?_;refine zV laa ?_;refine zV laj ?_
      refine zY (lat (hb) rfl (by refine ⟨_, _, rfl, (by exact LeU.of_eq rfl zo), (by exact Exists.intro _ rfl), ?_⟩;refine zC7 ?_;refine ⟨_, _, rfl, (by exact LeU.one' rfl (LeC.nil _)), (by exact zo), ?_⟩;exact rfl)) ?_
      refine zM lah ?_;refine zE laf ?_;refine zn (zq (zbl (zQ ?_)));refine zV laa ?_;refine zV lag ?_;refine zV lad ?_;refine zV lad ?_;refine zV lae ?_;refine zV lac ?_;refine zV lab ?_;refine zn ?_;refine zcF ?_;refine zQ ?_;refine zV lad ?_;refine zV lae ?_;refine zV lac ?_;refine zV lab ?_;refine zn ?_;refine zaF ?_;refine zsk (zQ ?_);refine zV lad ?_;refine zV lae ?_;refine zV lad ?_;refine zV lae ?_;refine zV laq ?_;refine zE laf ?_;refine zn (zre ?_)
      refine rq ?_
      exact lbg (l' := [.int .i64 v.seen.kind, .int .i64 v.seen.n, .bool false]) (by exact .inr rfl) (by exact rfl) (by exact rfl) (by exact rfl) [] trivial (by exact laX _) (by exact ⟨zo, zo, zo, zo⟩) (by exact rfl)
end Go.Proofs.YtnflnbdlgdjfmabGreatDoor
namespace Go.Proofs.YtnflnbdlgdjfmabGreatDoor
open Go.RowKit
def mapEs (l : List (Int × Int)) : Array MapEntry := (l.zipIdx.map fun x => (⟨.int .i64 x.1.1, .int .i64 x.1.2, x.2⟩ : MapEntry)).toArray
theorem lfn (k : Int) : ∀ (l : List (Int × Int)) (n i : Nat), (∀ p ∈ l, p.1 ≠ k) → Instr.findNow (.int .i64) (.int .i64 k) ((l.zipIdx n).map fun x => (⟨.int .i64 x.1.1, .int .i64 x.1.2, x.2⟩ : MapEntry)) i = some none
  | [], _, _, _ => rfl
  | p :: l, n, i, h => by
    have h1 : (k == p.1) = false := by rw [beq_eq_false_iff_ne]; exact fun e => h p (by simp) e.symm
    have h2 := lfn k l (n + 1) (i + 1) fun q hq => h q (by simp [hq])
    simp only [List.zipIdx_cons, List.map_cons, Instr.findNow, Instr.sameNow, h1]
    exact h2
theorem set_alloc (w : World) (a b : Obj) : ({ w.alloc a with heap := (w.alloc a).heap.setIfInBounds w.heap.size b } : World) = w.alloc b := by
  simp only [World.alloc]
  congr 1
  apply Array.ext'
  simp [List.set_append]
theorem lcR (w : World) (l : List (Int × Int)) (k v : Int) (h : ∀ p ∈ l, p.1 ≠ k) :
    (Instr.mapUpdate 149 (.map (some w.heap.size)) (.int .i64 k) (.int .i64 v)).run Tryz.prog (w.alloc (.map (mapEs l) l.length)) = .ok () (w.alloc (.map (mapEs (l ++ [(k, v)])) (l ++ [(k, v)]).length)) := by
  have hb : (w.alloc (.map (mapEs l) l.length)).heap[w.heap.size]? = some (.map (mapEs l) l.length) := by simp [World.alloc, -World.alloc_eq]
  have hf := lfn k l 0 0 h
  have hp : (mapEs l).push ⟨.int .i64 k, .int .i64 v, l.length⟩ = mapEs (l ++ [(k, v)]) := by
    simp [mapEs, List.zipIdx_append]
  unfold Instr.mapUpdate
  simp only [Sem.run_bind, run_underlying Tryz.underlying149, Result.andThen, MapKept.run_getObj_map hb, MapKept.run_checkKey Tryz.underlying3 (show MapKept.IsKey (.int .i64) (.int .i64 k) from rfl), MapKept.run_findKey Tryz.underlying3 (show Instr.findNow (.int .i64) (.int .i64 k) (mapEs l).toList 0 = some none by simpa [mapEs] using hf), MapKept.run_setObj_map _ hb]
  rw [set_alloc, hp, List.length_append]
  rfl
theorem lfo (k v : Int) : ∀ (l : List (Int × Int)) (n i : Nat), (l.find? fun p => p.1 == k) = some (k, v) → ∃ j, Instr.findNow (.int .i64) (.int .i64 k) ((l.zipIdx n).map fun x => (⟨.int .i64 x.1.1, .int .i64 x.1.2, x.2⟩ : MapEntry)) i = some (some (j, .int .i64 v))
  | [], _, _, h => by cases h
  | p :: l, n, i, h => by
    simp only [List.zipIdx_cons, List.map_cons, Instr.findNow, Instr.sameNow]
    rw [List.find?_cons] at h
    cases hp : (p.1 == k) with
    | true =>
      rw [hp] at h
      have hp2 : p = (k, v) := Option.some.inj h
      subst hp2
      simp
    | false =>
      rw [hp] at h
      have h1 : (k == p.1) = false := by rw [beq_eq_false_iff_ne] at hp ⊢; exact fun e => hp e.symm
      rw [h1]
      exact lfo k v l (n + 1) (i + 1) h
theorem run_look (w : World) (l : List (Int × Int)) (c : Nat) (k v : Int) (h : (l.find? fun p => p.1 == k) = some (k, v)) :
    (Instr.lookup 149 (.map (some w.heap.size)) (.int .i64 k) false).run Tryz.prog (w.alloc (.map (mapEs l) c)) = .ok (.int .i64 v) (w.alloc (.map (mapEs l) c)) := by
  have hb : (w.alloc (.map (mapEs l) c)).heap[w.heap.size]? = some (.map (mapEs l) c) := by simp [World.alloc, -World.alloc_eq]
  obtain ⟨j, hf⟩ := lfo k v l 0 0 h
  unfold Instr.lookup
  simp only [Sem.run_bind, run_underlying Tryz.underlying149, Result.andThen, MapKept.run_getObj_map hb, MapKept.run_checkKey Tryz.underlying3 (show MapKept.IsKey (.int .i64) (.int .i64 k) from rfl), MapKept.run_findKey Tryz.underlying3 (show Instr.findNow (.int .i64) (.int .i64 k) (mapEs l).toList 0 = some (some (j, .int .i64 v)) by simpa [mapEs] using hf), Sem.run_pure]
  rfl
def partsL : List (Int × Int) := [(1, 0), (2, 0), (3, 0), (4, 2), (5, 2), (6, 3), (7, 1), (8, 2), (9, 1)]
set_option maxRecDepth 100000 in
set_option maxHeartbeats 1000000 in
theorem parts_calls (w : World) (k v : Int) (h : (partsL.find? fun p => p.1 == k) = some (k, v)) : Calls Tryz.prog 55 #[.int .i64 k] w fun e w' => e = .returned (.int .i64 v) ∧ Below w.heap.size w w' := by
  have hmm : (Instr.makeMap 149 none).run Tryz.prog w = .ok (.map (some w.heap.size)) (w.alloc (.map (mapEs []) 0)) := rfl
  have i1 := lcR w [] 1 0 (by decide)
  have i2 := lcR w [(1, 0)] 2 0 (by decide)
  have i3 := lcR w [(1, 0), (2, 0)] 3 0 (by decide)
  have i4 := lcR w [(1, 0), (2, 0), (3, 0)] 4 2 (by decide)
  have i5 := lcR w [(1, 0), (2, 0), (3, 0), (4, 2)] 5 2 (by decide)
  have i6 := lcR w [(1, 0), (2, 0), (3, 0), (4, 2), (5, 2)] 6 3 (by decide)
  have i7 := lcR w [(1, 0), (2, 0), (3, 0), (4, 2), (5, 2), (6, 3)] 7 1 (by decide)
  have i8 := lcR w [(1, 0), (2, 0), (3, 0), (4, 2), (5, 2), (6, 3), (7, 1)] 8 2 (by decide)
  have i9 := lcR w [(1, 0), (2, 0), (3, 0), (4, 2), (5, 2), (6, 3), (7, 1), (8, 2)] 9 1 (by decide)
  have lk := run_look w [(1, 0), (2, 0), (3, 0), (4, 2), (5, 2), (6, 3), (7, 1), (8, 2), (9, 1)] 9 k v h
  simp only [List.nil_append, List.cons_append, List.length_cons, List.length_nil] at i1 i2 i3 i4 i5 i6 i7 i8 i9
  go_enter Tryz.func55, Tryz.ntmps55
  go_wp2
  all_goals go_ret
  all_goals exact ⟨rfl, (Below.refl _ _).alloc (Nat.le_refl _) _⟩
theorem parts_find {k : Int} (h1 : 1 ≤ k) (h9 : k ≤ 9) : (partsL.find? fun p => p.1 == k) = some (k, arity k) := by
  obtain ⟨n, rfl⟩ : ∃ n : Nat, k = n := ⟨k.toNat, by omega⟩
  have : n < 10 := by omega
  match n, this with
  | 0, _ => omega
  | 1, _ | 2, _ | 3, _ | 4, _ | 5, _ | 6, _ | 7, _ | 8, _ | 9, _ => rfl
theorem parts_a (k : Int) (h1 : 1 ≤ k) (h9 : k ≤ 9) : ACalls Tryz.prog 55 [.one (.int .i64 k)] [] (.one (.int .i64 (arity k))) [] :=
  lbp (by kernel_rfl) (fun F ρ w vals H ha => by
    obtain ⟨_, rfl, rfl⟩ := args1 ha
    exact (parts_calls w k (arity k) (parts_find h1 h9)).mono fun e w' ⟨he, hw⟩ => ⟨_, noG, he, hw, fun k h => h.elim, rfl⟩) zo
end Go.Proofs.YtnflnbdlgdjfmabGreatDoor
namespace Go.Proofs.YtnflnbdlgdjfmabGreatDoor
open Go.RowKit
set_option maxRecDepth 100000
attribute [local irreducible] RunL AW LocOp ACalls Gh
set_option maxHeartbeats 2000000 in
theorem lf7 (a : Tm) (hsz : a.nodes ≤ 1048576) : ACalls Tryz.prog 43 [a.u] [] (.one (.int .i64 ((a.nodes : Nat) : Int))) [] := by
  refine zB Tryz.func43 ?_
  refine zq ?_
  refine zR ?_
  refine zM lan ?_;refine zV lab ?_;refine zn ?_
  refine zq ?_
  refine zRD ?_
  refine zV laj ?_
  refine zM (loc_buildOwnD (len := 1) (rows := [a.c]) (by exact rfl) (by exact rfl) (by decide) (by decide) (by exact RowsOf.cons (by exact rfl) RowsOf.nil) (by exact AllP.cons rfl AllP.nil) (by exact rfl) (by exact rfl) (by exact rfl)) ?_
  refine zV lab ?_;refine zV lab ?_;refine znD ?_;refine zq (zbl ?_)
  refine AW.gh (laZ [(3, .one (.int .i64 ((0 : Nat) : Int))), (4, .one (.own 7 (0) (1)))] [(7, .row 27 7 (0) ([a.c]))] [] [] ⟨(zw rfl zo), (by exact WkU.of_eq rfl zo), zo⟩ ⟨(by exact zb rfl), zo⟩ trivial zo rfl rfl ⟨zo, ⟨_, _, _, _, rfl, Nat.le_refl _⟩, zo⟩ ⟨(laY (by exact rfl)), zo⟩) ?_
  rw [show [a.c] = tmRows [a] by simp [tmRows, Tm.cells_c]]
  refine AW.loop (fun m t h => ∃ (st : List Tm) (c v : Nat), m = nodesL st ∧ c + nodesL st = a.nodes ∧ t = tOfL [(3, .one (.int .i64 ((c : Nat) : Int))), (4, .one (.own 7 (v) (st.length)))] ∧ h = ofL [(7, .row 27 7 (v) (tmRows st))]) a.nodes ⟨[a], 0, 0, by simp [nodesL], by simp [nodesL], rfl, rfl⟩ ?_
  rintro m t h ⟨st, c, v, rfl, hc, rfl, rfl⟩
  have hlen := lb3 st
  rcases List.eq_nil_or_concat st with rfl | ⟨st', x, he⟩
  · have hd : decide ((([] : List Tm).length : Nat) > (0 : Int)) = false := rfl
    have hcn : c = a.nodes := by simpa [nodesL] using hc
    subst hcn
    refine zq (zQ ?_);refine zV laa ?_;refine zV laM ?_;refine zV lac ?_;refine zn ?_;refine zcF ?_;refine zex (zQ ?_);refine zV laa ?_;refine zV lab ?_;refine zn (zre ?_)
    exact la1 (.inr rfl) rfl zo
  · rw [List.concat_eq_append] at he
    subst he
    have hls : (st' ++ [x]).length = st'.length + 1 := by simp
    have hd : decide ((((st' ++ [x]).length : Nat) : Int) > 0) = true := by rw [hls]; simp
    have hrow : (tmRows (st' ++ [x]))[st'.length]? = some x.c := by rw [lbs, List.getElem?_append_right (by rw [la7]; exact Nat.le_refl _), la7]; simp [tmRows, Tm.cells_c]
    have hrl : (tmRows (st' ++ [x])).length = st'.length + 1 := by rw [la7, hls]
    have hn1 : nodesL (st' ++ [x]) = nodesL st' + (1 + nodesL x.l) := by rw [lbZ]; simp only [nodesL]; rw [lbt x]; omega
    have hn2 := lb3 st'
    have hn3 := lb3 x.l
    have hk7 := tmRows_len7 x.l
    have hxl := la7 x.l
    refine zq (zQ ?_);refine zV laa ?_;refine zV laM ?_;refine zV lac ?_;refine zn ?_;refine zaT ?_;refine zsk (zbl (zQ ?_));refine zV laa ?_;refine zV laa ?_;refine zV laM ?_;refine zV laJ ?_
    refine zV (laG st'.length (by exact rfl) (by exact rfl) (by omega) (by exact rfl) (by omega)) ?_
    refine zV (ld3 rfl rfl (by assumption) (by exact Cut.all (by exact rfl))) ?_;refine zM lah ?_;refine zE laf ?_;refine zn (zq ?_);refine zRD ?_;refine zV laa ?_;refine zV laa ?_;refine zV laM ?_;refine zV laJ ?_
    refine zV (lc2 (n' := st'.length) (by exact rfl) (by exact rfl) (by omega) (by exact rfl) (by omega) (by omega)) ?_
    refine zV lad ?_;refine zV lae ?_
    refine zM (lcO (news := tmRows x.l) (rows0 := tmRows st') (by exact rfl) (by exact rfl) (by exact rfl) (by exact .inr (.inl rfl)) (by omega) (by rw [lbs, List.take_left' (la7 _)]) hk7 (by unfold maxLen; omega) (by omega)) ?_
    rw [← lbs]
    refine zV lab ?_;refine znD ?_;refine zR ?_;refine zV laa ?_;refine zV laD ?_;refine zV lab ?_;refine zn ?_
    exact ⟨nodesL (st' ++ x.l), _, _, by rw [lbZ]; omega, (laZ [(3, .one (.int .i64 (((c + 1) : Nat) : Int))), (4, .one (.own 7 ((v + 1)) ((st'.length + (tmRows x.l).length))))] [(7, .row 27 7 ((v + 1)) (tmRows (st' ++ x.l)))] [] [] ⟨(zw rfl zo), (by exact WkU.of_eq rfl zo), zo⟩ ⟨(by exact zb rfl), zo⟩ trivial zo rfl rfl ⟨zo, ⟨_, _, _, _, rfl, Nat.le_refl _⟩, zo⟩ ⟨(laY (by exact lbc _)), zo⟩), st' ++ x.l, c + 1, v + 1, rfl, by rw [lbZ]; omega, by rw [List.length_append, hxl], rfl⟩
inductive TmDp : Tm → Prop
  | mk {t : Tm} (ht : t.t.deep ≤ 1048576) (hl : ∀ x ∈ t.l, TmDp x) : TmDp t
theorem TmDp.t {t : Tm} (h : TmDp t) : t.t.deep ≤ 1048576 := by cases h; assumption
theorem TmDp.l {t : Tm} (h : TmDp t) : ∀ x ∈ t.l, TmDp x := by cases h; assumption
theorem wrap_sq (n : Int) : (IntKind.i64.wrap (n * n) == n && decide (n < 2) && decide (n ≥ 0)) = (n == 0 || n == 1) := by
  by_cases h0 : n = 0
  · subst h0; decide
  by_cases h1 : n = 1
  · subst h1; decide
  have : (decide (n < 2) && decide (n ≥ 0)) = false := by
    rw [Bool.and_eq_false_iff]
    by_cases h2 : n < 2
    · exact .inr (decide_eq_false (by omega))
    · exact .inl (decide_eq_false h2)
  rw [Bool.and_assoc, this, Bool.and_false]
  simp [h0, h1]
set_option maxHeartbeats 8000000 in
theorem right_a : ∀ (a : Tm) (ar ow : Int), TmOk a → TmDp a → 0 ≤ ow → ow + a.nodes ≤ 1048576 → ACalls Tryz.prog 44 [a.u, .one (.int .i64 ar), .one (.int .i64 ow)] [] (.one (.bool (a.good ar ow))) [] := by
  intro a
  induction a using Tm.ind' with
  | h a ih =>
  intro ar ow hok hdp h0 hsz
  have hL := la7 a.l
  have hne := lbt a
  have hge := lbd a ar ow
  have sf := lc3 a.f .any
  have st := lc3 a.t .any
  have sd := isType_a a.t hdp.t
  refine zB Tryz.func44 ?_
  cases k1 : decide (a.k < 1) with
  | true =>
    refine zQ ?_;refine zM lan ?_;refine zV lab ?_;refine zn (zq (zq ?_));refine zRD ?_;refine zV lad ?_;refine zV lae ?_;refine zV lac ?_;refine zV laa ?_;refine zt ?_;refine zt ?_;refine zt ?_;refine zV (lam true) ?_;refine zV laa ?_;refine zs ?_;refine zs ?_;refine zs ?_;refine zs ?_;refine zs ?_;refine zs ?_;refine zs ?_;refine zV laA ?_;refine zV laa ?_;refine zs ?_;refine zs ?_;refine zs ?_;refine zs ?_;refine zs ?_;refine zV laA ?_;refine znD ?_;refine zcT ?_;refine zQ ?_;refine zV lab ?_;refine zn (zre ?_)
    rw [show a.good ar ow = false by rw [hge]; simp [Tm.fit, k1]]
    exact la1 (.inr rfl) rfl zo
  | false =>
  cases k9 : decide (a.k > 9) with
  | true =>
    refine zQ ?_;refine zM lan ?_;refine zV lab ?_;refine zn (zq (zq ?_));refine zRD ?_;refine zV lad ?_;refine zV lae ?_;refine zV lac ?_;refine zV laa ?_;refine zF lad ?_;refine zF lae ?_;refine zF lac ?_;refine zV (lam false) ?_;refine zV laa ?_;refine zt ?_;refine zt ?_;refine zt ?_;refine zt ?_;refine zt ?_;refine zt ?_;refine zt ?_;refine zV (lam true) ?_;refine zV laa ?_;refine zs ?_;refine zs ?_;refine zs ?_;refine zs ?_;refine zs ?_;refine zV laA ?_;refine znD ?_;refine zcT ?_;refine zQ ?_;refine zV lab ?_;refine zn (zre ?_)
    rw [show a.good ar ow = false by rw [hge]; simp [Tm.fit, k9]]
    exact la1 (.inr rfl) rfl zo
  | false =>
  have hk1 : 1 ≤ a.k := by simp at k1; omega
  have hk9 : a.k ≤ 9 := by simp at k9; omega
  have hpa := parts_a a.k hk1 hk9
  cases hlen : ((((tmRows a.l).length : Nat) : Int) != arity a.k) with
  | true =>
    refine zQ ?_;refine zM lan ?_;refine zV lab ?_;refine zn (zq (zq ?_));refine zRD ?_;refine zV lad ?_;refine zV lae ?_;refine zV lac ?_;refine zV laa ?_;refine zF lad ?_;refine zF lae ?_;refine zF lac ?_;refine zV (lam false) ?_;refine zV laa ?_;refine zF lad ?_;refine zF lae ?_;refine zF lay ?_;refine zF lad ?_;refine zF lae ?_
    refine zF (lal hpa rfl (by refine zC ?_;exact rfl)) ?_
    refine zF lac ?_;refine zV (lam false) ?_;refine zV laa ?_;refine zt ?_;refine zt ?_;refine zt ?_;refine zt ?_;refine zt ?_;refine zV (lam true) ?_;refine znD ?_;refine zcT ?_;refine zQ ?_;refine zV lab ?_;refine zn (zre ?_)
    rw [show a.good ar ow = false by rw [hge]; rw [hL] at hlen; simp at hlen; simp [Tm.fit, hlen]]
    exact la1 (.inr rfl) rfl zo
  | false =>
  cases hf : a.f.same .any with
  | false =>
    rw [hf] at sf
    refine zQ ?_;refine zM lan ?_;refine zV lab ?_;refine zn (zq (zq ?_));refine zRD ?_;refine zV lad ?_;refine zV lae ?_;refine zV lac ?_;refine zV laa ?_;refine zF lad ?_;refine zF lae ?_;refine zF lac ?_;refine zV (lam false) ?_;refine zV laa ?_;refine zF lad ?_;refine zF lae ?_;refine zF lay ?_;refine zF lad ?_;refine zF lae ?_
    refine zF (lal hpa rfl (by refine zC ?_;exact rfl)) ?_
    refine zF lac ?_;refine zV (lam false) ?_;refine zV laa ?_;refine zF lad ?_;refine zF (laj rfl rfl (by exact Cut.cons (by exact rfl) (Cut.cons (by exact rfl) Cut.nil))) ?_
    refine zF (lal lb1) ?_
    refine zF (lal sf rfl (by refine zC2 ?_;refine zC2 ?_;exact rfl)) ?_
    refine zF laz ?_;refine zV (lam false) ?_;refine znD ?_;refine zcT ?_;refine zQ ?_;refine zV lab ?_;refine zn (zre ?_)
    rw [show a.good ar ow = false by rw [hge]; simp [Tm.fit, hf]]
    exact la1 (.inr rfl) rfl zo
  | true =>
  rw [hf] at sf
  have hfit : a.fit ar ow = (a.num ar ow && (if a.k == 7 || a.k == 9 then a.t.good 4 else a.t.same .any)) := by
    rw [hL] at hlen
    have : (((a.l.length : Nat) : Int) == arity a.k) = true := by simpa using hlen
    unfold Tm.fit
    rw [k1, k9, this, hf, Bool.and_comm]
    rfl
  refine zq ?_
  refine zR ?_
  refine zM lan ?_;refine zV lab ?_;refine zn ?_
  refine zq ?_
  refine zq ?_
  refine zRD ?_
  refine zV lad ?_;refine zV lae ?_;refine zV lac ?_;refine zV laa ?_;refine zF lad ?_;refine zF lae ?_;refine zF lac ?_;refine zV (lam false) ?_;refine zV laa ?_;refine zF lad ?_;refine zF lae ?_;refine zF lay ?_;refine zF lad ?_;refine zF lae ?_
  refine zF (lal hpa rfl (by refine zC ?_;exact rfl)) ?_
  refine zF lac ?_;refine zV (lam false) ?_;refine zV laa ?_;refine zF lad ?_;refine zF (laj rfl rfl (by exact Cut.cons (by exact rfl) (Cut.cons (by exact rfl) Cut.nil))) ?_
  refine zF (lal lb1) ?_
  refine zF (lal sf rfl (by refine zC2 ?_;refine zC2 ?_;exact rfl)) ?_
  refine zF laz ?_;refine zV (lam false) ?_;refine znD ?_
  refine zcF ?_
  refine zsk ?_
  refine zq ?_
  refine zR ?_
  refine zV lad ?_;refine zV lae ?_;refine zV lac ?_;refine zV lab ?_;refine zn ?_
  refine zq ?_
  refine AW.midC (fun t h => t = tOfL [(1, .one (.int .i64 ar)), (2, .one (.int .i64 (ow))), (3, .one (.ptr 3 0)), (7, .one (.bool (a.num ar ow)))] ∧ h = ofL [(3, .obj a.c)]) ?_ ?_
  · cases k1' : (a.k == 1) with
    | true =>
      rw [show a.num ar ow = (decide (a.n ≥ 0) && decide (a.n - ow < ar)) by simp [Tm.num, k1']]
      cases h2 : decide (a.n ≥ 0) with
      | true =>
        have h2' : 0 ≤ a.n := by simpa using h2
        have hn := hok.n
        refine zQ ?_;refine zV lad ?_;refine zV lae ?_;refine zn (zbl (zQ ?_));refine zV lac ?_;refine zV lab ?_;refine zn ?_;refine zaT ?_;refine zR ?_;refine zV lad ?_;refine zV lae ?_;refine zV lac ?_;refine zV laa ?_;refine zT lad ?_;refine zT lae ?_;refine zT laa ?_;refine zT laJ ?_;refine zT laa ?_;refine zT lac ?_;refine zV (lam true) ?_;refine zV lab ?_;refine zn ?_
        exact ⟨_, _, (laZ [(1, .one (.int .i64 ar)), (2, .one (.int .i64 (ow))), (3, .one (.ptr 3 0)), (7, .one (.bool (decide (a.n - ow < ar))))] [(3, .obj a.c)] [] [] ⟨(zw rfl zo), (zw rfl zo), (zw rfl zo), (zw rfl zo), zo⟩ ⟨(by exact zb rfl), zo⟩ trivial zo rfl rfl ⟨zo, zo, ⟨_, rfl⟩, zo, zo⟩ ⟨(by exact ⟨zo, zo, zo, zo, zo, zo, zo, zo⟩), zo⟩), by simp, rfl⟩
      | false =>
        refine zQ ?_;refine zV lad ?_;refine zV lae ?_;refine zn (zbl (zQ ?_));refine zV lac ?_;refine zV lab ?_;refine zn ?_;refine zaT ?_;refine zR ?_;refine zV lad ?_;refine zV lae ?_;refine zV lac ?_;refine zV laa ?_;refine zf ?_;refine zf ?_;refine zf ?_;refine zf ?_;refine zf ?_;refine zf ?_;refine zV (lam false) ?_;refine zV lab ?_;refine zn ?_
        exact ⟨_, _, (laZ [(1, .one (.int .i64 ar)), (2, .one (.int .i64 (ow))), (3, .one (.ptr 3 0)), (7, .one (.bool (false)))] [(3, .obj a.c)] [] [] ⟨(zw rfl zo), (zw rfl zo), (zw rfl zo), (zw rfl zo), zo⟩ ⟨(by exact zb rfl), zo⟩ trivial zo rfl rfl ⟨zo, zo, ⟨_, rfl⟩, zo, zo⟩ ⟨(by exact ⟨zo, zo, zo, zo, zo, zo, zo, zo⟩), zo⟩), by simp, rfl⟩
    | false =>
    cases k2' : (a.k == 2) with
    | true =>
      rw [show a.num ar ow = (decide (a.n ≤ 1000000) && decide (a.n ≥ -1000000)) by simp [Tm.num, k1', k2', Bool.and_comm]]
      cases h2 : decide (a.n ≤ 1000000) with
      | true =>
        refine zQ ?_;refine zV lad ?_;refine zV lae ?_;refine zn (zbl (zQ ?_));refine zV lac ?_;refine zV lab ?_;refine zn ?_;refine zaF ?_;refine zQ ?_;refine zV lac ?_;refine zV lab ?_;refine zn ?_;refine zaT ?_;refine zR ?_;refine zV lad ?_;refine zV lae ?_;refine zV lac ?_;refine zV laa ?_;refine zT lad ?_;refine zT lae ?_;refine zT lac ?_;refine zV (lam true) ?_;refine zV lab ?_;refine zn ?_
        exact ⟨_, _, (laZ [(1, .one (.int .i64 ar)), (2, .one (.int .i64 (ow))), (3, .one (.ptr 3 0)), (7, .one (.bool (decide (a.n ≥ -1000000))))] [(3, .obj a.c)] [] [] ⟨(zw rfl zo), (zw rfl zo), (zw rfl zo), (zw rfl zo), zo⟩ ⟨(by exact zb rfl), zo⟩ trivial zo rfl rfl ⟨zo, zo, ⟨_, rfl⟩, zo, zo⟩ ⟨(by exact ⟨zo, zo, zo, zo, zo, zo, zo, zo⟩), zo⟩), by simp, rfl⟩
      | false =>
        refine zQ ?_;refine zV lad ?_;refine zV lae ?_;refine zn (zbl (zQ ?_));refine zV lac ?_;refine zV lab ?_;refine zn ?_;refine zaF ?_;refine zQ ?_;refine zV lac ?_;refine zV lab ?_;refine zn ?_;refine zaT ?_;refine zR ?_;refine zV lad ?_;refine zV lae ?_;refine zV lac ?_;refine zV laa ?_;refine zf ?_;refine zf ?_;refine zf ?_;refine zV (lam false) ?_;refine zV lab ?_;refine zn ?_
        exact ⟨_, _, (laZ [(1, .one (.int .i64 ar)), (2, .one (.int .i64 (ow))), (3, .one (.ptr 3 0)), (7, .one (.bool (false)))] [(3, .obj a.c)] [] [] ⟨(zw rfl zo), (zw rfl zo), (zw rfl zo), (zw rfl zo), zo⟩ ⟨(by exact zb rfl), zo⟩ trivial zo rfl rfl ⟨zo, zo, ⟨_, rfl⟩, zo, zo⟩ ⟨(by exact ⟨zo, zo, zo, zo, zo, zo, zo, zo⟩), zo⟩), by simp, rfl⟩
    | false =>
    cases k3' : (a.k == 3) with
    | true =>
      rw [show a.num ar ow = (IntKind.i64.wrap (a.n * a.n) == a.n && decide (a.n < 2) && decide (a.n ≥ 0)) by rw [wrap_sq]; simp [Tm.num, k1', k2', k3']]
      cases h2 : (IntKind.i64.wrap (a.n * a.n) == a.n) with
      | true =>
        cases h3 : decide (a.n < 2) with
        | true =>
          refine zQ ?_;refine zV lad ?_;refine zV lae ?_;refine zn (zbl (zQ ?_));refine zV lac ?_;refine zV lab ?_;refine zn ?_;refine zaF ?_;refine zQ ?_;refine zV lac ?_;refine zV lab ?_;refine zn ?_;refine zaF ?_;refine zQ ?_;refine zV lac ?_;refine zV lab ?_;refine zn ?_;refine zaT ?_;refine zR ?_;refine zV lad ?_;refine zV lae ?_;refine zV lad ?_;refine zV lae ?_;refine zV lac ?_;refine zV lad ?_;refine zV lae ?_;refine zV lac ?_;refine zV laa ?_;refine zT lad ?_;refine zT lae ?_;refine zT lac ?_;refine zV (lam true) ?_;refine zV laa ?_;refine zT lad ?_;refine zT lae ?_;refine zT lac ?_;refine zV (lam true) ?_;refine zV lab ?_;refine zn ?_
          exact ⟨_, _, (laZ [(1, .one (.int .i64 ar)), (2, .one (.int .i64 (ow))), (3, .one (.ptr 3 0)), (7, .one (.bool (decide (a.n ≥ 0))))] [(3, .obj a.c)] [] [] ⟨(zw rfl zo), (zw rfl zo), (zw rfl zo), (zw rfl zo), zo⟩ ⟨(by exact zb rfl), zo⟩ trivial zo rfl rfl ⟨zo, zo, ⟨_, rfl⟩, zo, zo⟩ ⟨(by exact ⟨zo, zo, zo, zo, zo, zo, zo, zo⟩), zo⟩), by simp, rfl⟩
        | false =>
          refine zQ ?_;refine zV lad ?_;refine zV lae ?_;refine zn (zbl (zQ ?_));refine zV lac ?_;refine zV lab ?_;refine zn ?_;refine zaF ?_;refine zQ ?_;refine zV lac ?_;refine zV lab ?_;refine zn ?_;refine zaF ?_;refine zQ ?_;refine zV lac ?_;refine zV lab ?_;refine zn ?_;refine zaT ?_;refine zR ?_;refine zV lad ?_;refine zV lae ?_;refine zV lad ?_;refine zV lae ?_;refine zV lac ?_;refine zV lad ?_;refine zV lae ?_;refine zV lac ?_;refine zV laa ?_;refine zT lad ?_;refine zT lae ?_;refine zT lac ?_;refine zV (lam true) ?_;refine zV laa ?_;refine zf ?_;refine zf ?_;refine zf ?_;refine zV (lam false) ?_;refine zV lab ?_;refine zn ?_
          exact ⟨_, _, (laZ [(1, .one (.int .i64 ar)), (2, .one (.int .i64 (ow))), (3, .one (.ptr 3 0)), (7, .one (.bool (false)))] [(3, .obj a.c)] [] [] ⟨(zw rfl zo), (zw rfl zo), (zw rfl zo), (zw rfl zo), zo⟩ ⟨(by exact zb rfl), zo⟩ trivial zo rfl rfl ⟨zo, zo, ⟨_, rfl⟩, zo, zo⟩ ⟨(by exact ⟨zo, zo, zo, zo, zo, zo, zo, zo⟩), zo⟩), by simp, rfl⟩
      | false =>
        refine zQ ?_;refine zV lad ?_;refine zV lae ?_;refine zn (zbl (zQ ?_));refine zV lac ?_;refine zV lab ?_;refine zn ?_;refine zaF ?_;refine zQ ?_;refine zV lac ?_;refine zV lab ?_;refine zn ?_;refine zaF ?_;refine zQ ?_;refine zV lac ?_;refine zV lab ?_;refine zn ?_;refine zaT ?_;refine zR ?_;refine zV lad ?_;refine zV lae ?_;refine zV lad ?_;refine zV lae ?_;refine zV lac ?_;refine zV lad ?_;refine zV lae ?_;refine zV lac ?_;refine zV laa ?_;refine zf ?_;refine zf ?_;refine zf ?_;refine zV (lam false) ?_;refine zV laa ?_;refine zs ?_;refine zs ?_;refine zs ?_;refine zV law ?_;refine zV lab ?_;refine zn ?_
        exact ⟨_, _, (laZ [(1, .one (.int .i64 ar)), (2, .one (.int .i64 (ow))), (3, .one (.ptr 3 0)), (7, .one (.bool (false)))] [(3, .obj a.c)] [] [] ⟨(zw rfl zo), (zw rfl zo), (zw rfl zo), (zw rfl zo), zo⟩ ⟨(by exact zb rfl), zo⟩ trivial zo rfl rfl ⟨zo, zo, ⟨_, rfl⟩, zo, zo⟩ ⟨(by exact ⟨zo, zo, zo, zo, zo, zo, zo, zo⟩), zo⟩), by simp, rfl⟩
    | false =>
      rw [show a.num ar ow = (a.n == 0) by simp [Tm.num, k1', k2', k3']]
      refine zQ ?_;refine zV lad ?_;refine zV lae ?_;refine zn (zbl (zQ ?_));refine zV lac ?_;refine zV lab ?_;refine zn ?_;refine zaF ?_;refine zQ ?_;refine zV lac ?_;refine zV lab ?_;refine zn ?_;refine zaF ?_;refine zQ ?_;refine zV lac ?_;refine zV lab ?_;refine zn ?_;refine zaF ?_;refine zsk ?_
      exact ⟨_, _, (laZ [(1, .one (.int .i64 ar)), (2, .one (.int .i64 (ow))), (3, .one (.ptr 3 0)), (7, .one (.bool (a.n == 0)))] [(3, .obj a.c)] [] [] ⟨(zw rfl zo), (zw rfl zo), (zw rfl zo), (zw rfl zo), zo⟩ ⟨(by exact zb rfl), zo⟩ trivial zo rfl rfl ⟨zo, zo, ⟨_, rfl⟩, zo, zo⟩ ⟨(by exact ⟨zo, zo, zo, zo, zo, zo, zo, zo⟩), zo⟩), by simp, rfl⟩
  · rintro t h ⟨rfl, rfl⟩
    generalize a.num ar ow = nm at *
    refine zq ?_
    refine AW.midC (fun t h => t = tOfL [(1, .one (.int .i64 ar)), (2, .one (.int .i64 (ow))), (3, .one (.ptr 3 0)), (7, .one (.bool (a.fit ar ow)))] ∧ h = ofL [(3, .obj a.c)]) ?_ ?_
    · rw [hfit]
      cases k7 : (a.k == 7 || a.k == 9) with
      | true =>
        cases nm with
        | true =>
          cases k7' : (a.k == 7) with
          | true =>
            refine zQ ?_;refine zV lad ?_;refine zV lae ?_;refine zV lac ?_;refine zV laa ?_;refine zt ?_;refine zt ?_;refine zt ?_;refine zV (lam true) ?_;refine zn ?_;refine zcT ?_;refine zR ?_;refine zV laa ?_;refine zV laa ?_;refine zI lad ?_;refine zI (laj rfl rfl (by exact Cut.cons (by exact rfl) (Cut.cons (by exact rfl) Cut.nil))) ?_
            refine zI (lal sd rfl (by refine zC2 ?_;exact rfl)) ?_
            refine zV laA ?_;refine zV lab ?_;refine zn ?_
            exact ⟨_, _, (laZ [(1, .one (.int .i64 ar)), (2, .one (.int .i64 (ow))), (3, .one (.ptr 3 0)), (7, .one (.bool (a.t.good 4)))] [(3, .obj a.c)] [] [] ⟨(zw rfl zo), (zw rfl zo), (zw rfl zo), (zw rfl zo), zo⟩ ⟨(by exact zb rfl), zo⟩ trivial zo rfl rfl ⟨zo, zo, ⟨_, rfl⟩, zo, zo⟩ ⟨(by exact ⟨zo, zo, zo, zo, zo, zo, zo, zo⟩), zo⟩), by simp, rfl⟩
          | false =>
            have k9' : (a.k == 9) = true := by rw [k7'] at k7; simpa using k7
            refine zQ ?_;refine zV lad ?_;refine zV lae ?_;refine zV lac ?_;refine zV laa ?_;refine zF lad ?_;refine zF lae ?_;refine zF lac ?_;refine zV (lam false) ?_;refine zn ?_;refine zaT ?_;refine zR ?_;refine zV laa ?_;refine zV laa ?_;refine zI lad ?_;refine zI (laj rfl rfl (by exact Cut.cons (by exact rfl) (Cut.cons (by exact rfl) Cut.nil))) ?_
            refine zI (lal sd rfl (by refine zC2 ?_;exact rfl)) ?_
            refine zV laA ?_;refine zV lab ?_;refine zn ?_
            exact ⟨_, _, (laZ [(1, .one (.int .i64 ar)), (2, .one (.int .i64 (ow))), (3, .one (.ptr 3 0)), (7, .one (.bool (a.t.good 4)))] [(3, .obj a.c)] [] [] ⟨(zw rfl zo), (zw rfl zo), (zw rfl zo), (zw rfl zo), zo⟩ ⟨(by exact zb rfl), zo⟩ trivial zo rfl rfl ⟨zo, zo, ⟨_, rfl⟩, zo, zo⟩ ⟨(by exact ⟨zo, zo, zo, zo, zo, zo, zo, zo⟩), zo⟩), by simp, rfl⟩
        | false =>
          cases k7' : (a.k == 7) with
          | true =>
            refine zQ ?_;refine zV lad ?_;refine zV lae ?_;refine zV lac ?_;refine zV laa ?_;refine zt ?_;refine zt ?_;refine zt ?_;refine zV (lam true) ?_;refine zn ?_;refine zcT ?_;refine zR ?_;refine zV laa ?_;refine zV laa ?_;refine zs ?_;refine zs ?_;refine zs ?_;refine zV law ?_;refine zV lab ?_;refine zn ?_
            exact ⟨_, _, (laZ [(1, .one (.int .i64 ar)), (2, .one (.int .i64 (ow))), (3, .one (.ptr 3 0)), (7, .one (.bool (false)))] [(3, .obj a.c)] [] [] ⟨(zw rfl zo), (zw rfl zo), (zw rfl zo), (zw rfl zo), zo⟩ ⟨(by exact zb rfl), zo⟩ trivial zo rfl rfl ⟨zo, zo, ⟨_, rfl⟩, zo, zo⟩ ⟨(by exact ⟨zo, zo, zo, zo, zo, zo, zo, zo⟩), zo⟩), by simp, rfl⟩
          | false =>
            have k9' : (a.k == 9) = true := by rw [k7'] at k7; simpa using k7
            refine zQ ?_;refine zV lad ?_;refine zV lae ?_;refine zV lac ?_;refine zV laa ?_;refine zF lad ?_;refine zF lae ?_;refine zF lac ?_;refine zV (lam false) ?_;refine zn ?_;refine zaT ?_;refine zR ?_;refine zV laa ?_;refine zV laa ?_;refine zs ?_;refine zs ?_;refine zs ?_;refine zV law ?_;refine zV lab ?_;refine zn ?_
            exact ⟨_, _, (laZ [(1, .one (.int .i64 ar)), (2, .one (.int .i64 (ow))), (3, .one (.ptr 3 0)), (7, .one (.bool (false)))] [(3, .obj a.c)] [] [] ⟨(zw rfl zo), (zw rfl zo), (zw rfl zo), (zw rfl zo), zo⟩ ⟨(by exact zb rfl), zo⟩ trivial zo rfl rfl ⟨zo, zo, ⟨_, rfl⟩, zo, zo⟩ ⟨(by exact ⟨zo, zo, zo, zo, zo, zo, zo, zo⟩), zo⟩), by simp, rfl⟩
      | false =>
        rw [Bool.or_eq_false_iff] at k7
        obtain ⟨k7', k9'⟩ := k7
        cases nm with
        | true =>
          refine zQ ?_;refine zV lad ?_;refine zV lae ?_;refine zV lac ?_;refine zV laa ?_;refine zF lad ?_;refine zF lae ?_;refine zF lac ?_;refine zV (lam false) ?_;refine zn ?_;refine zaF ?_;refine zRD ?_;refine zV laa ?_;refine zV laa ?_;refine zI lad ?_;refine zI (laj rfl rfl (by exact Cut.cons (by exact rfl) (Cut.cons (by exact rfl) Cut.nil))) ?_
          refine zI (lal lb1) ?_
          refine zI (lal st rfl (by refine zC2 ?_;refine zC2 ?_;exact rfl)) ?_
          refine zV laA ?_;refine zV lab ?_;refine znD ?_
          exact ⟨_, _, (laZ [(1, .one (.int .i64 ar)), (2, .one (.int .i64 (ow))), (3, .one (.ptr 3 0)), (7, .one (.bool (a.t.same .any)))] [(3, .obj a.c)] [] [] ⟨(zw rfl zo), (zw rfl zo), (zw rfl zo), (zw rfl zo), zo⟩ ⟨(by exact zb rfl), zo⟩ trivial zo rfl rfl ⟨zo, zo, ⟨_, rfl⟩, zo, zo⟩ ⟨(by exact ⟨zo, zo, zo, zo, zo, zo, zo, zo⟩), zo⟩), by simp, rfl⟩
        | false =>
          refine zQ ?_;refine zV lad ?_;refine zV lae ?_;refine zV lac ?_;refine zV laa ?_;refine zF lad ?_;refine zF lae ?_;refine zF lac ?_;refine zV (lam false) ?_;refine zn ?_;refine zaF ?_;refine zRD ?_;refine zV laa ?_;refine zV laa ?_;refine zs ?_;refine zs ?_;refine zs ?_;refine zs ?_;refine zV law ?_;refine zV lab ?_;refine znD ?_
          exact ⟨_, _, (laZ [(1, .one (.int .i64 ar)), (2, .one (.int .i64 (ow))), (3, .one (.ptr 3 0)), (7, .one (.bool (false)))] [(3, .obj a.c)] [] [] ⟨(zw rfl zo), (zw rfl zo), (zw rfl zo), (zw rfl zo), zo⟩ ⟨(by exact zb rfl), zo⟩ trivial zo rfl rfl ⟨zo, zo, ⟨_, rfl⟩, zo, zo⟩ ⟨(by exact ⟨zo, zo, zo, zo, zo, zo, zo, zo⟩), zo⟩), by simp, rfl⟩
    · rintro t h ⟨rfl, rfl⟩
      clear hfit
      have hdrop : a.good ar ow = (a.fit ar ow && goodL (a.l.drop 0) ar (if a.k == 7 then ow + 1 else ow)) := by rw [hge, List.drop_zero]
      generalize a.fit ar ow = ok0 at *
      refine zq ?_
      refine AW.midC (fun t h => t = tOfL [(1, .one (.int .i64 ar)), (2, .one (.int .i64 ((if a.k == 7 then ow + 1 else ow)))), (3, .one (.ptr 3 0)), (7, .one (.bool (ok0)))] ∧ h = ofL [(3, .obj a.c)]) ?_ ?_
      · cases k7 : (a.k == 7) with
        | true =>
          refine zQ ?_;refine zV lad ?_;refine zV lae ?_;refine zV lac ?_;refine zn ?_;refine zaT ?_;refine zR ?_;refine zV laa ?_;refine zV laI ?_;refine zV lab ?_;refine zn ?_
          exact ⟨_, _, (laZ [(1, .one (.int .i64 ar)), (2, .one (.int .i64 ((ow + 1)))), (3, .one (.ptr 3 0)), (7, .one (.bool (ok0)))] [(3, .obj a.c)] [] [] ⟨(zw rfl zo), (zw rfl zo), (zw rfl zo), (zw rfl zo), zo⟩ ⟨(by exact zb rfl), zo⟩ trivial zo rfl rfl ⟨zo, zo, ⟨_, rfl⟩, zo, zo⟩ ⟨(by exact ⟨zo, zo, zo, zo, zo, zo, zo, zo⟩), zo⟩), by simp, rfl⟩
        | false =>
          refine zQ ?_;refine zV lad ?_;refine zV lae ?_;refine zV lac ?_;refine zn ?_;refine zaF ?_;refine zsk ?_
          exact ⟨_, _, (laZ [(1, .one (.int .i64 ar)), (2, .one (.int .i64 (ow))), (3, .one (.ptr 3 0)), (7, .one (.bool (ok0)))] [(3, .obj a.c)] [] [] ⟨(zw rfl zo), (zw rfl zo), (zw rfl zo), (zw rfl zo), zo⟩ ⟨(by exact zb rfl), zo⟩ trivial zo rfl rfl ⟨zo, zo, ⟨_, rfl⟩, zo, zo⟩ ⟨(by exact ⟨zo, zo, zo, zo, zo, zo, zo, zo⟩), zo⟩), by simp, rfl⟩
      · rintro t h ⟨rfl, rfl⟩
        have how : 0 ≤ (if a.k == 7 then ow + 1 else ow) ∧ (if a.k == 7 then ow + 1 else ow) ≤ ow + 1 := by split <;> omega
        generalize (if a.k == 7 then ow + 1 else ow) = ow' at *
        refine zq (zQ ?_);refine zV lad ?_;refine zV lae ?_;refine zV lay ?_;refine zV laa ?_;refine zn (zbl ?_)
        refine AW.gh (laZ [(1, .one (.int .i64 ar)), (2, .one (.int .i64 (ow'))), (3, .one (.ptr 3 0)), (7, .one (.bool (ok0))), (109, .one (slOf 7 (tmRows a.l))), (110, .one (.int .i64 ((tmRows a.l).length : Nat))), (111, .one (.int .i64 ((0 : Nat) : Int)))] [(3, .obj a.c)] [] [] ⟨(zw rfl zo), (zw rfl zo), (zw rfl zo), (zw rfl zo), (by exact WkU.of_eq rfl zo), (zw rfl zo), (zw rfl zo), zo⟩ ⟨(by exact zb rfl), zo⟩ trivial zo rfl rfl ⟨zo, zo, ⟨_, rfl⟩, zo, zo, zo, zo, zo⟩ ⟨(by exact ⟨zo, zo, zo, zo, zo, zo, zo, zo⟩), zo⟩) ?_
        refine AW.lenSl 109 rfl fun hmax => ?_
        refine AW.loop (fun m t h => ∃ i : Nat, ∃ ok : Bool, i ≤ a.l.length ∧ m = a.l.length - i ∧ a.good ar ow = (ok && goodL (a.l.drop i) ar ow') ∧ t = tOfL [(1, .one (.int .i64 ar)), (2, .one (.int .i64 (ow'))), (3, .one (.ptr 3 0)), (7, .one (.bool (ok))), (109, .one (slOf 7 (tmRows a.l))), (110, .one (.int .i64 ((tmRows a.l).length : Nat))), (111, .one (.int .i64 ((i : Nat) : Int)))] ∧ h = ofL [(3, .obj a.c)]) a.l.length ⟨0, ok0, Nat.zero_le _, rfl, hdrop, rfl, rfl⟩ ?_
        rintro m t h ⟨i, ok, hi, rfl, hinv, rfl, rfl⟩
        clear hge hdrop
        cases hlt : decide ((i : Int) < ((tmRows a.l).length : Nat)) with
        | false =>
          have hil : i = a.l.length := by simp at hlt; omega
          refine zQ ?_;refine zV lac ?_;refine zn (zq ?_);refine zaF ?_;refine zex (zQ ?_);refine zV laa ?_;refine zV lab ?_;refine zn (zre ?_)
          rw [hinv, hil, List.drop_length, show goodL [] ar ow' = true from rfl, Bool.and_true]
          exact la1 (.inr rfl) rfl zo
        | true =>
          have hil : i < a.l.length := by simp at hlt; omega
          have hr1 := lbJ hil
          have hs := ldf hil ar ow'
          have hn3 := lb9 (List.getElem_mem hil)
          cases ok with
          | false =>
            refine zQ ?_;refine zV lac ?_;refine zn (zq ?_);refine zaT ?_;refine zsk (zq (zbl (zQ ?_)));refine zV (lap _) ?_;refine zV lao ?_;refine zM lah ?_;refine zE laf ?_;refine zn (zR ?_);refine zV laa ?_;refine zV laa ?_;refine zs ?_;refine zs ?_;refine zs ?_;refine zs ?_;refine zV law ?_;refine zV lab ?_;refine zn (zR ?_);refine zV laD ?_;refine zV laa ?_;refine zn ?_
            exact ⟨a.l.length - (i + 1), _, _, by omega, (laZ [(1, .one (.int .i64 ar)), (2, .one (.int .i64 (ow'))), (3, .one (.ptr 3 0)), (7, .one (.bool (false))), (109, .one (slOf 7 (tmRows a.l))), (110, .one (.int .i64 ((tmRows a.l).length : Nat))), (111, .one (.int .i64 (((i + 1) : Nat) : Int)))] [(3, .obj a.c)] [] [] ⟨(zw rfl zo), (zw rfl zo), (zw rfl zo), (zw rfl zo), (by exact WkU.of_eq rfl zo), (zw rfl zo), (zw rfl zo), zo⟩ ⟨(by exact zb rfl), zo⟩ trivial zo rfl rfl ⟨zo, zo, ⟨_, rfl⟩, zo, zo, zo, zo, zo⟩ ⟨(by exact ⟨zo, zo, zo, zo, zo, zo, zo, zo⟩), zo⟩), i + 1, _, by omega, rfl, by rw [hinv]; rfl, rfl, rfl⟩
          | true =>
            refine zQ ?_;refine zV lac ?_;refine zn (zq ?_);refine zaT ?_;refine zsk (zq (zbl (zQ ?_)));refine zV (lap _) ?_;refine zV lao ?_;refine zM lah ?_;refine zE laf ?_;refine zn (zR ?_);refine zV laa ?_;refine zV laa ?_;refine zI laj ?_;refine zI laa ?_;refine zI laa ?_
            refine zI (lal (ih a.l[i] (List.getElem_mem _) ar ow' (hok.l _ (List.getElem_mem _)) (hdp.l _ (List.getElem_mem _)) how.1 (by omega)) rfl (by refine zC7 ?_;refine zC ?_;refine zC ?_;exact rfl)) ?_
            refine zV laA ?_;refine zV lab ?_;refine zn (zR ?_);refine zV laD ?_;refine zV laa ?_;refine zn ?_
            exact ⟨a.l.length - (i + 1), _, _, by omega, (laZ [(1, .one (.int .i64 ar)), (2, .one (.int .i64 (ow'))), (3, .one (.ptr 3 0)), (7, .one (.bool (a.l[i].good ar ow'))), (109, .one (slOf 7 (tmRows a.l))), (110, .one (.int .i64 ((tmRows a.l).length : Nat))), (111, .one (.int .i64 (((i + 1) : Nat) : Int)))] [(3, .obj a.c)] [] [] ⟨(zw rfl zo), (zw rfl zo), (zw rfl zo), (zw rfl zo), (by exact WkU.of_eq rfl zo), (zw rfl zo), (zw rfl zo), zo⟩ ⟨(by exact zb rfl), zo⟩ trivial zo rfl rfl ⟨zo, zo, ⟨_, rfl⟩, zo, zo, zo, zo, zo⟩ ⟨(by exact ⟨zo, zo, zo, zo, zo, zo, zo, zo⟩), zo⟩), i + 1, _, by omega, rfl, by rw [hinv, hs]; rfl, rfl, rfl⟩
set_option maxHeartbeats 2000000 in
theorem isTerm_a (a : Tm) (ar : Int) (hok : TmOk a) (hdp : TmDp a) (hsz : a.nodes ≤ 1048576) : ACalls Tryz.prog 25 [a.u, .one (.int .i64 ar)] [] (.one (.bool (a.Good ar))) [] := by
  refine zB Tryz.func25 ?_
  refine zQ ?_;refine zM lan ?_;refine zV lab ?_;refine zn (zQ ?_);refine zV laj ?_
  refine zV (lal (lf7 a hsz) rfl (by refine zC7 ?_;exact rfl)) ?_
  cases hn : decide (((a.nodes : Nat) : Int) < 41) with
  | false =>
    refine zV lac ?_;refine zV laa ?_;refine zf ?_;refine zf ?_;refine zf ?_;refine zV (lam false) ?_;refine zV lab ?_;refine zn (zre ?_)
    rw [show a.Good ar = false by unfold Tm.Good; rw [show decide (((a.nodes : Nat) : Int) ≤ 40) = false by simp at hn ⊢; omega]; rfl]
    exact la1 (.inr rfl) rfl zo
  | true =>
    refine zV lac ?_;refine zV laa ?_;refine zT laj ?_;refine zT laa ?_
    refine zT (lal (right_a a ar 0 hok hdp (by omega) (by omega)) rfl (by refine zC7 ?_;refine zC ?_;refine zC ?_;exact rfl)) ?_
    refine zV (lam true) ?_;refine zV lab ?_;refine zn (zre ?_)
    rw [show a.Good ar = a.good ar 0 by unfold Tm.Good; rw [show decide (((a.nodes : Nat) : Int) ≤ 40) = true by simp at hn ⊢; omega]; rfl]
    exact la1 (.inr rfl) rfl zo
end Go.Proofs.YtnflnbdlgdjfmabGreatDoor
