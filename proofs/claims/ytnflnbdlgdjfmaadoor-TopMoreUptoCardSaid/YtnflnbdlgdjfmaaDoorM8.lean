/-
  The row's listed variables. Conditions: those typed in each theorem.
-/
import Derived.Test.YtnflnbdlgdjfmaaDoorM7
import Derived.Lay
import Derived.Stop.LaidErr
import Derived.Shelf.Vars
import Derived.Deep.DeepWitnessRowRef
import Derived.LaidLaws
namespace Go.Proofs.YtnflnbdlgdjfmaaDoor
open Go.ChangeShapes Go.WideShapes Go.ChangeAt Go.RowKit Go.Joins Go.Deep
set_option linter.unusedVariables false
set_option linter.unusedSimpArgs false
/-- A table of strings, as a row lists it. -/
def strData {H : Type} (zs : List (List UInt8)) : DataW H := .agg (zs.map fun z => .lit (.string z))
theorem cells_of_strs {H : Type} {enc : TypeId × Value → H} {P : Program} {w : World} {base : Nat} {sp : Nat → Bool} {held : Bool} {fuel : Nat} {t e : TypeId} {n : Nat} {cs : List Value} {zs : List (List UInt8)} {p : List MemPlace}
    (ht : P.underlying t = some (.array n e)) (he : P.underlying e = some .string) (hce : P.cellsOf e = 1) (hct : P.cellsOf t = n)
    (h : DataW.trod enc P w base sp held fuel t cs = some (strData zs, p)) : cs = zs.map fun z => Value.string ⟨z.toArray⟩ := by
  cases fuel with
  | zero => simp [DataW.trod] at h
  | succ fuel =>
    simp only [DataW.trod, ht, hce, hct, Nat.mul_one] at h
    split at h
    · rename_i hl
      obtain ⟨xs, hm, hx⟩ := Option.map_eq_some_iff.1 h
      have hxs : xs.map (·.1) = zs.map fun z => (DataW.lit (.string z) : DataW H) := by
        have := congrArg Prod.fst hx
        simpa [strData] using this
      have hxl : xs.length = n := by simpa using Lib.mapM_length hm
      have hzl : zs.length = n := by
        have := congrArg List.length hxs
        simp at this
        omega
      apply List.ext_getElem?
      intro i
      by_cases hi : i < n
      · obtain ⟨b, hb, hf⟩ := Lib.mapM_at hm i i (by simp [hi])
        obtain ⟨s, hc, rfl, _⟩ := DataW.trod_string he hf
        have h1 : cs[i]? = some (.string s) := by
          have := congrArg (·[0]?) hc
          simpa [List.getElem?_take, List.getElem?_drop] using this
        have h2 : (xs.map (·.1))[i]? = some (DataW.lit (.string s.data.toList) : DataW H) := by simp [hb]
        rw [hxs] at h2
        simp only [List.getElem?_map, Option.map_eq_some_iff, DataW.lit.injEq, Lit.string.injEq] at h2
        obtain ⟨z', hz', rfl⟩ := h2
        simp [h1, hz']
      · rw [List.getElem?_eq_none (by omega), List.getElem?_eq_none (by simp; omega)]
    · cases h
theorem strs_of_head {P : Program} {W : World} {name : String} {zs : List (List UInt8)} {rest : List (String × DataW Unit)} {g : Nat} {t e : TypeId} {n : Nat}
    (hg : P.globalNamed name = some g) (hty : (P.globals[g]?).map (·.type) = some t) (ht : P.underlying t = some (.array n e)) (he : P.underlying e = some .string) (hce : P.cellsOf e = 1) (hct : P.cellsOf t = n)
    (h : laidMet P ((name, strData zs) :: rest) W) : W.var? P name = some (zs.map fun z => Value.string ⟨z.toArray⟩).toArray := by
  obtain ⟨ps, ⟨g', t', cs, fuel, p, q, hg', ht', hvar, hd, _, _⟩, _⟩ := h
  obtain rfl := Option.some.inj (hg.symm.trans hg')
  obtain rfl := Option.some.inj (hty.symm.trans ht')
  rw [hvar, ← cells_of_strs ht he hce hct hd]
theorem heap_of_var {P : Program} {W : World} {name : String} {g : Nat} {cs : Array Value} (hg : P.globalNamed name = some g) (h : W.var? P name = some cs) : ∃ t fz, W.heap[g]? = some (.cells cs t fz) := by
  unfold World.var? at h
  rw [hg] at h
  simp only [Option.bind_some] at h
  split at h
  · rename_i hh; cases h; exact ⟨_, _, hh⟩
  · cases h
theorem fpo_of_var {P : Program} {W : World} {name : String} {g : Nat} {cs : Array Value} {l : List C} (hg : P.globalNamed name = some g) (h : W.var? P name = some cs) (hr : All2 (relK (Old W) W) l cs.toList) (h0 : 0 < l.length) : relK (Old W) W (fpo l 0) (.pointer (some ⟨g, 0, none⟩)) := by
  obtain ⟨t, fz, hh⟩ := heap_of_var hg h
  refine ⟨g, 0, rfl, (Array.getElem?_eq_some_iff.1 hh).1, fun j hj => ?_⟩
  have hj : j < l.length := by simpa using hj
  obtain ⟨u, hu, hk⟩ := hr.get j l[j] (List.getElem?_eq_getElem hj)
  refine ⟨u, ?_, ?_⟩
  · have := World.var?_cell hg h j
    rw [Nat.zero_add, this]; simpa using hu
  · simp only [rowF, Nat.zero_add, List.getD_eq_getElem?_getD, List.getElem?_eq_getElem hj, Option.getD_some]; exact hk
abbrev laidT : List (String × DataW Unit) := Rows.topNeverUptoRow.laid
theorem hArr : Tryd.prog.cellsOf 93 = 10 := by kernel_rfl
theorem hArrS : Tryd.prog.cellsOf 112 = 10 := by kernel_rfl
theorem hArrK : Tryd.prog.cellsOf 128 = 4 := by kernel_rfl
theorem hArrP : Tryd.prog.cellsOf 168 = 20 := by kernel_rfl
theorem hU64 : Tryd.prog.cellsOf 150 = 1 := by kernel_rfl
theorem hStr : Tryd.prog.cellsOf 9 = 1 := by kernel_rfl
theorem hErr : Tryd.prog.cellsOf 166 = 1 := by kernel_rfl
theorem gAr : Tryd.prog.globalNamed "chaperone/term.arity" = some 0 := by kernel_rfl
theorem gWo : Tryd.prog.globalNamed "chaperone/term.words" = some 1 := by kernel_rfl
theorem gKi : Tryd.prog.globalNamed "chaperone/term.kinds" = some 2 := by kernel_rfl
theorem gPo : Tryd.prog.globalNamed "internal/strconv.uint64pow10" = some 8 := by kernel_rfl
theorem gES : Tryd.prog.globalNamed "strconv.ErrSyntax" = some 6 := by kernel_rfl
theorem gER : Tryd.prog.globalNamed "strconv.ErrRange" = some 7 := by kernel_rfl
theorem star : "*" ++ "errors.errorString" = "*errors.errorString" := by decide
theorem rowErr (u : TypeId) (h : Tryd.prog.typeName? 3 u = some "*errors.errorString") : u = 164 :=
  typeName_ptr_named (nm := "errors.errorString") (by rw [star]; kernel_rfl) (by kernel_rfl) (by decide) u (by rw [star]; exact h)
theorem max_in {W : World} (hsh : W.ShapedOpen Tryd.prog) : ∃ cs t fz, (∃ m, cs = #[.int .i64 m]) ∧ W.heap[3]? = some (.cells cs t fz) := by
  obtain ⟨cs, hh, hs, _⟩ := hsh.1 3 #[.int .i64 0] 3 (of_decide_eq_true (by kernel_rfl)) (by kernel_rfl)
  obtain ⟨m, hm⟩ := cell_of_shapedOpen_int (zero := #[.int .i64 0]) (t := 3) (g := 3) hsh (of_decide_eq_true (by kernel_rfl)) (by kernel_rfl) rfl (by kernel_rfl) (by kernel_rfl) Tryd.underlying3
  have hm0 : cs[0]? = some (.int .i64 m) := by simpa [World.cell?, hh] using hm
  refine ⟨cs, _, _, ⟨m, ?_⟩, hh⟩
  have hs : cs.size = 1 := hs
  apply Array.ext_getElem?
  intro i
  match i with
  | 0 => simpa using hm0
  | i + 1 => rw [Array.getElem?_eq_none (by omega), Array.getElem?_eq_none (by simp)]
set_option maxRecDepth 100000 in
theorem glob_in {W : World} (hL : laidMetH Tryd.prog laidT W) (hsh : W.ShapedOpen Tryd.prog) : GlobIn W := by
  have h0 : laidMet Tryd.prog laidT W := hL
  have h2 := h0.tail.tail
  have h4 := h2.tail.tail
  have h5 := h4.tail
  have h6 := h5.tail
  have h7 := h6.tail
  have h8 := h7.tail
  have vP0 := Lib.tabIs_of_head (k := .u64) (zs := [1, 10, 100, 1000, 10000, 100000, 1000000, 10000000, 100000000, 1000000000, 10000000000, 100000000000, 1000000000000, 10000000000000, 100000000000000, 1000000000000000, 10000000000000000, 100000000000000000, 1000000000000000000, 10000000000000000000]) gPo (t := 168) (by kernel_rfl) Tryd.underlying168 Tryd.underlying150 hU64 hArrP h2
  have vP : W.var? Tryd.prog "internal/strconv.uint64pow10" = some pow10V := by
    unfold Lib.TabIs at vP0
    rw [vP0]
    simp [pow10V]
  obtain ⟨a4, s4, v4, _⟩ := laid_sentinel h4 gER (ti := 122) (by kernel_rfl) Tryd.underlying122 rowErr Tryd.underlying164 Tryd.underlying166 rfl rfl Tryd.underlying9 hErr hStr
  obtain ⟨a5, s5, v5, _⟩ := laid_sentinel h5 gES (ti := 122) (by kernel_rfl) Tryd.underlying122 rowErr Tryd.underlying164 Tryd.underlying166 rfl rfl Tryd.underlying9 hErr hStr
  have vA : W.var? Tryd.prog "chaperone/term.arity" = some #[.int .i64 0, .int .i64 0, .int .i64 0, .int .i64 0, .int .i64 2, .int .i64 2, .int .i64 3, .int .i64 1, .int .i64 2, .int .i64 1] := Lib.tabIs_of_head (zs := [0, 0, 0, 0, 2, 2, 3, 1, 2, 1]) gAr (t := 93) (by kernel_rfl) Tryd.underlying93 Tryd.underlying3 cells_int hArr h6
  have vW := strs_of_head (zs := [[], [], [], [], [97, 100, 100], [108, 101, 115, 115], [105, 102], [102, 117, 110], [99, 97, 108, 108], [97, 115]]) gWo (t := 112) (by kernel_rfl) Tryd.underlying112 Tryd.underlying9 hStr hArrS h7
  have vK := strs_of_head (zs := [[97, 110, 121], [110, 117, 109], [116, 114, 117, 116, 104], [116, 111]]) gKi (t := 128) (by kernel_rfl) Tryd.underlying128 Tryd.underlying9 hStr hArrK h8
  refine ⟨fun g c hgc => ?_, fun g p hgp => ?_⟩
  · unfold glob at hgc
    cases hb : Nat.beq g 0 with
    | true =>
      rw [hb] at hgc; cases hgc
      rw [Nat.eq_of_beq_eq_true hb]
      exact fpo_of_var gAr vA ⟨rfl, rfl, rfl, rfl, rfl, rfl, rfl, rfl, rfl, rfl, trivial⟩ (by decide)
    | false =>
    rw [hb] at hgc
    cases hb1 : Nat.beq g 1 with
    | true =>
      rw [hb1] at hgc; cases hgc
      rw [Nat.eq_of_beq_eq_true hb1]
      exact fpo_of_var gWo vW ⟨rfl, rfl, rfl, rfl, rfl, rfl, rfl, rfl, rfl, rfl, trivial⟩ (by decide)
    | false =>
    rw [hb1] at hgc
    cases hb2 : Nat.beq g 2 with
    | true =>
      rw [hb2] at hgc; cases hgc
      rw [Nat.eq_of_beq_eq_true hb2]
      exact fpo_of_var gKi vK ⟨rfl, rfl, rfl, rfl, trivial⟩ (by decide)
    | false => rw [hb2] at hgc; cases hgc
  · unfold globX at hgp
    cases hb : Nat.beq g 3 with
    | true =>
      rw [hb] at hgp; cases hgp
      rw [Nat.eq_of_beq_eq_true hb]
      exact max_in hsh
    | false =>
    rw [hb] at hgp
    cases hb1 : Nat.beq g 6 with
    | true =>
      rw [hb1] at hgp; cases hgp
      rw [Nat.eq_of_beq_eq_true hb1]
      obtain ⟨t, fz, hh⟩ := heap_of_var gES v5
      exact ⟨_, t, fz, ⟨_, _, rfl⟩, hh⟩
    | false =>
    rw [hb1] at hgp
    cases hb2 : Nat.beq g 7 with
    | true =>
      rw [hb2] at hgp; cases hgp
      rw [Nat.eq_of_beq_eq_true hb2]
      obtain ⟨t, fz, hh⟩ := heap_of_var gER v4
      exact ⟨_, t, fz, ⟨_, _, rfl⟩, hh⟩
    | false =>
    rw [hb2] at hgp
    cases hb3 : Nat.beq g 8 with
    | true =>
      rw [hb3] at hgp; cases hgp
      rw [Nat.eq_of_beq_eq_true hb3]
      obtain ⟨t, fz, hh⟩ := heap_of_var gPo vP
      exact ⟨_, t, fz, rfl, hh⟩
    | false => rw [hb3] at hgp; cases hgp
/-- A world for the witness: every listed variable holds what its row lists. -/
noncomputable def laidWorld (os : Os) : World := World.laidAll Tryd.prog os laidT
theorem laid_met (os : Os) (args : Array Value) : laidMet Tryd.prog laidT ((laidWorld os).forCall (fun _ _ => 0) ⟨#[], args, []⟩).memory := laidMet_laidAll args (by kernel_rfl) (by kernel_rfl)
end Go.Proofs.YtnflnbdlgdjfmaaDoor
