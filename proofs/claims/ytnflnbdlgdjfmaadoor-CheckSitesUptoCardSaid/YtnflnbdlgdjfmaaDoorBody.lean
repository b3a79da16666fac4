/-
  A state said anew, with blocks that turn no more from then on; a function's contract out of its body. Conditions: those typed in each theorem.
-/
import Derived.Test.YtnflnbdlgdjfmaaDoorWalk
namespace Go.Proofs.YtnflnbdlgdjfmaaDoor
open Go.RowKit
set_option linter.unusedVariables false
set_option linter.unusedSimpArgs false

def tOfL : List (Nat × U) → Nat → U
  | [] => fun _ => .any
  | (x, u) :: l => upd (tOfL l) x u
theorem tOfL_cases : ∀ (l : List (Nat × U)) (x : Nat), tOfL l x = .any ∨ (x, tOfL l x) ∈ l
  | [], x => .inl rfl
  | (y, u) :: l, x => by
    by_cases h : x = y
    · subst h; right; rw [tOfL, upd_same]; exact List.mem_cons_self ..
    · rw [tOfL, upd_ne _ _ h]
      exact (tOfL_cases l x).imp id (List.mem_cons_of_mem _)
theorem ofL_mem : ∀ {l : List (Nat × Blk)} {b : Nat} {x : Blk}, ofL l b = some x → (b, x) ∈ l
  | [], b, x, h => by cases h
  | (c, y) :: l, b, x, h => by
    by_cases hb : b = c
    · subst hb
      rw [ofL, upd_same] at h; cases h
      exact List.mem_cons_self ..
    · rw [ofL, upd_ne _ _ hb] at h
      exact List.mem_cons_of_mem _ (ofL_mem h)

/-- A cell said anew: weaker; frozen; a nil list taken in as a row of one's own. -/
inductive WkC (h : Nat → Option Blk) (fz : List Nat) (ad : List Nat) : C → C → Prop
  | le {c c' : C} : LeC c c' → WkC h fz ad c c'
  | row {b v n k : Nat} {e : TypeId} {rows rows' : List (List C)} : b ∈ fz → h b = some (.row e k v rows) → rows.length = n → LeRows rows rows' → WkC h fz ad (.own b v n) (slOf k rows')
  | obj {b : Nat} {cells cells' : List C} : b ∈ fz → h b = some (.obj cells) → All2 LeC cells cells' → WkC h fz ad (.ptr b 0) (fpo cells' 0)
  | nil {b : Nat} : b ∈ ad → WkC h fz ad .nilsl (.own b 0 0)
def WkU1 (h : Nat → Option Blk) (fz : List Nat) (ad : List Nat) : U → U → Prop
  | .one c, .one c' => WkC h fz ad c c'
  | .agg l, .agg l' => All2 (WkC h fz ad) l l'
  | _, .any => True
  | _, _ => False
def WkU (h : Nat → Option Blk) (fz : List Nat) (ad : List Nat) : U → U → Prop
  | .tup l, .tup l' => All2 (WkU1 h fz ad) l l'
  | .tup _, .any => True
  | u, u' => WkU1 h fz ad u u'
theorem wkRow_refl {h : Nat → Option Blk} {fz ad : List Nat} : ∀ l : List C, All2 (WkC h fz ad) l l
  | [] => trivial
  | c :: l => ⟨.le (.refl c), wkRow_refl l⟩
theorem WkU1.refl {h : Nat → Option Blk} {fz ad : List Nat} {u : U} (hu : ∀ l, u ≠ .tup l) : WkU1 h fz ad u u := by
  cases u with
  | any => trivial
  | one c => exact WkC.le (.refl c)
  | agg l => exact wkRow_refl l
  | tup l => exact absurd rfl (hu l)
theorem WkU.one {h : Nat → Option Blk} {fz ad : List Nat} {c : C} : WkU h fz ad (.one c) (.one c) := WkC.le (.refl c)
theorem WkU.agg {h : Nat → Option Blk} {fz ad : List Nat} {l : List C} : WkU h fz ad (.agg l) (.agg l) := wkRow_refl l
def WkBlk (h : Nat → Option Blk) (fz : List Nat) (ad : List Nat) : Blk → Blk → Prop
  | .obj l, .obj l' => All2 (WkC h fz ad) l l'
  | .row e k v rows, .row e' k' v' rows' => e = e' ∧ k = k' ∧ v = v' ∧ All2 (All2 (WkC h fz ad)) rows rows'
  | _, _ => False
theorem wkRows_refl {h : Nat → Option Blk} {fz ad : List Nat} : ∀ l : List (List C), All2 (All2 (WkC h fz ad)) l l
  | [] => trivial
  | c :: l => ⟨wkRow_refl c, wkRows_refl l⟩
theorem WkBlk.refl {h : Nat → Option Blk} {fz ad : List Nat} (x : Blk) : WkBlk h fz ad x x := by
  cases x with
  | obj l => exact wkRow_refl l
  | row e k v rows => exact ⟨rfl, rfl, rfl, wkRows_refl rows⟩
/-- A block said anew; or a nil row, new. -/
def BlkNew (h : Nat → Option Blk) (d fz ad : List Nat) (b : Nat) (x : Blk) : Prop :=
  (∃ x0, h b = some x0 ∧ WkBlk h fz ad x0 x) ∨ (h b = none ∧ b ∈ ad ∧ ∃ e k, 0 < k ∧ x = .row e k 0 [])
/-- A block that will turn no more names no other. -/
def closedBlk : Blk → Bool
  | .obj l => closedRow l
  | .row _ _ _ rows => closedRows rows
def ClosedAt (h : Nat → Option Blk) (b : Nat) : Prop := ∃ x, h b = some x ∧ closedBlk x = true
def okU1' (h : Nat → Option Blk) : U → Prop
  | .one c => okC h c
  | .agg l => AllP (okC h) l
  | _ => True
def okU' (h : Nat → Option Blk) : U → Prop
  | .tup l => AllP (okU1' h) l
  | u => okU1' h u
def okBlk' (h : Nat → Option Blk) : Blk → Prop
  | .obj cells => AllP (okC h) cells
  | .row _ _ _ rows => ∀ row ∈ rows, ∀ c ∈ row, okC h c
theorem okU1_of {h : Nat → Option Blk} {u : U} (ho : okU1' h u) : okU1 h u := by
  cases u with
  | one c => exact ho
  | agg l => exact allP_iff.1 ho
  | _ => trivial
theorem okU_of {h : Nat → Option Blk} {u : U} (ho : okU' h u) : okU h u := by
  cases u with
  | one c => exact ho
  | agg l => exact allP_iff.1 ho
  | tup l => exact fun u hu => okU1_of (allP_iff.1 ho u hu)
  | any => trivial
theorem okBlk_of {h : Nat → Option Blk} {x : Blk} (ho : okBlk' h x) : okBlk h x := by
  cases x with
  | obj l => exact allP_iff.1 ho
  | row e k v rows => exact ho
/-- Rows without names. -/
theorem okRows_closed {h : Nat → Option Blk} {rows : List (List C)} (hc : closedRows rows = true) : ∀ row ∈ rows, ∀ c ∈ row, okC h c := fun row hr c hcm => closed_okC (closedRows_mem hc hr hcm)

section
variable {F F' : Nat → Prop} {ρ ρ' : Nat → Lc} {h : Nat → Option Blk} {w : World} {fz ad : List Nat}
theorem wkC_rel (H : HRel F ρ h w) (hF : ∀ k, F k → F' k) (hfz : ∀ b ∈ fz, ClosedAt h b ∧ ∀ g, (ρ b).g = some g → F' g) (hρ : ∀ b, h b ≠ none → ρ' b = ρ b) (had : ∀ b ∈ ad, ρ' b = ⟨none, 0, 0⟩)
    {c c' : C} {v : Value} (hw : WkC h fz ad c c') (hok : okC h c) (hr : relC F ρ w c v) : relC F' ρ' w c' v := by
  have mono : ∀ {c : C} {v : Value}, relK F w c v → relK F' w c v := fun hr => relK_mono hF (fun _ _ => rfl) hr
  cases hw with
  | le hl =>
    refine hl.rel ?_
    have h1 := relC_congr hr hok hρ
    cases c <;> first | exact h1 | exact mono h1
  | row hb hh hn hle =>
    rename_i b ver n k e rows rows'
    obtain ⟨⟨x, hx, hcl⟩, hg⟩ := hfz b hb
    rw [hh] at hx; cases hx
    have hver : (ρ b).v = ver := H.ver hh
    obtain ⟨_, hk, hB⟩ := H.blk b _ hh
    have hlen := All2.length hle
    rcases hr.2 hver with ⟨h1, h2, h3⟩ | ⟨g, h1, h3⟩
    · rcases hB with ⟨_, h4⟩ | ⟨g, _, h4, _⟩
      · subst h4
        have hnil : rows' = [] := List.eq_nil_of_length_eq_zero hlen.symm
        subst hnil
        exact (LeC.nil k).rel (c := .nilsl) h3
      · rw [h1] at h4; cases h4
    · rcases hB with ⟨h4, _⟩ | ⟨g', cs, h4, h5, h6, h7, h8, h9⟩
      · rw [h1] at h4; cases h4
      · rw [h1] at h4; cases h4
        have hs : relK F' w (slOf k rows) v := ⟨some ⟨g, 0, none⟩, (ρ b).cap, by rw [h3, hn], h7, Nat.le_trans h7 h8, fun i hi => ⟨g, 0, rfl, hg g h1, fun j hj => by
          obtain ⟨q1, q2⟩ := h9 i rows[i] (by simp [hi])
          have hj2 : j < rows[i].length := by rw [q1]; exact hj
          obtain ⟨u, hu, hru⟩ := q2 j rows[i][j] (by simp [hj2])
          refine ⟨u, by simp only [Nat.zero_add, World.cell?, h5]; simpa using hu, ?_⟩
          show relK F' w (rowF (rows.getD i []) j) u
          rw [List.getD_eq_getElem?_getD, List.getElem?_eq_getElem hi, Option.getD_some, show rowF rows[i] j = rows[i][j] by simp [rowF, hj2]]
          exact mono (closed_relK (closedRows_mem hcl (List.getElem_mem hi) (List.getElem_mem hj2)) hru)⟩⟩
        exact (LeC.sl hle).relK' hs
  | obj hb hh hle =>
    rename_i b cells cells'
    obtain ⟨⟨x, hx, hcl⟩, hg⟩ := hfz b hb
    rw [hh] at hx; cases hx
    obtain ⟨hver, g, e, cs, h4, h5, h9⟩ := H.blk b _ hh
    obtain ⟨g', h1, h3⟩ := hr.2 hver
    rw [h1] at h4; cases h4
    have hs : relK F' w (fpo cells 0) v := ⟨g, 0, h3, hg g h1, fun j hj => by
      have hj2 : j < cells.length := by omega
      obtain ⟨u, hu, hru⟩ := h9 j cells[j] (by simp [hj2])
      refine ⟨u, by simp only [Nat.zero_add, World.cell?, h5]; simpa using hu, ?_⟩
      show relK F' w (rowF cells (0 + j)) u
      rw [Nat.zero_add, show rowF cells j = cells[j] by simp [rowF, hj2]]
      exact mono (closed_relK (closedRow_mem hcl (List.getElem_mem hj2)) hru)⟩
    exact (LeC.fp hle).relK' hs
  | nil hb =>
    rename_i b
    have hv : v = .slice none 0 0 := hr
    subst hv
    exact ⟨rfl, fun _ => .inl ⟨by rw [had b hb], rfl, rfl⟩⟩
theorem wkU1_rel (H : HRel F ρ h w) (hF : ∀ k, F k → F' k) (hfz : ∀ b ∈ fz, ClosedAt h b ∧ ∀ g, (ρ b).g = some g → F' g) (hρ : ∀ b, h b ≠ none → ρ' b = ρ b) (had : ∀ b ∈ ad, ρ' b = ⟨none, 0, 0⟩)
    {u u' : U} {v : Value} (hw : WkU1 h fz ad u u') (hok : okU1 h u) (hr : relU1 F ρ w u v) : relU1 F' ρ' w u' v := by
  cases u <;> cases u' <;> simp only [WkU1] at hw <;> first | trivial | exact hw.elim | skip
  · exact wkC_rel H hF hfz hρ had hw hok hr
  · obtain ⟨vs, hv, ha⟩ := hr
    refine ⟨vs, hv, All2.of (hw.length.symm.trans ha.length) fun i c' v hc hv => ?_⟩
    obtain ⟨c, h1, h2⟩ := hw.get' i c' hc
    obtain ⟨v', h3, h4⟩ := ha.get i c h1
    rw [hv] at h3; cases h3
    exact wkC_rel H hF hfz hρ had h2 (hok c (List.mem_of_getElem? h1)) h4
theorem wkU_rel (H : HRel F ρ h w) (hF : ∀ k, F k → F' k) (hfz : ∀ b ∈ fz, ClosedAt h b ∧ ∀ g, (ρ b).g = some g → F' g) (hρ : ∀ b, h b ≠ none → ρ' b = ρ b) (had : ∀ b ∈ ad, ρ' b = ⟨none, 0, 0⟩)
    {u u' : U} {v : Value} (hw : WkU h fz ad u u') (hok : okU h u) (hr : relU F ρ w u v) : relU F' ρ' w u' v := by
  cases u with
  | tup l =>
    cases u' with
    | any => trivial
    | one c => exact hw.elim
    | agg l => exact hw.elim
    | tup l' =>
      obtain ⟨vs, hv, ha⟩ := hr
      have hw : All2 (WkU1 h fz ad) l l' := hw
      refine ⟨vs, hv, All2.of (hw.length.symm.trans ha.length) fun i c' v hc hv => ?_⟩
      obtain ⟨c, h1, h2⟩ := hw.get' i c' hc
      obtain ⟨v', h3, h4⟩ := ha.get i c h1
      rw [hv] at h3; cases h3
      exact wkU1_rel H hF hfz hρ had h2 (hok c (List.mem_of_getElem? h1)) h4
  | any =>
    cases u' <;> first | trivial | exact hw.elim
  | one c =>
    cases u' with
    | any => trivial
    | one c' => exact wkC_rel H hF hfz hρ had hw hok hr
    | agg l => exact hw.elim
    | tup l => exact hw.elim
  | agg l =>
    cases u' with
    | any => trivial
    | one c' => exact hw.elim
    | agg l' => exact wkU1_rel (u := .agg l) (u' := .agg l') H hF hfz hρ had hw hok hr
    | tup l => exact hw.elim
end

/-- The state, said anew: what is known of where things lie. -/
theorem gh_core {d : List Nat} {t : Nat → U} {h : Nat → Option Blk} (tl : List (Nat × U)) (hl : List (Nat × Blk)) (fz ad : List Nat)
    (hT : AllP (fun p => WkU h fz ad (t p.1) p.2) tl) (hH : AllP (fun p => BlkNew h d fz ad p.1 p.2) hl) (hfz : AllP (ClosedAt h) fz) (had : AllP (fun b => h b = none) ad) (hadd : disj ad d = true) (hfl : disj fz (namesL hl) = true)
    (hok : AllP (fun p => okU' (ofL hl) p.2) tl) (hokh : AllP (fun p => okBlk' (ofL hl) p.2) hl) {E : Env} {a : Act} {w : World} {F : Nat → Prop} {ρ : Nat → Lc} (S : SimR E F ρ ⟨t, h, d⟩ a w) :
    ∃ F' ρ', SimR E F' ρ' ⟨tOfL tl, ofL hl, d⟩ a w ∧ ∀ u u' v, WkU h fz ad u u' → okU h u → relU F ρ w u v → relU F' ρ' w u' v := by
  have hT := allP_iff.1 hT
  have hH := allP_iff.1 hH
  have hfz := allP_iff.1 hfz
  have had := allP_iff.1 had
  have hadd := disj_spec hadd
  have hfl := disj_spec hfl
  have hok := allP_iff.1 hok
  have hokh := allP_iff.1 hokh
  let F' : Nat → Prop := fun k => F k ∨ ∃ b ∈ fz, (ρ b).g = some k
  let ρ' : Nat → Lc := fun b => if b ∈ ad then ⟨none, 0, 0⟩ else ρ b
  have hρ : ∀ b, h b ≠ none → ρ' b = ρ b := fun b hb => if_neg fun hm => hb (had b hm)
  have hρa : ∀ b ∈ ad, ρ' b = ⟨none, 0, 0⟩ := fun b hb => if_pos hb
  have hF : ∀ k, F k → F' k := fun k hk => .inl hk
  have hfz' : ∀ b ∈ fz, ClosedAt h b ∧ ∀ g, (ρ b).g = some g → F' g := fun b hb => ⟨hfz b hb, fun g hg => .inr ⟨b, hb, hg⟩⟩
  have hfzne : ∀ b ∈ fz, h b ≠ none := fun b hb => by obtain ⟨x, hx, _⟩ := hfz b hb; rw [hx]; simp
  have hlb : ∀ b, ofL hl b ≠ none → (∃ x x0, ofL hl b = some x ∧ h b = some x0 ∧ WkBlk h fz ad x0 x) ∨ (h b = none ∧ b ∈ ad ∧ ∃ e k, 0 < k ∧ ofL hl b = some (.row e k 0 [])) := fun b hb => by
    cases hx : ofL hl b with
    | none => exact absurd hx hb
    | some x =>
      rcases hH _ (ofL_mem hx) with ⟨x0, h1, h2⟩ | ⟨h1, h2, e, k, h3, h4⟩
      · exact .inl ⟨x, x0, rfl, h1, h2⟩
      · exact .inr ⟨h1, h2, e, k, h3, congrArg some h4⟩
  have hg : ∀ b g, ofL hl b ≠ none → (ρ' b).g = some g → h b ≠ none ∧ (ρ b).g = some g := fun b g hb hgb => by
    rcases hlb b hb with ⟨x, x0, _, h1, _⟩ | ⟨_, h2, _⟩
    · have hne : h b ≠ none := by rw [h1]; simp
      exact ⟨hne, by rw [← hρ b hne]; exact hgb⟩
    · rw [hρa b h2] at hgb; cases hgb
  refine ⟨F', ρ', ⟨fun x => ?_, ⟨fun b x hx => ?_, fun b b' g hb hb' hgb hgb' => ?_, fun b g hb hgb hf => ?_, fun k hk => ?_, fun b x hx => okBlk_of (hokh _ (ofL_mem hx)), fun g c hgl => relK_mono hF (fun _ _ => rfl) (S.heap.gl g c hgl)⟩, fun x => ?_, fun b g hb hgb => ?_, fun k hk => hF k (S.F0 k hk), fun k hk => ?_, S.os, S.tape, S.output, S.size, S.kept, fun b hb => ?_, S.d, S.tmps, S.defers⟩, fun u u' v hw ho hr => wkU_rel S.heap hF hfz' hρ hρa hw ho hr⟩
  · rcases tOfL_cases tl x with h1 | h1
    · show relU F' ρ' w (tOfL tl x) _
      rw [h1]; trivial
    · exact wkU_rel S.heap hF hfz' hρ hρa (hT _ h1) (S.okt x) (S.rel x)
  · have hx : ofL hl b = some x := hx
    rcases hlb b (by rw [hx]; simp) with ⟨x', x0, h1, h2, h3⟩ | ⟨h1, h2, e, k, h3, h4⟩
    · rw [hx] at h1; cases h1
      have hB := S.heap.blk b x0 h2
      have hO := S.heap.ok b x0 h2
      have hb := hρ b (by rw [h2]; simp)
      cases x0 with
      | obj l =>
        cases x with
        | row => exact h3.elim
        | obj l' =>
          obtain ⟨hv, g, e, cs, q1, q2, q3⟩ := hB
          refine ⟨by rw [hb]; exact hv, g, e, cs, by rw [hb]; exact q1, q2, fun j c' hc' => ?_⟩
          obtain ⟨c, h5, h6⟩ := All2.get' h3 j c' hc'
          obtain ⟨u, hu, hr⟩ := q3 j c h5
          exact ⟨u, hu, wkC_rel S.heap hF hfz' hρ hρa h6 (hO c (List.mem_of_getElem? h5)) hr⟩
      | row e k v rows =>
        cases x with
        | obj => exact h3.elim
        | row e' k' v' rows' =>
          obtain ⟨rfl, rfl, rfl, h3⟩ := h3
          obtain ⟨hv, hk, hr⟩ := hB
          refine ⟨by rw [hb]; exact hv, hk, ?_⟩
          rw [hb]
          rcases hr with ⟨q1, q2⟩ | ⟨g, cs, q1, q2, q3, q4, q5, q6⟩
          · subst q2
            exact .inl ⟨q1, List.eq_nil_of_length_eq_zero h3.length.symm⟩
          · refine .inr ⟨g, cs, q1, q2, q3, by rw [← h3.length]; exact q4, q5, fun i row' hi' => ?_⟩
            obtain ⟨row, h5, h6⟩ := h3.get' i row' hi'
            obtain ⟨q7, q8⟩ := q6 i row h5
            refine ⟨by rw [← h6.length]; exact q7, fun j c' hc' => ?_⟩
            obtain ⟨c, h7, h8⟩ := h6.get' j c' hc'
            obtain ⟨u, hu, hr⟩ := q8 j c h7
            exact ⟨u, hu, wkC_rel S.heap hF hfz' hρ hρa h8 (hO row (List.mem_of_getElem? h5) c (List.mem_of_getElem? h7)) hr⟩
    · rw [hx] at h4; cases h4
      exact ⟨by rw [hρa b h2], h3, .inl ⟨by rw [hρa b h2], rfl⟩⟩
  · obtain ⟨h1, h2⟩ := hg b g hb hgb
    obtain ⟨h3, h4⟩ := hg b' g hb' hgb'
    exact S.heap.inj b b' g h1 h3 h2 h4
  · obtain ⟨h1, h2⟩ := hg b g hb hgb
    rcases hf with hf | ⟨b2, hb2, hg2⟩
    · exact S.heap.notF b g h1 h2 hf
    · have := S.heap.inj b b2 g h1 (hfzne b2 hb2) h2 hg2
      subst this
      exact hfl b hb2 (ofL_some.2 hb)
  · rcases hk with hk | ⟨b, hb, hgb⟩
    · exact S.heap.lt k hk
    · exact S.heap.glt (hfzne b hb) hgb
  · rcases tOfL_cases tl x with h1 | h1
    · show okU _ (tOfL tl x)
      rw [h1]; trivial
    · exact okU_of (hok _ h1)
  · obtain ⟨h1, h2⟩ := hg b g hb hgb
    exact S.own b g h1 h2
  · rcases hk with hk | ⟨b, hb, hgb⟩
    · exact S.Fnew k hk
    · exact .inr (S.own b k (hfzne b hb) hgb)
  · have hne : b ∉ ad := fun hm => hadd b hm (by rw [show d = E.d from S.d]; exact hb)
    rw [show ρ' b = ρ b from if_neg hne]
    exact S.stab b hb

/-- THE STATE, SAID ANEW. -/
theorem gh_lit {d : List Nat} {t : Nat → U} {h : Nat → Option Blk} (tl : List (Nat × U)) (hl : List (Nat × Blk)) (fz ad : List Nat)
    (hT : AllP (fun p => WkU h fz ad (t p.1) p.2) tl) (hH : AllP (fun p => BlkNew h d fz ad p.1 p.2) hl) (hfz : AllP (ClosedAt h) fz) (had : AllP (fun b => h b = none) ad) (hadd : disj ad d = true) (hfl : disj fz (namesL hl) = true)
    (hok : AllP (fun p => okU' (ofL hl) p.2) tl) (hokh : AllP (fun p => okBlk' (ofL hl) p.2) hl) : Gh d t h (tOfL tl) (ofL hl) := by
  intro E a w ⟨F, ρ, S⟩
  obtain ⟨F', ρ', S', _⟩ := gh_core tl hl fz ad hT hH hfz had hadd hfl hok hokh S
  exact ⟨F', ρ', S'⟩

/-! ### A contract out of a body -/
/-- A result, as the state has it. -/
def ResU (P : Program) (t : Nat → U) (h : Nat → Option Blk) : ResultVar → U → Prop
  | .tmp x, u => t x = u
  | .cell a ty, u => ∃ b cells, t a = .one (.ptr b 0) ∧ h b = some (.obj cells) ∧ ((∃ n, TAgg P ty n ∧ cells.length = n ∧ u = .agg cells) ∨ (TOne P ty ∧ ∃ c, cells = [c] ∧ u = .one c))
def notTup : U → Prop
  | .tup _ => False
  | _ => True
theorem relU1_of {F : Nat → Prop} {ρ : Nat → Lc} {w : World} {u : U} {v : Value} (hn : notTup u) (hr : relU F ρ w u v) : relU1 F ρ w u v := by
  cases u <;> first | exact hr | exact hn.elim
theorem okU1_of' {h : Nat → Option Blk} {u : U} (hn : notTup u) (ho : okU h u) : okU1 h u := by
  cases u <;> first | exact ho | exact hn.elim
/-- Where a body ends well. -/
def RetQ (P : Program) (rs : Array ResultVar) (r : U) (O' : List (Nat × Blk)) : Exit → (Nat → U) → (Nat → Option Blk) → Prop := fun e t h =>
  (e = .normal ∨ e = .ret) ∧ ∃ us, All2 (ResU P t h) rs.toList us ∧ AllP notTup us ∧ ∃ u, (match us with | [u'] => u = u' | l => u = .tup l) ∧ ∃ fz, AllP (ClosedAt h) fz ∧ WkU h fz [] u r ∧ AllP (fun p => ∃ x0, h p.1 = some x0 ∧ WkBlk h fz [] x0 p.2) O' ∧ disj fz (namesL O') = true ∧ okU' (ofL O') r ∧ AllP (fun p => okBlk' (ofL O') p.2) O'

def resSem (tmps : Array Value) : ResultVar → Sem Value
  | .tmp t => pure (tmps.getD t undef)
  | .cell x ty => do loadVar ty (← asAddr (tmps.getD x undef))
theorem results_eq (fn : Func) (tmps : Array Value) : results fn tmps = (do let vs ← fn.results.mapM (resSem tmps); pure (if h : vs.size = 1 then vs[0] else .tuple vs)) := rfl
theorem res_rel {P : Program} {F : Nat → Prop} {ρ : Nat → Lc} {t : Nat → U} {h : Nat → Option Blk} {w : World} {a : Act} (H : HRel F ρ h w) (hx : ∀ x, relU F ρ w (t x) (a.tmps.getD x undef)) (hokx : ∀ x, okU h (t x)) {r : ResultVar} {u : U} (hr : ResU P t h r u) :
    ∃ v, (resSem a.tmps r).run P w = .ok v w ∧ relU F ρ w u v ∧ okU h u := by
  cases r with
  | tmp x =>
    have hr : t x = u := hr
    exact ⟨a.tmps.getD x undef, rfl, by rw [← hr]; exact hx x, by rw [← hr]; exact hokx x⟩
  | cell x ty =>
    obtain ⟨b, cells, h1, h2, h3⟩ := hr
    have hp := hx x
    rw [h1] at hp
    obtain ⟨g, hg, hv⟩ := hp.2 (H.ver h2)
    obtain ⟨g', hg', hj⟩ := blk_at (H.blk b _ h2)
    obtain rfl : g = g' := Option.some.inj (hg.symm.trans hg')
    have hO := H.ok b _ h2
    rcases h3 with ⟨n, T, hn, rfl⟩ | ⟨T, c, rfl, rfl⟩
    · obtain ⟨vs, hvs, hR⟩ := choose_list (R := fun j c u => w.cell? ⟨g, j, none⟩ = some u ∧ relC F ρ w c u) cells 0 (fun j c hjc => by
        obtain ⟨u, hu, _, hr⟩ := hj j c hjc
        rw [Nat.zero_add]
        exact ⟨u, hu, hr⟩)
      simp only [Nat.zero_add] at hR
      refine ⟨.agg vs.toArray, ?_, ⟨vs, rfl, All2.of hvs.symm fun i c u h1 h2 => (hR i c u h1 h2).2⟩, hO⟩
      have hl := run_loadAt_agg T w g 0 vs (by rw [hvs, hn]) fun j v hjv => by
        have hlt : j < cells.length := by rw [← hvs]; exact (List.getElem?_eq_some_iff.1 hjv).1
        rw [Nat.zero_add]
        exact (hR j _ v (List.getElem?_eq_getElem hlt) hjv).1
      show (do loadVar ty (← asAddr (a.tmps.getD x undef)) : Sem Value).run P w = _
      rw [hv]
      simpa [Instr.loadAt, Instr.sureAddr, asAddr, go_sem] using hl
    · obtain ⟨u, hu, _, hr⟩ := hj 0 c rfl
      have hl := run_loadAt_one T w g 0 u hu
      refine ⟨u, ?_, hr, hO c (List.mem_singleton.2 rfl)⟩
      show (do loadVar ty (← asAddr (a.tmps.getD x undef)) : Sem Value).run P w = _
      rw [hv]
      simpa [Instr.loadAt, Instr.sureAddr, asAddr, go_sem] using hl

theorem results_rel {P : Program} {F : Nat → Prop} {ρ : Nat → Lc} {t : Nat → U} {h : Nat → Option Blk} {w : World} {a : Act} (H : HRel F ρ h w) (hx : ∀ x, relU F ρ w (t x) (a.tmps.getD x undef)) (hokx : ∀ x, okU h (t x)) : ∀ (rs : List ResultVar) (us : List U), All2 (ResU P t h) rs us →
    ∃ vs : List Value, (rs.mapM (resSem a.tmps)).run P w = .ok vs w ∧ All2 (fun u v => relU F ρ w u v ∧ okU h u) us vs
  | [], [], _ => ⟨[], rfl, trivial⟩
  | r :: rs, u :: us, ⟨h1, h2⟩ => by
    obtain ⟨v, hv, hr⟩ := res_rel H hx hokx h1
    obtain ⟨vs, hvs, hrs⟩ := results_rel H hx hokx rs us h2
    refine ⟨v :: vs, ?_, hr, hrs⟩
    rw [List.mapM_cons, Sem.run_bind, hv, Result.andThen_ok, Sem.run_bind, hvs]
    rfl
  | [], _ :: _, h => h.elim
  | _ :: _, [], h => h.elim

def argT (args : List U) : Nat → U := fun x => args.getD x .any

theorem relU_any (F : Nat → Prop) (ρ : Nat → Lc) (w : World) (v : Value) : relU F ρ w .any v := trivial

/-- A FUNCTION'S CONTRACT, out of its body. -/
theorem acalls_of_body {P : Program} {f : FuncId} {fn : Func} {c : Code} {args : List U} {O O' : List (Nat × Blk)} {r : U} (hf : P.funcs[f]? = some fn) (hb : fn.body = some c) (hnn : (fn.name == "runtime.NumGoroutine") = false) (hn : args.length ≤ fn.ntmps)
    (hle : All2 (fun p q => p.1 = q.1 ∧ leB p.2 q.2) O O') (hnd : (namesL O).Nodup) (hw : AW P fn.ntmps c (argT args) (ofL O) (namesL O) (RetQ P fn.results r O')) : ACalls P f args O r O' := by
  refine ⟨by unfold canCall; rw [hf]; simp only [hnn, hb]; rfl, fun F ρ w vals H ha => calls_of_wp hf hb ?_⟩
  have hlen := ha.length
  have S : SimR ⟨w, F, ρ, namesL O, fn.ntmps⟩ F ρ ⟨argT args, ofL O, namesL O⟩ { tmps := vals.toArray ++ Array.replicate (fn.ntmps - vals.toArray.size) undef, defers := [] } w := by
    have hx : ∀ x, relU F ρ w (argT args x) ((vals.toArray ++ Array.replicate (fn.ntmps - vals.toArray.size) undef).getD x undef) ∧ okU (ofL O) (argT args x) := fun x => by
      cases hu : args[x]? with
      | none =>
        have : argT args x = .any := by unfold argT; rw [List.getD_eq_getElem?_getD, hu]; rfl
        rw [this]; exact ⟨trivial, trivial⟩
      | some u =>
        have h1 : argT args x = u := by unfold argT; rw [List.getD_eq_getElem?_getD, hu]; rfl
        obtain ⟨v, hv, hr⟩ := ha.get x u hu
        have hxl := (List.getElem?_eq_some_iff.1 hv).1
        rw [h1, Array.getD_eq_getD_getElem?, Array.getElem?_append_left (by simpa using hxl)]
        simp only [List.getElem?_toArray, hv, Option.getD_some]
        exact hr
    exact ⟨fun x => (hx x).1, H, fun x => (hx x).2, fun b g hb hg => .inr ⟨b, ofL_some.2 hb, hg⟩, fun _ h => h, fun _ h => .inl h, rfl, rfl, rfl, Nat.le_refl _, fun _ _ _ => rfl, fun _ _ => .inl rfl, rfl, by simp; omega, rfl⟩
  refine wp_mono (hw ⟨w, F, ρ, namesL O, fn.ntmps⟩ _ w rfl ⟨F, ρ, S⟩) fun e a' w' ⟨t', h', ⟨F1, ρ1, S1⟩, hq⟩ => ?_
  obtain ⟨he, us, hres, hnt, u, hu, fz, hfz, hwk, hO', hdf, hokr, hokO⟩ := hq
  have hnames : namesL O' = namesL O := by
    have key : ∀ {O O' : List (Nat × Blk)}, All2 (fun p q => p.1 = q.1 ∧ leB p.2 q.2) O O' → namesL O' = namesL O := by
      intro O
      induction O with
      | nil => intro O' h; cases O' with | nil => rfl | cons => exact h.elim
      | cons p O ih => intro O' h; cases O' with
        | nil => exact h.elim
        | cons q O' =>
          have := ih h.2
          unfold namesL at this ⊢
          rw [List.map_cons, List.map_cons, this, h.1.1]
    exact key hle
  obtain ⟨vs, hvs, hrs⟩ := results_rel (P := P) S1.heap S1.rel S1.okt fn.results.toList us hres
  have hrun : ∃ v, (results fn a'.tmps).run P w' = .ok v w' ∧ relU F1 ρ1 w' u v ∧ okU h' u := by
    have hm : (fn.results.mapM (resSem a'.tmps)).run P w' = .ok vs.toArray w' := by
      rw [Array.mapM_eq_mapM_toList, Sem.run_map, hvs]
      rfl
    have hr0 : ∀ v, (if h : vs.toArray.size = 1 then vs.toArray[0] else Value.tuple vs.toArray) = v → (results fn a'.tmps).run P w' = .ok v w' := fun v hv => by
      rw [results_eq, Sem.run_bind, hm, Result.andThen_ok, ← hv]
      rfl
    cases us with
    | nil =>
      cases vs with
      | nil => exact ⟨_, hr0 _ rfl, by rw [show u = .tup [] from hu]; exact ⟨[], rfl, trivial⟩, by rw [show u = .tup [] from hu]; intro u hu; cases hu⟩
      | cons => exact hrs.elim
    | cons u1 us =>
      cases vs with
      | nil => exact hrs.elim
      | cons v1 vs =>
        cases us with
        | nil =>
          cases vs with
          | nil => exact ⟨v1, hr0 _ rfl, by rw [show u = u1 from hu]; exact hrs.1.1, by rw [show u = u1 from hu]; exact hrs.1.2⟩
          | cons => exact hrs.2.elim
        | cons u2 us =>
          cases vs with
          | nil => exact hrs.2.elim
          | cons v2 vs =>
            have hu : u = .tup (u1 :: u2 :: us) := hu
            have hnt := allP_iff.1 hnt
            refine ⟨_, hr0 _ (dif_neg (by simp)), ?_, ?_⟩
            · rw [hu]
              exact ⟨v1 :: v2 :: vs, rfl, hrs.mono fun u hum v h => relU1_of (hnt u hum) h.1⟩
            · rw [hu]
              intro u' hum
              obtain ⟨j, hj, hje⟩ := List.getElem_of_mem hum
              obtain ⟨v', _, hv'⟩ := hrs.get j u' (by rw [List.getElem?_eq_getElem hj, hje])
              exact okU1_of' (hnt u' hum) hv'.2
  obtain ⟨v, hv, hrv, hrok⟩ := hrun
  have hO'' := allP_iff.1 hO'
  obtain ⟨F2, ρ2, S2, hwk2⟩ := gh_core (tl := []) (hl := O') fz [] (trivial : AllP _ []) (allP_iff.2 fun p hp => .inl (hO'' p hp)) hfz (trivial : AllP _ []) rfl hdf (trivial : AllP _ []) hokO S1
  have hle' : ∀ b x, ofL O b = some x → ∃ x', ofL O' b = some x' ∧ leB x x' := by
    have key : ∀ {O O' : List (Nat × Blk)}, All2 (fun p q => p.1 = q.1 ∧ leB p.2 q.2) O O' → ∀ b x, ofL O b = some x → ∃ x', ofL O' b = some x' ∧ leB x x' := by
      intro O
      induction O with
      | nil => intro O' _ b x hx; cases hx
      | cons p O ih => intro O' h b x hx; cases O' with
        | nil => exact h.elim
        | cons q O' =>
          obtain ⟨c, y⟩ := p
          obtain ⟨c', y'⟩ := q
          obtain ⟨⟨h1, h2⟩, h3⟩ := h
          have h1 : c = c' := h1
          subst h1
          by_cases hb : b = c
          · subst hb
            rw [ofL, upd_same] at hx; cases hx
            exact ⟨y', by rw [ofL, upd_same], h2⟩
          · rw [ofL, upd_ne _ _ hb] at hx
            obtain ⟨x', h4, h5⟩ := ih h3 b x hx
            exact ⟨x', by rw [ofL, upd_ne _ _ hb]; exact h4, h5⟩
    exact key hle
  have hM : Moves (namesL O) F ρ (ofL O) w F2 ρ2 (ofL O') w' := by
    refine ⟨S2.F0, fun k hk => S2.kept k (H.lt k hk) ?_, fun b hb => S2.stab b (ofL_some.2 hb), fun b hb => S2.stab b hb, S2.heap, hle', fun b g hb hg => ?_, fun k hk => ?_, S2.os, S2.tape, S2.output, S2.size, fun k hk hno => S2.kept k hk ?_⟩
    · rintro ⟨b, hb, hg⟩
      exact H.notF b k (ofL_some.1 hb) hg hk
    · rcases S2.own b g hb hg with h1 | ⟨b0, h1, h2⟩
      · exact .inr h1
      · exact .inl ⟨b0, ofL_some.1 h1, h2⟩
    · rcases S2.Fnew k hk with h1 | h1 | ⟨b0, h1, h2⟩
      · exact .inl h1
      · exact .inr (.inl h1)
      · exact .inr (.inr ⟨b0, ofL_some.1 h1, h2⟩)
    · rintro ⟨b, hb, hg⟩
      exact hno b (ofL_some.1 hb) hg
  have hR : ∃ v' F' ρ', Ending.returned v = .returned v' ∧ Moves (namesL O) F ρ (ofL O) w F' ρ' (ofL O') w' ∧ relU F' ρ' w' r v' ∧ okU (ofL O') r := ⟨v, F2, ρ2, rfl, hM, hwk2 u r v hwk hrok hrv, okU_of hokr⟩
  rcases he with rfl | rfl
  · exact ⟨S1.defers, v, hv, hR⟩
  · exact ⟨S1.defers, v, hv, hR⟩
end Go.Proofs.YtnflnbdlgdjfmaaDoor
