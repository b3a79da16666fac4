/-
  A region that draws its order comes to what it comes to in the order of the text, where operations that are not ordered may be swapped. Conditions: those typed in each theorem.
  Values as they are meant: cells, values, blocks. Conditions: none.
  The package variables that are read. Conditions: none.
  Values as they are meant, and how they lie in memory; states, and the worlds that fit them. Conditions: those typed in each theorem.
  Steps of states and worlds: what stays when a world moves on; regions, drawn or not. Conditions: those typed in each theorem.
  What single operations do, kind by kind. Conditions: those typed in each theorem.
  What single operations do, kind by kind (2): indexes, slices, lengths, sums, tests. Conditions: those typed in each theorem.
  What single operations do, kind by kind (3): slices of slices, truths, several values; stores; new variables. Conditions: those typed in each theorem.
  What single operations do, kind by kind (4): stores; new variables. Conditions: those typed in each theorem.
  Types as trees; as cells; what the functions on types compute, on trees. Conditions: none.
  Terms as trees; as cells; what the functions on terms compute, on trees. Conditions: none.
  What the checker computes, on trees. Conditions: none.
  What the checker's walk keeps: types are right, counting. Conditions: none.
  A term's casts; a term without casts and types: what is computed, on trees. Conditions: none.
  What the document's own answer computes, on trees, and that it is what the program computes. Conditions: those typed in each theorem.
  What the machine computes, on trees: values, what is to be done, a step; what terms come to, at one go. Conditions: none.
  The machine comes to what comes at one go; what comes, comes with more fuel, too. Conditions: those typed in each theorem.
  Something always comes of a term of the right form. Conditions: those typed in each theorem.
  What has a type never gets stuck, and comes to what its type says. Conditions: those typed in each theorem.
  How high the stack grows, while something comes. Conditions: those typed in each theorem.
  What the checker answers has the type that it tells. Conditions: those typed in each theorem.
  Where a term is cast; what is sure is not; without casts it is the term. Conditions: those typed in each theorem.
  How high the stack grows at most. Conditions: those typed in each theorem.
  How often values are wrapped at most, and so how high the stack grows. Conditions: those typed in each theorem.
  The stack of a checked term never holds more than 10^11 frames. Conditions: those typed in each theorem.
-/
import Derived.WalkKit
import Derived.Deep.Upon
import Derived.Deep.MidRow
import Derived.IntWalk
namespace Go.Proofs.YtnflnbdlgdjfmaaDoor
set_option linter.unusedVariables false
section
variable {S : Type} (stp : Nat → S → S → Prop)
/-- The operations of the list, one behind the other. -/
def Chain : List Nat → S → S → Prop
  | [], s, s' => s = s'
  | i :: l, s, s' => ∃ s1, stp i s s1 ∧ Chain l s1 s'
variable {stp}
end
/-- All binding edges lead to earlier operations. -/
def edgesDown (ops : Array Oper) : Bool :=
  (List.range ops.size).all fun i => match ops[i]? with
    | none => true
    | some o => o.after.all fun e => !Region.binds .any e || decide (e.on < i)
/-- What comes ahead of an operation, as bits. -/
def maskOf (o : Oper) (acc : List Nat) : Nat := o.after.toList.foldl (fun s e => if Region.binds .any e then s ||| 2 ^ e.on ||| acc.getD e.on 0 else s) 0
def masks : List Oper → List Nat → List Nat
  | [], acc => acc
  | o :: l, acc => masks l (acc ++ [maskOf o acc])
/-- Operation j comes behind operation i, whatever is drawn. -/
def behind (ops : Array Oper) (j i : Nat) : Bool := ((masks ops.toList []).getD j 0).testBit i
/-- Listed operations have their earlier ones listed. -/
def ClosedIn (ops : Array Oper) (listed : Array Bool) : Prop :=
  ∀ (i : Nat) (o : Oper), ops[i]? = some o → listed.getD i false = true → ∀ e ∈ o.after, Region.binds .any e = true → listed.getD e.on false = true
theorem maskOf_bits {P : Nat → Prop} {acc : List Nat} {i : Nat} : ∀ (l : List Edge) (s : Nat), (s.testBit i = true → P i) →
    (∀ e ∈ l, Region.binds .any e = true → P e.on ∧ ((acc.getD e.on 0).testBit i = true → P i)) →
    (l.foldl (fun s e => if Region.binds .any e then s ||| 2 ^ e.on ||| acc.getD e.on 0 else s) s).testBit i = true → P i
  | [], s, hs, _, h => hs h
  | e :: l, s, hs, he, h => by
    rw [List.foldl_cons] at h
    refine maskOf_bits l _ ?_ (fun e' h' => he e' (List.mem_cons_of_mem _ h')) h
    intro ht
    split at ht
    · rename_i hb
      have h1 := he e (List.mem_cons_self ..) hb
      simp only [Nat.testBit_or, Bool.or_eq_true, Nat.testBit_two_pow, decide_eq_true_eq] at ht
      rcases ht with (h2 | h2) | h2
      · exact hs h2
      · subst h2; exact h1.1
      · exact h1.2 h2
    · exact hs ht
theorem masks_listed {ops : Array Oper} {listed : Array Bool} (hcl : ClosedIn ops listed) :
    ∀ (l : List Oper) (acc : List Nat), (∀ m o, l[m]? = some o → ops[acc.length + m]? = some o) →
      (∀ k o, k < acc.length → ops[k]? = some o → (∀ e ∈ o.after, Region.binds .any e = true → listed.getD e.on false = true) → ∀ i, (acc.getD k 0).testBit i = true → listed.getD i false = true) →
      ∀ k o, k < acc.length + l.length → ops[k]? = some o → (∀ e ∈ o.after, Region.binds .any e = true → listed.getD e.on false = true) →
        ∀ i, ((masks l acc).getD k 0).testBit i = true → listed.getD i false = true
  | [], acc, _, h => fun k o hk ho hall i ht => h k o (by simpa using hk) ho hall i ht
  | x :: l, acc, hl, h => by
    refine fun k o hk ho hall i ht => masks_listed hcl l (acc ++ [maskOf x acc]) ?_ ?_ k o (by simp at hk ⊢; omega) ho hall i ht
    · intro m o hm
      have := hl (m + 1) o (by simpa using hm)
      rw [List.length_append, List.length_singleton, Nat.add_assoc, Nat.add_comm 1 m]
      exact this
    · intro k o hlt ho hall i ht
      by_cases hk : k < acc.length
      · refine h k o hk ho hall i ?_
        rwa [List.getD_eq_getElem?_getD, List.getElem?_append_left hk, ← List.getD_eq_getElem?_getD] at ht
      · have hke : k = acc.length := by simp at hlt; omega
        subst hke
        rw [List.getD_eq_getElem?_getD, List.getElem?_append_right (Nat.le_refl _), Nat.sub_self] at ht
        have hox : x = o := by
          have := hl 0 x (by simp)
          rw [Nat.add_zero, ho] at this
          exact (Option.some.inj this).symm
        subst hox
        refine maskOf_bits (P := fun i => listed.getD i false = true) (acc := acc) (i := i) x.after.toList 0 (by simp) (fun e he hb => ?_) ht
        have h1 := hall e (by simpa using he) hb
        refine ⟨h1, fun h2 => ?_⟩
        by_cases hlt2 : e.on < acc.length
        · by_cases hsz : e.on < ops.size
          · exact h e.on ops[e.on] hlt2 (by simp [hsz]) (fun e' he' hb' => hcl e.on ops[e.on] (by simp [hsz]) h1 e' he' hb') i h2
          · have h3 := hl 0 x (by simp)
            have := (Array.getElem?_eq_some_iff.1 h3).1
            omega
        · rw [List.getD_eq_getElem?_getD, List.getElem?_eq_none (by omega)] at h2
          simp at h2
theorem behind_listed {ops : Array Oper} {listed : Array Bool} (hcl : ClosedIn ops listed) {j i : Nat} {o : Oper} (ho : ops[j]? = some o)
    (hall : ∀ e ∈ o.after, Region.binds .any e = true → listed.getD e.on false = true) (h : behind ops j i = true) : listed.getD i false = true := by
  have hlt : j < ops.size := (Array.getElem?_eq_some_iff.1 ho).1
  exact masks_listed hcl ops.toList [] (fun m o hm => by simpa using hm) (fun k o hk => absurd hk (Nat.not_lt_zero _)) j o (by simpa using hlt) ho hall i h
theorem wpOp_mono {P : Program} {ops : Array Oper} {Q : Exit → Act → World → Prop} {i : Nat} {K K' : Act → World → Prop} {a : Act} {w : World} (hk : ∀ a w, K a w → K' a w) (h : wpOp P ops Q i K a w) : wpOp P ops Q i K' a w := by
  unfold wpOp at *
  cases ho : ops[i]? with
  | none => rw [ho] at h; exact hk _ _ h
  | some o =>
    rw [ho] at h
    simp only at *
    split
    · rename_i hw
      rw [if_pos hw] at h
      exact h.imp (Oper.wp_mono hk) id
    · rename_i hw
      rw [if_neg hw] at h
      exact hk _ _ h
section
variable {P : Program} {ops : Array Oper} {Q : Exit → Act → World → Prop} {S : Type} {stp : Nat → S → S → Prop} {sim : S → Act → World → Prop} {inv : S → Prop}
theorem wpAny_swap (hdown : edgesDown ops = true) (hinv : ∀ i s s', inv s → stp i s s' → inv s')
    (hswap : ∀ i j s s1 s2, i < j → j < ops.size → ¬ behind ops j i = true → inv s → stp i s s1 → stp j s1 s2 → ∃ s1', stp j s s1' ∧ stp i s1' s2)
    (hsim : ∀ i s s' a w, i < ops.size → inv s → sim s a w → stp i s s' → wpOp P ops Q i (sim s') a w) {sn : S} (hQ : ∀ a w, sim sn a w → Q .normal a w) :
    ∀ (l : List Nat) (listed : Array Bool) (s : S) (a : Act) (w : World), listed.size = ops.size → ClosedIn ops listed → l.Pairwise (· < ·) → (∀ i, i ∈ l ↔ i < ops.size ∧ listed.getD i false = false) →
      inv s → sim s a w → Chain stp l s sn → wpAny P .any ops Q l.length listed a w := by
  intro l
  induction hn : l.length generalizing l with
  | zero =>
    intro listed s a w hsz hcl hp hl hi hs hc
    have : l = [] := List.eq_nil_of_length_eq_zero hn
    subst this
    cases hc
    refine ⟨?_, hQ a w hs⟩
    apply List.eq_nil_iff_forall_not_mem.2
    intro j hj
    obtain ⟨h1, o, ho, _⟩ := mem_ready.1 hj
    have hlt : j < ops.size := (Array.getElem?_eq_some_iff.1 ho).1
    have := (hl j).2 ⟨hlt, by rw [Array.getD_eq_getD_getElem?] at h1 ⊢; rw [Array.getElem?_eq_getElem (by omega)] at h1 ⊢; exact h1⟩
    cases this
  | succ n ih =>
    intro listed s a w hsz hcl hp hl hi hs hc
    have hun : ∀ j, j ∈ Region.ready .any ops listed → j ∈ l ∧ ∀ k ∈ l, ¬ behind ops j k = true := by
      intro j hj
      obtain ⟨h1, o, ho, hall⟩ := mem_ready.1 hj
      have hlt : j < ops.size := (Array.getElem?_eq_some_iff.1 ho).1
      refine ⟨(hl j).2 ⟨hlt, by rw [Array.getD_eq_getD_getElem?] at h1 ⊢; rw [Array.getElem?_eq_getElem (by omega)] at h1 ⊢; exact h1⟩, fun k hk hw => ?_⟩
      have h2 := behind_listed hcl ho hall hw
      rw [((hl k).1 hk).2] at h2
      cases h2
    refine ⟨fun hempty => ?_, fun j hj => ?_⟩
    · exfalso
      cases l with
      | nil => cases hn
      | cons m l' =>
        have hm := (hl m).1 (List.mem_cons_self ..)
        have hin : m ∈ Region.ready .any ops listed := by
          refine mem_ready.2 ⟨?_, ops[m], by simp [hm.1], fun e he hb => ?_⟩
          · have h3 := hm.2
            rw [Array.getD_eq_getD_getElem?] at h3 ⊢; rw [Array.getElem?_eq_getElem (by omega)] at h3 ⊢; exact h3
          · have h4 := List.all_eq_true.1 hdown m (List.mem_range.2 hm.1)
            have h5 : (ops[m]?) = some ops[m] := by simp [hm.1]
            rw [h5] at h4
            have h6 := Array.all_eq_true'.1 h4 e he
            simp only [hb, Bool.not_true, Bool.false_or, decide_eq_true_eq] at h6
            cases h7 : listed.getD e.on false with
            | true => rfl
            | false =>
              have h8 := (hl e.on).2 ⟨by omega, h7⟩
              rcases List.mem_cons.1 h8 with h9 | h9
              · omega
              · have := (List.pairwise_cons.1 hp).1 _ h9; omega
        rw [hempty] at hin
        cases hin
    · obtain ⟨hjl, hno⟩ := hun j hj
      obtain ⟨l1, l2, rfl⟩ := List.append_of_mem hjl
      have hlt1 : ∀ k ∈ l1, k < j := fun k hk => (List.pairwise_append.1 hp).2.2 k hk j (List.mem_cons_self ..)
      have hjlt := ((hl j).1 hjl).1
      have hmem : ∀ k, k ∈ l1 → k < ops.size := fun k hk => ((hl k).1 (List.mem_append_left _ hk)).1
      -- swaps within bounds
      have key : ∀ (l1 l2 : List Nat) (s sn : S), inv s → (∀ k ∈ l1, k < j ∧ ¬ behind ops j k = true) → Chain stp (l1 ++ j :: l2) s sn → ∃ s', stp j s s' ∧ Chain stp (l1 ++ l2) s' sn := by
        intro l1
        induction l1 with
        | nil => intro l2 s sn _ _ ⟨s1, h1, h2⟩; exact ⟨s1, h1, h2⟩
        | cons k l1 ih2 =>
          intro l2 s sn hi hl ⟨s1, h1, h2⟩
          obtain ⟨s2, h3, h4⟩ := ih2 l2 s1 sn (hinv _ _ _ hi h1) (fun j hj => hl j (List.mem_cons_of_mem _ hj)) h2
          obtain ⟨hlt, hno⟩ := hl k (List.mem_cons_self ..)
          obtain ⟨s1', h5, h6⟩ := hswap k j s s1 s2 hlt hjlt hno hi h1 h3
          exact ⟨s1', h5, s2, h6, h4⟩
      obtain ⟨s', h1, h2⟩ := key l1 l2 s sn hi (fun k hk => ⟨hlt1 k hk, hno k (List.mem_append_left _ hk)⟩) hc
      refine wpOp_mono (fun a' w' hs' => ?_) (hsim j s s' a w hjlt hi hs h1)
      have hlen : (l1 ++ l2).length = n := by simp at hn ⊢; omega
      refine ih (l1 ++ l2) hlen (listed.setIfInBounds j true) s' a' w' (by simp [hsz]) ?_ ?_ ?_ (hinv _ _ _ hi h1) hs' h2
      · intro i o ho hl' e he hb
        have hmono : ∀ m, listed.getD m false = true → (listed.setIfInBounds j true).getD m false = true := fun m hm => by
          by_cases hjm : j = m
          · subst hjm; simp [hsz, hjlt]
          · simpa only [Array.getD_eq_getD_getElem?, Array.getElem?_setIfInBounds_ne hjm] using hm
        by_cases hij : j = i
        · subst hij
          obtain ⟨_, o', ho', hall⟩ := mem_ready.1 hj
          obtain rfl : o = o' := Option.some.inj (ho.symm.trans ho')
          exact hmono _ (hall e he hb)
        · rw [Array.getD_eq_getD_getElem?, Array.getElem?_setIfInBounds_ne hij, ← Array.getD_eq_getD_getElem?] at hl'
          exact hmono _ (hcl i o ho hl' e he hb)
      · exact hp.sublist (List.Sublist.append_left (List.sublist_cons_self j l2) l1)
      · intro k
        have hnd : ¬ j ∈ l1 ++ l2 := by
          intro hin
          rcases List.mem_append.1 hin with h | h
          · exact absurd (hlt1 j h) (Nat.lt_irrefl _)
          · have := (List.pairwise_cons.1 (List.pairwise_append.1 hp).2.1).1 j h; omega
        by_cases hkj : j = k
        · subst hkj
          constructor
          · intro h; exact absurd h hnd
          · rintro ⟨_, h⟩
            simp [hsz, hjlt] at h
        · have h3 := hl k
          have h4 : (listed.setIfInBounds j true).getD k false = listed.getD k false := by
            simp only [Array.getD_eq_getD_getElem?, Array.getElem?_setIfInBounds_ne hkj]
          rw [h4, ← h3]
          simp only [List.mem_append, List.mem_cons]
          constructor
          · rintro (h | h)
            · exact .inl h
            · exact .inr (.inr h)
          · rintro (h | rfl | h)
            · exact .inl h
            · exact absurd rfl hkj
            · exact .inr h
/-- The region, drawn. -/
theorem wp_region_swap {id : Nat} {a : Act} {w : World} (hmix : P.follows .mixedOrders = true) (hdown : edgesDown ops = true) (hinv : ∀ i s s', inv s → stp i s s' → inv s')
    (hswap : ∀ i j s s1 s2, i < j → j < ops.size → ¬ behind ops j i = true → inv s → stp i s s1 → stp j s1 s2 → ∃ s1', stp j s s1' ∧ stp i s1' s2)
    (hsim : ∀ i s s' a w, i < ops.size → inv s → sim s a w → stp i s s' → wpOp P ops Q i (sim s') a w) {s sn : S} (hQ : ∀ a w, sim sn a w → Q .normal a w)
    (hi : inv s) (hs : sim s a { w with drawn := w.drawn + 1 }) (hc : Chain stp (List.range ops.size) s sn) : (Code.region id ops true).wp P Q a w := by
  refine wp_region_any hmix ?_
  have := wpAny_swap hdown hinv hswap hsim hQ (List.range ops.size) (Array.replicate ops.size false) s a { w with drawn := w.drawn + 1 } (by simp) (fun i o _ h => by simp [Array.getElem?_replicate] at h; split at h <;> simp at h) List.pairwise_lt_range (fun i => ?_) hi hs hc
  · rwa [List.length_range] at this
  · simp only [List.mem_range, Array.getD_eq_getD_getElem?]
    constructor
    · intro h; exact ⟨h, by simp [h]⟩
    · exact fun h => h.1
/-- The region in the order of the text. -/
theorem wp_region_text {id : Nat} {a : Act} {w : World} (hinv : ∀ i s s', inv s → stp i s s' → inv s')
    (hsim : ∀ i s s' a w, i < ops.size → inv s → sim s a w → stp i s s' → wpOp P ops Q i (sim s') a w) {s sn : S} (hQ : ∀ a w, sim sn a w → Q .normal a w)
    (hi : inv s) (hs : sim s a w) (hc : Chain stp (List.range ops.size) s sn) : (Code.region id ops false).wp P Q a w := by
  refine wp_region ?_
  have key : ∀ (l : List Nat) (s : S) (a : Act) (w : World), (∀ i ∈ l, i < ops.size) → inv s → sim s a w → Chain stp l s sn → wpOps P ops Q l a w := by
    intro l
    induction l with
    | nil => intro s a w _ _ hs hc; cases hc; exact hQ a w hs
    | cons i l ih =>
      intro s a w hl hi hs ⟨s1, h1, h2⟩
      rw [wpOps_cons]
      exact wpOp_mono (fun a' w' hs' => ih s1 a' w' (fun j hj => hl j (List.mem_cons_of_mem _ hj)) (hinv _ _ _ hi h1) hs' h2) (hsim i s s1 a w (hl i (List.mem_cons_self ..)) hi hs h1)
  exact key _ s a w (fun i h => List.mem_range.1 h) hi hs hc
end
end Go.Proofs.YtnflnbdlgdjfmaaDoor
namespace Go.Proofs.YtnflnbdlgdjfmaaDoor
open Go.RowKit
set_option linter.unusedVariables false
/-- A cell's value, as it is meant. Pointers and rows of the call's own by names; what turns no more as it reads. -/
inductive C where
  | any
  | int (k : IntKind) (n : Int)
  | bool (b : Bool)
  | str (s : ByteArray)
  | nilp
  | nilf
  | nilsl
  | nilif
  | ifc
  | fn (f : FuncId)
  | ptr (b o : Nat)
  | eptr (b v k i o : Nat)
  | own (b v n : Nat)
  | sl (n k : Nat) (f : Nat → Nat → C)
  | slF (n k : Nat) (f : Nat → Nat → C)
  | fp (k : Nat) (f : Nat → C)
/-- A value: of one cell, of some, or more values. -/
inductive U where
  | any
  | one (c : C)
  | agg (l : List C)
  | tup (l : List U)
/-- A block of the call's own: a variable of some cells; a row of elements (element type, cells of an element, version, elements). -/
inductive Blk where
  | obj (cells : List C)
  | row (e : TypeId) (k v : Nat) (rows : List (List C))
def rowF (l : List C) : Nat → C := fun j => l.getD j .any
/-- Elements that turn no more. -/
def slOf (k : Nat) (rows : List (List C)) : C := .sl rows.length k (fun i => rowF (rows.getD i []))
/-- A pointer to cell o of a block that turns no more. -/
def fpo (cells : List C) (o : Nat) : C := .fp (cells.length - o) (fun j => rowF cells (o + j))
/-- Elements that turn no more, with no room behind them. -/
def slFOf (k : Nat) (rows : List (List C)) : C := .slF rows.length k (fun i => rowF (rows.getD i []))
end Go.Proofs.YtnflnbdlgdjfmaaDoor
namespace Go.Proofs.YtnflnbdlgdjfmaaDoor
def i64 (n : Int) : C := .int .i64 n
def arityC : List C := [.int .i64 0, .int .i64 0, .int .i64 0, .int .i64 0, .int .i64 2, .int .i64 2, .int .i64 3, .int .i64 1, .int .i64 2, .int .i64 1]
def wordsL : List ByteArray := [⟨#[]⟩, ⟨#[]⟩, ⟨#[]⟩, ⟨#[]⟩, ⟨#[97, 100, 100]⟩, ⟨#[108, 101, 115, 115]⟩, ⟨#[105, 102]⟩, ⟨#[102, 117, 110]⟩, ⟨#[99, 97, 108, 108]⟩, ⟨#[97, 115]⟩]
def kindsL : List ByteArray := [⟨#[97, 110, 121]⟩, ⟨#[110, 117, 109]⟩, ⟨#[116, 114, 117, 116, 104]⟩, ⟨#[116, 111]⟩]
def wordsC : List C := wordsL.map .str
def kindsC : List C := kindsL.map .str
def pow10V : Array Value := #[1, 10, 100, 1000, 10000, 100000, 1000000, 10000000, 100000000, 1000000000, 10000000000, 100000000000, 1000000000000, 10000000000000, 100000000000000, 1000000000000000, 10000000000000000, 100000000000000000, 1000000000000000000, 10000000000000000000].map fun n => .int .u64 n
/-- What a package variable's address points to. -/
def glob (g : Nat) : Option C :=
  bif g.beq 0 then some (fpo arityC 0)
  else bif g.beq 1 then some (fpo wordsC 0)
  else bif g.beq 2 then some (fpo kindsC 0)
  else none
/-- What is known of a package variable's whole block. -/
def globX (g : Nat) : Option (Array Value → Prop) :=
  bif g.beq 3 then some fun cs => ∃ m, cs = #[.int .i64 m]
  else bif g.beq 6 then some fun cs => ∃ t x, cs = #[.iface t x]
  else bif g.beq 7 then some fun cs => ∃ t x, cs = #[.iface t x]
  else bif g.beq 8 then some fun cs => cs = pow10V
  else none
end Go.Proofs.YtnflnbdlgdjfmaaDoor
namespace Go.Proofs.YtnflnbdlgdjfmaaDoor
open Go.RowKit
set_option linter.unusedVariables false
def upd {α : Type} (t : Nat → α) (d : Nat) (v : α) : Nat → α := fun x => bif x.beq d then v else t x
theorem upd_same {α : Type} (t : Nat → α) (d : Nat) (v : α) : upd t d v d = v := by simp [upd]
theorem upd_ne {α : Type} (t : Nat → α) {d x : Nat} (v : α) (h : x ≠ d) : upd t d v x = t x := by
  simp only [upd]
  cases hb : x.beq d with
  | false => rfl
  | true => exact absurd (Nat.eq_of_beq_eq_true hb) h
def updD {α : Type} (t : Nat → α) (d : Option Nat) (v : α) : Nat → α := match d with | some d => upd t d v | none => t
/-- Where a name's block lies: its number (none: nil), its capacity, its version. -/
structure Lc where
  g : Option Nat
  cap : Nat
  v : Nat
/-- A state: the slots, the named blocks, the names that were handed in. -/
structure St where
  t : Nat → U
  h : Nat → Option Blk
  d : List Nat
/-- Without names: what turns no more. -/
def relK (F : Nat → Prop) (w : World) : C → Value → Prop
  | .any, v => v.oneCell' = true
  | .int k n, v => v = .int k n
  | .bool b, v => v = .bool b
  | .str s, v => v = .string s
  | .nilp, v => v = .pointer none
  | .nilf, v => v = .nilFunc
  | .nilsl, v => v = .slice none 0 0
  | .nilif, v => v = .nilIface
  | .ifc, v => ∃ t x, v = .iface t x
  | .fn f, v => v = .func (.func f) #[] #[]
  | .ptr _ _, _ => False
  | .eptr _ _ _ _ _, _ => False
  | .own _ _ _, _ => False
  | .sl n k f, v => ∃ a cap, v = .slice a n cap ∧ n ≤ cap ∧ n ≤ maxLen ∧ ∀ i, i < n → ∃ g o, a = some ⟨g, o, none⟩ ∧ F g ∧ ∀ j, j < k → ∃ u, w.cell? ⟨g, o + i * k + j, none⟩ = some u ∧ relK F w (f i j) u
  | .slF n k f, v => ∃ a, v = .slice a n n ∧ n ≤ maxLen ∧ ∀ i, i < n → ∃ g o, a = some ⟨g, o, none⟩ ∧ F g ∧ ∀ j, j < k → ∃ u, w.cell? ⟨g, o + i * k + j, none⟩ = some u ∧ relK F w (f i j) u
  | .fp k f, v => ∃ g o, v = .pointer (some ⟨g, o, none⟩) ∧ F g ∧ ∀ j, j < k → ∃ u, w.cell? ⟨g, o + j, none⟩ = some u ∧ relK F w (f j) u
def relC (F : Nat → Prop) (ρ : Nat → Lc) (w : World) : C → Value → Prop
  | .ptr b o, v => v.oneCell' = true ∧ ((ρ b).v = 0 → ∃ g, (ρ b).g = some g ∧ v = .pointer (some ⟨g, o, none⟩))
  | .eptr b ver k i o, v => v.oneCell' = true ∧ ((ρ b).v = ver → ∃ g, (ρ b).g = some g ∧ v = .pointer (some ⟨g, i * k + o, none⟩))
  | .own b ver n, v => v.oneCell' = true ∧ ((ρ b).v = ver → (((ρ b).g = none ∧ n = 0 ∧ v = .slice none 0 0) ∨ ∃ g, (ρ b).g = some g ∧ v = .slice (some ⟨g, 0, none⟩) n (ρ b).cap))
  | c, v => relK F w c v
/-- Pairwise. -/
def All2 {α β : Type} (R : α → β → Prop) : List α → List β → Prop
  | [], [] => True
  | a :: l, b :: m => R a b ∧ All2 R l m
  | _, _ => False
theorem All2.mono {α β : Type} {R R' : α → β → Prop} : ∀ {l : List α} {m : List β}, (∀ a ∈ l, ∀ b, R a b → R' a b) → All2 R l m → All2 R' l m
  | [], [], _, _ => trivial
  | a :: l, b :: m, h, ⟨h1, h2⟩ => ⟨h a (List.mem_cons_self ..) b h1, All2.mono (fun a ha => h a (List.mem_cons_of_mem _ ha)) h2⟩
  | [], _ :: _, _, h => h.elim
  | _ :: _, [], _, h => h.elim
theorem All2.length {α β : Type} {R : α → β → Prop} : ∀ {l : List α} {m : List β}, All2 R l m → l.length = m.length
  | [], [], _ => rfl
  | a :: l, b :: m, ⟨_, h⟩ => by simp [All2.length h]
  | [], _ :: _, h => h.elim
  | _ :: _, [], h => h.elim
theorem All2.get {α β : Type} {R : α → β → Prop} : ∀ {l : List α} {m : List β}, All2 R l m → ∀ (i : Nat) a, l[i]? = some a → ∃ b, m[i]? = some b ∧ R a b
  | a :: l, b :: m, ⟨h, _⟩, 0, x, hx => ⟨b, rfl, by simp at hx; subst hx; exact h⟩
  | a :: l, b :: m, ⟨_, h⟩, i + 1, x, hx => by simpa using All2.get h i x (by simpa using hx)
  | [], [], _, i, x, hx => by simp at hx
  | [], _ :: _, h, _, _, _ => h.elim
  | _ :: _, [], h, _, _, _ => h.elim
theorem All2.get' {α β : Type} {R : α → β → Prop} : ∀ {l : List α} {m : List β}, All2 R l m → ∀ (i : Nat) b, m[i]? = some b → ∃ a, l[i]? = some a ∧ R a b
  | a :: l, b :: m, ⟨h, _⟩, 0, x, hx => ⟨a, rfl, by simp at hx; subst hx; exact h⟩
  | a :: l, b :: m, ⟨_, h⟩, i + 1, x, hx => by simpa using All2.get' h i x (by simpa using hx)
  | [], [], _, i, x, hx => by simp at hx
  | [], _ :: _, h, _, _, _ => h.elim
  | _ :: _, [], h, _, _, _ => h.elim
theorem All2.of {α β : Type} {R : α → β → Prop} : ∀ {l : List α} {m : List β}, l.length = m.length → (∀ (i : Nat) a b, l[i]? = some a → m[i]? = some b → R a b) → All2 R l m
  | [], [], _, _ => trivial
  | a :: l, b :: m, hl, h => ⟨h 0 a b rfl rfl, All2.of (by simpa using hl) fun i a b ha hb => h (i + 1) a b (by simpa using ha) (by simpa using hb)⟩
  | [], _ :: _, hl, _ => by simp at hl
  | _ :: _, [], hl, _ => by simp at hl
def relU1 (F : Nat → Prop) (ρ : Nat → Lc) (w : World) : U → Value → Prop
  | .one c, v => relC F ρ w c v
  | .agg l, v => ∃ vs : List Value, v = .agg vs.toArray ∧ All2 (relC F ρ w) l vs
  | .any, _ => True
  | .tup _, _ => False
def relU (F : Nat → Prop) (ρ : Nat → Lc) (w : World) : U → Value → Prop
  | .tup l, v => ∃ vs : List Value, v = .tuple vs.toArray ∧ All2 (relU1 F ρ w) l vs
  | u, v => relU1 F ρ w u v
/-- A block of the call's own in the world. -/
def blkRel (F : Nat → Prop) (ρ : Nat → Lc) (w : World) (b : Nat) : Blk → Prop
  | .obj cells => (ρ b).v = 0 ∧ ∃ (g : Nat) (e : TypeId) (cs : Array Value), (ρ b).g = some g ∧ w.heap[g]? = some (.cells cs e (0, 0)) ∧ ∀ (j : Nat) c, cells[j]? = some c → ∃ u, cs[j]? = some u ∧ relC F ρ w c u
  | .row e k ver rows => (ρ b).v = ver ∧ 0 < k ∧ (((ρ b).g = none ∧ rows = []) ∨
      ∃ (g : Nat) (cs : Array Value), (ρ b).g = some g ∧ w.heap[g]? = some (.cells cs e (0, 0)) ∧ cs.size = (ρ b).cap * k ∧ rows.length ≤ (ρ b).cap ∧ (ρ b).cap ≤ maxLen ∧
        ∀ (i : Nat) row, rows[i]? = some row → row.length = k ∧ ∀ (j : Nat) c, row[j]? = some c → ∃ u, cs[i * k + j]? = some u ∧ relC F ρ w c u)
/-- The names in a cell are there, at a version up to the block's. -/
def okC (h : Nat → Option Blk) : C → Prop
  | .ptr b _ => ∃ cells, h b = some (.obj cells)
  | .eptr b v _ _ _ => ∃ e k v' rows, h b = some (.row e k v' rows) ∧ v ≤ v'
  | .own b v _ => ∃ e k v' rows, h b = some (.row e k v' rows) ∧ v ≤ v'
  | _ => True
def okU1 (h : Nat → Option Blk) : U → Prop
  | .one c => okC h c
  | .agg l => ∀ c ∈ l, okC h c
  | _ => True
def okU (h : Nat → Option Blk) : U → Prop
  | .tup l => ∀ u ∈ l, okU1 h u
  | u => okU1 h u
def okBlk (h : Nat → Option Blk) : Blk → Prop
  | .obj cells => ∀ c ∈ cells, okC h c
  | .row _ _ _ rows => ∀ row ∈ rows, ∀ c ∈ row, okC h c
/-- A heap of named blocks in the world. -/
structure HRel (F : Nat → Prop) (ρ : Nat → Lc) (h : Nat → Option Blk) (w : World) : Prop where
  blk : ∀ b x, h b = some x → blkRel F ρ w b x
  inj : ∀ b b' g, h b ≠ none → h b' ≠ none → (ρ b).g = some g → (ρ b').g = some g → b = b'
  notF : ∀ b g, h b ≠ none → (ρ b).g = some g → ¬ F g
  lt : ∀ k, F k → k < w.heap.size
  ok : ∀ b x, h b = some x → okBlk h x
  gl : ∀ g c, glob g = some c → relK F w c (.pointer (some ⟨g, 0, none⟩))
  gx : ∀ g p, globX g = some p → F g ∧ ∃ cs t fz, p cs ∧ w.heap[g]? = some (.cells cs t fz)
/-- What a call began with: the world, what turned no more then, where the names lay, the names handed to it; how many slots it has. -/
structure Env where
  w0 : World
  F0 : Nat → Prop
  ρ0 : Nat → Lc
  d : List Nat
  n : Nat
/-- The blocks handed in. -/
def Env.pas (E : Env) (k : Nat) : Prop := ∃ b ∈ E.d, (E.ρ0 b).g = some k
structure SimR (E : Env) (F : Nat → Prop) (ρ : Nat → Lc) (s : St) (a : Act) (w : World) : Prop where
  rel : ∀ x, relU F ρ w (s.t x) (a.tmps.getD x undef)
  heap : HRel F ρ s.h w
  okt : ∀ x, okU s.h (s.t x)
  own : ∀ b g, s.h b ≠ none → (ρ b).g = some g → E.w0.heap.size ≤ g ∨ E.pas g
  F0 : ∀ k, E.F0 k → F k
  Fnew : ∀ k, F k → E.F0 k ∨ E.w0.heap.size ≤ k ∨ E.pas k
  os : w.os = E.w0.os
  tape : w.tape = E.w0.tape
  output : w.output = E.w0.output
  size : E.w0.heap.size ≤ w.heap.size
  kept : ∀ k, k < E.w0.heap.size → ¬ E.pas k → w.heap[k]? = E.w0.heap[k]?
  stab : ∀ b ∈ E.d, ρ b = E.ρ0 b ∨ (E.ρ0 b).v < (ρ b).v
  d : s.d = E.d
  tmps : a.tmps.size = E.n
  defers : a.defers = []
def Sim (E : Env) (s : St) (a : Act) (w : World) : Prop := ∃ F ρ, SimR E F ρ s a w
end Go.Proofs.YtnflnbdlgdjfmaaDoor
namespace Go.Proofs.YtnflnbdlgdjfmaaDoor
open Go.RowKit
set_option linter.unusedVariables false
set_option linter.unusedSimpArgs false
theorem cell_same {w w' : World} {g o : Nat} (h : w'.heap[g]? = w.heap[g]?) : w'.cell? ⟨g, o, none⟩ = w.cell? ⟨g, o, none⟩ := World.cell?_of_block (w := w) (a := ⟨g, o, none⟩) h
theorem relK_one {F : Nat → Prop} {w : World} {c : C} {v : Value} (h : relK F w c v) : v.oneCell' = true := by
  cases c <;> simp only [relK] at h <;> first | exact h | (subst h; rfl) | exact h.elim | (obtain ⟨_, _, rfl, _⟩ := h; rfl) | (obtain ⟨_, rfl, _⟩ := h; rfl)
theorem relC_one {F : Nat → Prop} {ρ : Nat → Lc} {w : World} {c : C} {v : Value} (h : relC F ρ w c v) : v.oneCell' = true := by
  cases c <;> first | exact h.1 | exact relK_one h
theorem relK_mono {F F' : Nat → Prop} {w w' : World} (hF : ∀ k, F k → F' k) (hw : ∀ k, F k → w'.heap[k]? = w.heap[k]?) : ∀ {c : C} {v : Value}, relK F w c v → relK F' w' c v := by
  intro c
  induction c with
  | sl n k f ih =>
    rintro v ⟨a, cap, hv, h0, hm, h⟩
    refine ⟨a, cap, hv, h0, hm, fun i hi => ?_⟩
    obtain ⟨g, o, ha, hg, hj⟩ := h i hi
    refine ⟨g, o, ha, hF g hg, fun j hj' => ?_⟩
    obtain ⟨u, hu, hr⟩ := hj j hj'
    exact ⟨u, (cell_same (hw g hg)).trans hu, ih i j hr⟩
  | slF n k f ih =>
    rintro v ⟨a, hv, hm, h⟩
    refine ⟨a, hv, hm, fun i hi => ?_⟩
    obtain ⟨g, o, ha, hg, hj⟩ := h i hi
    refine ⟨g, o, ha, hF g hg, fun j hj' => ?_⟩
    obtain ⟨u, hu, hr⟩ := hj j hj'
    exact ⟨u, (cell_same (hw g hg)).trans hu, ih i j hr⟩
  | fp k f ih =>
    rintro v ⟨g, o, hv, hg, h⟩
    refine ⟨g, o, hv, hF g hg, fun j hj => ?_⟩
    obtain ⟨u, hu, hr⟩ := h j hj
    exact ⟨u, (cell_same (hw g hg)).trans hu, ih j hr⟩
  | _ => exact fun h => h
/-- A version of a block. -/
def verOf : Blk → Nat | .obj _ => 0 | .row _ _ v _ => v
/-- A block has turned into a later one of itself. -/
def leB : Blk → Blk → Prop
  | .obj _, .obj _ => True
  | .row _ _ v _, .row _ _ v' _ => v ≤ v'
  | _, _ => False
theorem leB_refl (x : Blk) : leB x x := by cases x <;> simp [leB]
theorem HRel.ver {F : Nat → Prop} {ρ : Nat → Lc} {h : Nat → Option Blk} {w : World} (H : HRel F ρ h w) {b : Nat} {x : Blk} (hb : h b = some x) : (ρ b).v = verOf x := by
  have := H.blk b x hb
  cases x <;> exact this.1
theorem relC_move {F F' : Nat → Prop} {ρ ρ' : Nat → Lc} {h : Nat → Option Blk} {w w' : World} (H : HRel F ρ h w) (hF : ∀ k, F k → F' k) (hw : ∀ k, F k → w'.heap[k]? = w.heap[k]?)
    (hs : ∀ b, h b ≠ none → ρ' b = ρ b ∨ (ρ b).v < (ρ' b).v) {c : C} {v : Value} (hok : okC h c) (hr : relC F ρ w c v) : relC F' ρ' w' c v := by
  cases c with
  | ptr b o =>
    obtain ⟨cells, hb⟩ := hok
    have hv := H.ver hb
    refine ⟨hr.1, fun h0 => ?_⟩
    rcases hs b (by rw [hb]; simp) with he | hlt
    · rw [he] at h0 ⊢; exact hr.2 h0
    · omega
  | eptr b ver k i o =>
    obtain ⟨e, k', v', rows, hb, hle⟩ := hok
    have hv : (ρ b).v = v' := H.ver hb
    refine ⟨hr.1, fun h0 => ?_⟩
    rcases hs b (by rw [hb]; simp) with he | hlt
    · rw [he] at h0 ⊢; exact hr.2 h0
    · omega
  | own b ver n =>
    obtain ⟨e, k', v', rows, hb, hle⟩ := hok
    have hv : (ρ b).v = v' := H.ver hb
    refine ⟨hr.1, fun h0 => ?_⟩
    rcases hs b (by rw [hb]; simp) with he | hlt
    · rw [he] at h0 ⊢; exact hr.2 h0
    · omega
  | _ => exact relK_mono hF hw hr
theorem relU1_move {F F' : Nat → Prop} {ρ ρ' : Nat → Lc} {h : Nat → Option Blk} {w w' : World} (H : HRel F ρ h w) (hF : ∀ k, F k → F' k) (hw : ∀ k, F k → w'.heap[k]? = w.heap[k]?)
    (hs : ∀ b, h b ≠ none → ρ' b = ρ b ∨ (ρ b).v < (ρ' b).v) {c : U} {v : Value} (hok : okU1 h c) (hr : relU1 F ρ w c v) : relU1 F' ρ' w' c v := by
  cases c with
  | any => trivial
  | one c => exact relC_move H hF hw hs hok hr
  | agg l =>
    obtain ⟨vs, hv, ha⟩ := hr
    exact ⟨vs, hv, ha.mono fun c hc v => relC_move H hF hw hs (hok c hc)⟩
  | tup l => exact hr.elim
theorem relU_move {F F' : Nat → Prop} {ρ ρ' : Nat → Lc} {h : Nat → Option Blk} {w w' : World} (H : HRel F ρ h w) (hF : ∀ k, F k → F' k) (hw : ∀ k, F k → w'.heap[k]? = w.heap[k]?)
    (hs : ∀ b, h b ≠ none → ρ' b = ρ b ∨ (ρ b).v < (ρ' b).v) {c : U} {v : Value} (hok : okU h c) (hr : relU F ρ w c v) : relU F' ρ' w' c v := by
  cases c with
  | tup l =>
    obtain ⟨vs, hv, ha⟩ := hr
    exact ⟨vs, hv, ha.mono fun c hc v => relU1_move H hF hw hs (hok c hc)⟩
  | any => trivial
  | one c => exact relC_move H hF hw hs hok hr
  | agg l =>
    obtain ⟨vs, hv, ha⟩ := hr
    exact ⟨vs, hv, ha.mono fun c hc v => relC_move H hF hw hs (hok c hc)⟩
theorem okC_move {h h' : Nat → Option Blk} (hl : ∀ b x, h b = some x → ∃ x', h' b = some x' ∧ leB x x') {c : C} (hok : okC h c) : okC h' c := by
  cases c with
  | ptr b o =>
    obtain ⟨cells, hb⟩ := hok
    obtain ⟨x', hx, hle⟩ := hl b _ hb
    cases x' with
    | obj c' => exact ⟨c', hx⟩
    | row => exact hle.elim
  | eptr b ver k i o =>
    obtain ⟨e, k', v', rows, hb, hle⟩ := hok
    obtain ⟨x', hx, hle'⟩ := hl b _ hb
    cases x' with
    | obj c' => exact hle'.elim
    | row e2 k2 v2 r2 => exact ⟨e2, k2, v2, r2, hx, Nat.le_trans hle hle'⟩
  | own b ver n =>
    obtain ⟨e, k', v', rows, hb, hle⟩ := hok
    obtain ⟨x', hx, hle'⟩ := hl b _ hb
    cases x' with
    | obj c' => exact hle'.elim
    | row e2 k2 v2 r2 => exact ⟨e2, k2, v2, r2, hx, Nat.le_trans hle hle'⟩
  | _ => trivial
theorem okU1_move {h h' : Nat → Option Blk} (hl : ∀ b x, h b = some x → ∃ x', h' b = some x' ∧ leB x x') {c : U} (hok : okU1 h c) : okU1 h' c := by
  cases c with
  | one c => exact okC_move hl hok
  | agg l => exact fun c hc => okC_move hl (hok c hc)
  | _ => trivial
theorem okU_move {h h' : Nat → Option Blk} (hl : ∀ b x, h b = some x → ∃ x', h' b = some x' ∧ leB x x') {c : U} (hok : okU h c) : okU h' c := by
  cases c with
  | tup l => exact fun u hu => okU1_move hl (hok u hu)
  | one c => exact okC_move hl hok
  | agg l => exact fun c hc => okC_move hl (hok c hc)
  | any => trivial
/-- A world moves on, and what is named in it. -/
structure Moves (d : List Nat) (F : Nat → Prop) (ρ : Nat → Lc) (h : Nat → Option Blk) (w : World) (F' : Nat → Prop) (ρ' : Nat → Lc) (h' : Nat → Option Blk) (w' : World) : Prop where
  sub : ∀ k, F k → F' k
  same : ∀ k, F k → w'.heap[k]? = w.heap[k]?
  stb : ∀ b, h b ≠ none → ρ' b = ρ b ∨ (ρ b).v < (ρ' b).v
  stbd : ∀ b ∈ d, ρ' b = ρ b ∨ (ρ b).v < (ρ' b).v
  heap : HRel F' ρ' h' w'
  le : ∀ b x, h b = some x → ∃ x', h' b = some x' ∧ leB x x'
  own : ∀ b g, h' b ≠ none → (ρ' b).g = some g → (∃ b0, h b0 ≠ none ∧ (ρ b0).g = some g) ∨ w.heap.size ≤ g
  Fnew : ∀ k, F' k → F k ∨ w.heap.size ≤ k ∨ ∃ b, h b ≠ none ∧ (ρ b).g = some k
  os : w'.os = w.os
  tape : w'.tape = w.tape
  output : w'.output = w.output
  size : w.heap.size ≤ w'.heap.size
  kept : ∀ k, k < w.heap.size → (∀ b, h b ≠ none → (ρ b).g ≠ some k) → w'.heap[k]? = w.heap[k]?
theorem SimR.move {E : Env} {F F' : Nat → Prop} {ρ ρ' : Nat → Lc} {s : St} {a a' : Act} {w w' : World} {h' : Nat → Option Blk} (S : SimR E F ρ s a w) (M : Moves s.d F ρ s.h w F' ρ' h' w')
    {t' : Nat → U} (ht : ∀ x, (t' x = s.t x ∧ a'.tmps.getD x undef = a.tmps.getD x undef) ∨ (relU F' ρ' w' (t' x) (a'.tmps.getD x undef) ∧ okU h' (t' x))) (hsz : a'.tmps.size = a.tmps.size) (hd : a'.defers = a.defers) :
    SimR E F' ρ' ⟨t', h', s.d⟩ a' w' where
  rel x := by
    rcases ht x with ⟨h1, h2⟩ | h
    · show relU F' ρ' w' (t' x) _
      rw [h1, h2]; exact relU_move S.heap M.sub M.same M.stb (S.okt x) (S.rel x)
    · exact h.1
  heap := M.heap
  okt x := by
    rcases ht x with ⟨h1, h2⟩ | h
    · show okU h' (t' x)
      rw [h1]; exact okU_move M.le (S.okt x)
    · exact h.2
  own b g hb hg := by
    rcases M.own b g hb hg with ⟨b0, h1, h2⟩ | h
    · exact S.own b0 g h1 h2
    · exact .inl (Nat.le_trans S.size h)
  F0 k hk := M.sub k (S.F0 k hk)
  Fnew k hk := by
    rcases M.Fnew k hk with h | h | ⟨b, hb, hg⟩
    · exact S.Fnew k h
    · exact .inr (.inl (Nat.le_trans S.size h))
    · exact .inr (S.own b k hb hg)
  os := M.os.trans S.os
  tape := M.tape.trans S.tape
  output := M.output.trans S.output
  size := Nat.le_trans S.size M.size
  kept k hk hp := by
    rw [M.kept k (Nat.lt_of_lt_of_le hk S.size) fun b hb hg => ?_]
    · exact S.kept k hk hp
    · rcases S.own b k hb hg with h | h
      · omega
      · exact hp h
  stab b hb := by
    have hbd : b ∈ s.d := by rw [S.d]; exact hb
    rcases M.stbd b hbd with h1 | h1 <;> rcases S.stab b hb with h2 | h2
    · exact .inl (h1.trans h2)
    · exact .inr (by rw [h1]; exact h2)
    · exact .inr (by rw [← h2]; exact h1)
    · exact .inr (Nat.lt_trans h2 h1)
  d := S.d
  tmps := hsz.trans S.tmps
  defers := hd.trans S.defers
theorem put_size (a : Act) (d : Option Tmp) (v : Value) : (a.put d v).tmps.size = a.tmps.size := by cases d <;> simp [Act.put]
theorem put_defers (a : Act) (d : Option Tmp) (v : Value) : (a.put d v).defers = a.defers := by cases d <;> simp [Act.put]
/-- One slot is written. -/
theorem SimR.put {E : Env} {F F' : Nat → Prop} {ρ ρ' : Nat → Lc} {s : St} {a : Act} {w w' : World} {h' : Nat → Option Blk} (S : SimR E F ρ s a w) (M : Moves s.d F ρ s.h w F' ρ' h' w') {d : Option Tmp} (hd : ∀ x, d = some x → x < E.n)
    {v : U} {u : Value} (hr : relU F' ρ' w' v u) (hok : okU h' v) : SimR E F' ρ' ⟨updD s.t d v, h', s.d⟩ (a.put d u) w' := by
  refine S.move M (fun x => ?_) (put_size ..) (put_defers ..)
  cases d with
  | none => exact .inl ⟨rfl, rfl⟩
  | some y =>
    by_cases hxy : x = y
    · subst hxy
      refine .inr ?_
      have h1 : updD s.t (some x) v x = v := upd_same ..
      have h2 : (a.put (some x) u).tmps.getD x undef = u := by
        have := hd x rfl
        rw [← S.tmps] at this
        simp [Act.put, this]
      rw [h1, h2]
      exact ⟨hr, hok⟩
    · refine .inl ⟨upd_ne _ _ hxy, ?_⟩
      simp only [Act.put, Array.getD_eq_getD_getElem?, Array.getElem?_setIfInBounds_ne (Ne.symm hxy)]
/-- The patches of a step. -/
def applyP : List (Nat × Option Blk) → (Nat → Option Blk) → Nat → Option Blk
  | [], h => h
  | (b, x) :: p, h => applyP p (upd h b x)
def namesP (p : List (Nat × Option Blk)) : List Nat := p.map (·.1)
theorem applyP_not : ∀ (p : List (Nat × Option Blk)) (h : Nat → Option Blk) (b : Nat), b ∉ namesP p → applyP p h b = h b
  | [], _, _, _ => rfl
  | (c, x) :: p, h, b, hb => by
    simp only [namesP, List.map_cons, List.mem_cons, not_or] at hb
    rw [applyP, applyP_not p _ b hb.2, upd_ne _ _ hb.1]
theorem applyP_congr : ∀ (p : List (Nat × Option Blk)) (h h' : Nat → Option Blk) (b : Nat), (b ∉ namesP p → h b = h' b) → applyP p h b = applyP p h' b
  | [], h, h', b, he => he (by simp [namesP])
  | (c, x) :: p, h, h', b, he => by
    rw [applyP, applyP]
    refine applyP_congr p _ _ b fun hb => ?_
    by_cases hbc : b = c
    · subst hbc; rw [upd_same, upd_same]
    · rw [upd_ne _ _ hbc, upd_ne _ _ hbc]
      exact he (by simp only [namesP, List.map_cons, List.mem_cons, not_or]; exact ⟨hbc, hb⟩)
theorem applyP_comm (p q : List (Nat × Option Blk)) (h : Nat → Option Blk) (hd : ∀ b ∈ namesP p, b ∉ namesP q) : applyP p (applyP q h) = applyP q (applyP p h) := by
  funext b
  by_cases hp : b ∈ namesP p
  · rw [applyP_not q _ b (hd b hp)]
    exact applyP_congr p _ _ b fun hn => absurd hp hn
  · rw [applyP_not p _ b hp]
    refine applyP_congr q _ _ b fun hq => ?_
    rw [applyP_not p _ b hp]
def Oper.reads (o : Oper) : List Nat := o.op.operands.toList.filterMap fun | .tmp t => some t | _ => none
/-- What one operation does, seen from the slots that it reads and the blocks that it looks at (R) or turns (p). -/
def LocOp (P : Program) (o : Oper) (s : St) (R : List Nat) (p : List (Nat × Option Blk)) (v : U) : Prop :=
  ∀ (F : Nat → Prop) (ρ : Nat → Lc) (h : Nat → Option Blk) (w : World) (a : Act) (Q : Exit → Act → World → Prop), HRel F ρ h w → (∀ b, b ∈ R ∨ b ∈ namesP p → h b = s.h b) →
    (∀ x ∈ Oper.reads o, relU F ρ w (s.t x) (a.tmps.getD x undef) ∧ okU h (s.t x)) →
    o.wp P a w (fun a' w' => ∃ u F' ρ', a' = a.put o.dst u ∧ Moves s.d F ρ h w F' ρ' (applyP p h) w' ∧ relU F' ρ' w' v u ∧ okU (applyP p h) v) Q
theorem LocOp.congr {P : Program} {o : Oper} {s s' : St} {R : List Nat} {p : List (Nat × Option Blk)} {v : U} (H : LocOp P o s R p v) (ht : ∀ x ∈ Oper.reads o, s'.t x = s.t x) (hh : ∀ b, b ∈ R ∨ b ∈ namesP p → s'.h b = s.h b) (hd : s'.d = s.d) :
    LocOp P o s' R p v := by
  intro F ρ h w a Q hH hb hx
  rw [hd]
  exact H F ρ h w a Q hH (fun b hb' => (hb b hb').trans (hh b hb')) fun x hx' => by rw [← ht x hx']; exact hx x hx'
/-- Is the operation carried out? -/
def GuardU (ops : Array Oper) (o : Oper) (t : Nat → U) (b : Bool) : Prop :=
  match o.guard with
  | none => b = true
  | some (g, want) => (∃ s x, (ops[g]?).bind (·.dst) = some s ∧ t s = .one (.bool x) ∧ (x == want) = b) ∨ (b = false ∧ ∃ s, (ops[g]?).bind (·.dst) = some s ∧ t s = .tup [])
def guardSlot (ops : Array Oper) (o : Oper) : List Nat :=
  match o.guard with
  | none => []
  | some (g, _) => ((ops[g]?).bind (·.dst)).toList
/-- Operation i, as a step of states. -/
def StepAt (P : Program) (ops : Array Oper) (foot : List (List Nat × List Nat)) (i : Nat) (s s' : St) : Prop :=
  ∃ o, ops[i]? = some o ∧
    ((GuardU ops o s.t true ∧ ∃ p v, LocOp P o s (foot.getD i ([], [])).1 p v ∧ namesP p = (foot.getD i ([], [])).2 ∧ s' = ⟨updD s.t o.dst v, applyP p s.h, s.d⟩) ∨
     (GuardU ops o s.t false ∧ s' = ⟨updD s.t o.dst (.tup []), s.h, s.d⟩))
theorem wanted_sim {E : Env} {s : St} {a : Act} {w : World} {ops : Array Oper} {o : Oper} {b : Bool} (S : Sim E s a w) (hg : GuardU ops o s.t b) : Region.wanted o (yielded ops a.tmps) = b := by
  obtain ⟨F, ρ, S⟩ := S
  unfold GuardU at hg
  unfold Region.wanted
  cases ho : o.guard with
  | none => rw [ho] at hg; exact hg.symm
  | some gw =>
    obtain ⟨g, want⟩ := gw
    rw [ho] at hg
    rcases hg with ⟨sl, x, hs, hx, hb⟩ | ⟨rfl, sl, hs, hx⟩
    · have hv := S.rel sl
      rw [hx] at hv
      have hv' : a.tmps.getD sl undef = .bool x := hv
      have hy : yielded ops a.tmps g = some x := by
        unfold yielded
        rw [hs]
        simp only [Option.bind_some]
        rw [Array.getD_eq_getD_getElem?] at hv'
        cases h : a.tmps[sl]? with
        | none => rw [h] at hv'; cases hv'
        | some y =>
          rw [h] at hv'
          simp only [Option.getD_some] at hv'
          rw [hv']
      simp only [hy]
      rw [← hb]
      cases x <;> cases want <;> rfl
    · have hv := S.rel sl
      rw [hx] at hv
      obtain ⟨vs, hv', ha⟩ := hv
      have hvs : vs = [] := by
        cases vs with
        | nil => rfl
        | cons => exact ha.elim
      subst hvs
      have hy : yielded ops a.tmps g = none := by
        unfold yielded
        rw [hs]
        simp only [Option.bind_some]
        rw [Array.getD_eq_getD_getElem?] at hv'
        cases h : a.tmps[sl]? with
        | none => rfl
        | some y =>
          rw [h] at hv'
          simp only [Option.getD_some] at hv'
          rw [hv']
      simp only [hy]
      rfl
def dstOk (ops : Array Oper) (n : Nat) : Bool := ops.all fun o => match o.dst with | some d => decide (d < n) | none => true
theorem dstOk_spec {ops : Array Oper} {n i : Nat} {o : Oper} (h : dstOk ops n = true) (ho : ops[i]? = some o) : ∀ d, o.dst = some d → d < n := by
  intro d hd
  have h1 : o ∈ ops := Array.mem_of_getElem? ho
  have h2 := Array.all_eq_true'.1 h o h1
  rw [hd] at h2
  simpa using h2
theorem HRel.refl_moves {d : List Nat} {F : Nat → Prop} {ρ : Nat → Lc} {h : Nat → Option Blk} {w : World} (H : HRel F ρ h w) : Moves d F ρ h w F ρ h w :=
  ⟨fun _ h => h, fun _ _ => rfl, fun _ _ => .inl rfl, fun _ _ => .inl rfl, H, fun b x hb => ⟨x, hb, leB_refl x⟩, fun b g hb hg => .inl ⟨b, hb, hg⟩, fun _ h => .inl h, rfl, rfl, rfl, Nat.le_refl _, fun _ _ _ => rfl⟩
theorem sim_step {P : Program} {ops : Array Oper} {foot : List (List Nat × List Nat)} {E : Env} (hdst : dstOk ops E.n = true) {Q : Exit → Act → World → Prop} (i : Nat) (s s' : St) (a : Act) (w : World) (S : Sim E s a w) (hs : StepAt P ops foot i s s') :
    wpOp P ops Q i (Sim E s') a w := by
  obtain ⟨o, ho, hs⟩ := hs
  unfold wpOp
  simp only [ho]
  rcases hs with ⟨hg, p, v, hl, _, rfl⟩ | ⟨hg, rfl⟩
  · rw [if_pos (wanted_sim S hg)]
    obtain ⟨F, ρ, S⟩ := S
    refine .inl (Oper.wp_mono (fun a' w' hh => ?_) (hl F ρ s.h w a Q S.heap (fun _ _ => rfl) fun x _ => ⟨S.rel x, S.okt x⟩))
    obtain ⟨u, F', ρ', rfl, hm, hr, hok⟩ := hh
    exact ⟨F', ρ', S.put hm (dstOk_spec hdst ho) hr hok⟩
  · rw [if_neg (by rw [wanted_sim S hg]; simp)]
    obtain ⟨F, ρ, S⟩ := S
    exact ⟨F, ρ, S.put S.heap.refl_moves (dstOk_spec hdst ho) ⟨[], rfl, trivial⟩ (fun u hu => by cases hu)⟩
def disj (l m : List Nat) : Bool := l.all fun x => !m.contains x
theorem disj_spec {l m : List Nat} (h : disj l m = true) : ∀ x ∈ l, x ∉ m := by
  intro x hx
  have := List.all_eq_true.1 h x hx
  simpa using this
/-- Two operations may be swapped. -/
def apartB (ops : Array Oper) (foot : List (List Nat × List Nat)) (i j : Nat) : Bool :=
  match ops[i]?, ops[j]? with
  | some oi, some oj =>
    let fi := foot.getD i ([], [])
    let fj := foot.getD j ([], [])
    disj fi.2 (fj.1 ++ fj.2) && disj fj.2 (fi.1 ++ fi.2) && disj oi.dst.toList (Oper.reads oj ++ guardSlot ops oj ++ oj.dst.toList) && disj oj.dst.toList (Oper.reads oi ++ guardSlot ops oi ++ oi.dst.toList)
  | _, _ => true
def okSwap (ops : Array Oper) (foot : List (List Nat × List Nat)) : Bool :=
  let ms := masks ops.toList []
  (List.range ops.size).all fun j => (List.range j).all fun i => (ms.getD j 0).testBit i || apartB ops foot i j
theorem guardU_congr {ops : Array Oper} {o : Oper} {t t' : Nat → U} {b : Bool} (h : GuardU ops o t b) (ht : ∀ x ∈ guardSlot ops o, t' x = t x) : GuardU ops o t' b := by
  unfold GuardU at *
  unfold guardSlot at ht
  cases hg : o.guard with
  | none => rw [hg] at h; exact h
  | some gw =>
    obtain ⟨g, want⟩ := gw
    rw [hg] at h ht
    rcases h with ⟨s, x, hs, hx, hb⟩ | ⟨hb, s, hs, hx⟩
    · exact .inl ⟨s, x, hs, by rw [ht s (by simp [hs])]; exact hx, hb⟩
    · exact .inr ⟨hb, s, hs, by rw [ht s (by simp [hs])]; exact hx⟩
theorem updD_not {α : Type} {t : Nat → α} {d : Option Nat} {v : α} {x : Nat} (h : x ∉ d.toList) : updD t d v x = t x := by
  cases d with
  | none => rfl
  | some y => exact upd_ne _ _ (by simpa using h)
theorem updD_comm {α : Type} {t : Nat → α} {d e : Option Nat} {v u : α} (h : ∀ x ∈ d.toList, x ∉ e.toList) : updD (updD t d v) e u = updD (updD t e u) d v := by
  cases d with
  | none => rfl
  | some x =>
    cases e with
    | none => rfl
    | some y =>
      have hxy : x ≠ y := by simpa using h x (by simp)
      funext z
      show upd (upd t x v) y u z = upd (upd t y u) x v z
      by_cases h1 : z = y
      · subst h1; rw [upd_same, upd_ne _ _ (Ne.symm hxy), upd_same]
      · rw [upd_ne _ _ h1]
        by_cases h2 : z = x
        · subst h2; rw [upd_same, upd_same]
        · rw [upd_ne _ _ h2, upd_ne _ _ h2, upd_ne _ _ h1]
theorem step_swap {P : Program} {ops : Array Oper} {foot : List (List Nat × List Nat)} (hok : okSwap ops foot = true) (i j : Nat) (s s1 s2 : St) (hij : i < j) (hj : j < ops.size) (hno : ¬ behind ops j i = true)
    (h1 : StepAt P ops foot i s s1) (h2 : StepAt P ops foot j s1 s2) : ∃ s1', StepAt P ops foot j s s1' ∧ StepAt P ops foot i s1' s2 := by
  have hap : apartB ops foot i j = true := by
    have h3 := List.all_eq_true.1 (List.all_eq_true.1 hok j (List.mem_range.2 hj)) i (List.mem_range.2 hij)
    rcases Bool.or_eq_true_iff.1 h3 with h4 | h4
    · exact absurd h4 hno
    · exact h4
  obtain ⟨oi, hoi, h1⟩ := h1
  obtain ⟨oj, hoj, h2⟩ := h2
  unfold apartB at hap
  rw [hoi, hoj] at hap
  simp only [Bool.and_eq_true] at hap
  obtain ⟨⟨⟨a1, a2⟩, a3⟩, a4⟩ := hap
  have a1 := disj_spec a1
  have a2 := disj_spec a2
  have a3 := disj_spec a3
  have a4 := disj_spec a4
  -- slots that j reads are not written by i, and the other way round
  have r1 : ∀ (v : U) x, x ∈ Oper.reads oj ∨ x ∈ guardSlot ops oj → updD s.t oi.dst v x = s.t x := fun v x hx => updD_not fun hm => a3 x hm (by simp only [List.mem_append]; rcases hx with h | h <;> simp [h])
  have r2 : ∀ (v : U) x, x ∈ Oper.reads oi ∨ x ∈ guardSlot ops oi → updD s.t oj.dst v x = s.t x := fun v x hx => updD_not fun hm => a4 x hm (by simp only [List.mem_append]; rcases hx with h | h <;> simp [h])
  have hcomm : ∀ (v u : U), updD (updD s.t oi.dst v) oj.dst u = updD (updD s.t oj.dst u) oi.dst v := fun v u => updD_comm fun x hx hm => a3 x hx (by simp only [List.mem_append]; exact .inr hm)
  rcases h1 with ⟨g1, p1, v1, l1, n1, rfl⟩ | ⟨g1, rfl⟩ <;> rcases h2 with ⟨g2, p2, v2, l2, n2, rfl⟩ | ⟨g2, rfl⟩
  · have b1 : ∀ b, b ∈ (foot.getD j ([], [])).1 ∨ b ∈ namesP p2 → applyP p1 s.h b = s.h b := fun b hb => applyP_not _ _ _ fun hm => a1 b (n1 ▸ hm) (by
      rw [List.mem_append]
      rcases hb with h | h
      · exact .inl h
      · exact .inr (n2 ▸ h))
    have b2 : ∀ b, b ∈ (foot.getD i ([], [])).1 ∨ b ∈ namesP p1 → applyP p2 s.h b = s.h b := fun b hb => applyP_not _ _ _ fun hm => a2 b (n2 ▸ hm) (by
      rw [List.mem_append]
      rcases hb with h | h
      · exact .inl h
      · exact .inr (n1 ▸ h))
    refine ⟨⟨updD s.t oj.dst v2, applyP p2 s.h, s.d⟩, ⟨oj, hoj, .inl ⟨guardU_congr g2 fun x hx => (r1 v1 x (.inr hx)).symm, p2, v2, l2.congr (fun x hx => (r1 v1 x (.inl hx)).symm) (fun b hb => (b1 b hb).symm) rfl, n2, rfl⟩⟩,
      ⟨oi, hoi, .inl ⟨guardU_congr g1 fun x hx => r2 v2 x (.inr hx), p1, v1, l1.congr (fun x hx => r2 v2 x (.inl hx)) (fun b hb => b2 b hb) rfl, n1, ?_⟩⟩⟩
    simp only [hcomm]
    rw [applyP_comm p2 p1 s.h fun b hb hb' => a2 b (n2 ▸ hb) (by rw [List.mem_append]; exact .inr (n1 ▸ hb'))]
  · refine ⟨⟨updD s.t oj.dst (.tup []), s.h, s.d⟩, ⟨oj, hoj, .inr ⟨guardU_congr g2 fun x hx => (r1 v1 x (.inr hx)).symm, rfl⟩⟩,
      ⟨oi, hoi, .inl ⟨guardU_congr g1 fun x hx => r2 (.tup []) x (.inr hx), p1, v1, l1.congr (fun x hx => r2 (.tup []) x (.inl hx)) (fun b hb => rfl) rfl, n1, ?_⟩⟩⟩
    simp only [hcomm]
  · refine ⟨⟨updD s.t oj.dst v2, applyP p2 s.h, s.d⟩, ⟨oj, hoj, .inl ⟨guardU_congr g2 fun x hx => (r1 (.tup []) x (.inr hx)).symm, p2, v2, l2.congr (fun x hx => (r1 (.tup []) x (.inl hx)).symm) (fun b hb => rfl) rfl, n2, rfl⟩⟩,
      ⟨oi, hoi, .inr ⟨guardU_congr g1 fun x hx => r2 v2 x (.inr hx), ?_⟩⟩⟩
    simp only [hcomm]
  · refine ⟨⟨updD s.t oj.dst (.tup []), s.h, s.d⟩, ⟨oj, hoj, .inr ⟨guardU_congr g2 fun x hx => (r1 (.tup []) x (.inr hx)).symm, rfl⟩⟩,
      ⟨oi, hoi, .inr ⟨guardU_congr g1 fun x hx => r2 (.tup []) x (.inr hx), ?_⟩⟩⟩
    simp only [hcomm]
theorem blkRel_heap {F : Nat → Prop} {ρ : Nat → Lc} {w w' : World} (he : w'.heap = w.heap) {b : Nat} {x : Blk} (h : blkRel F ρ w b x) : blkRel F ρ w' b x := by
  have hc : ∀ {c : C} {v : Value}, relC F ρ w c v → relC F ρ w' c v := fun {c v} hr => by
    cases c <;> first | exact hr | exact relK_mono (fun _ h => h) (fun k _ => by rw [he]) hr
  cases x with
  | obj cells =>
    obtain ⟨hv, g, e, cs, hg, hh, hj⟩ := h
    exact ⟨hv, g, e, cs, hg, by rw [he]; exact hh, fun j c hc' => let ⟨u, hu, hr⟩ := hj j c hc'; ⟨u, hu, hc hr⟩⟩
  | row e k ver rows =>
    obtain ⟨hv, hk, h⟩ := h
    refine ⟨hv, hk, h.imp id ?_⟩
    rintro ⟨g, cs, hg, hh, h1, h2, h3, hj⟩
    exact ⟨g, cs, hg, by rw [he]; exact hh, h1, h2, h3, fun i row hrow => ⟨(hj i row hrow).1, fun j c hc' => let ⟨u, hu, hr⟩ := (hj i row hrow).2 j c hc'; ⟨u, hu, hc hr⟩⟩⟩
theorem Sim.drew {E : Env} {s : St} {a : Act} {w : World} (S : Sim E s a w) : Sim E s a { w with drawn := w.drawn + 1 } := by
  obtain ⟨F, ρ, S⟩ := S
  refine ⟨F, ρ, S.move (h' := s.h) (w' := { w with drawn := w.drawn + 1 }) ⟨fun _ h => h, fun _ _ => rfl, fun _ _ => .inl rfl, fun _ _ => .inl rfl, ?_, fun b x hb => ⟨x, hb, leB_refl x⟩, fun b g hb hg => .inl ⟨b, hb, hg⟩, fun _ h => .inl h, rfl, rfl, rfl, Nat.le_refl _, fun _ _ _ => rfl⟩ (fun x => .inl ⟨rfl, rfl⟩) rfl rfl⟩
  exact ⟨fun b x hb => blkRel_heap (w := w) (w' := { w with drawn := w.drawn + 1 }) rfl (S.heap.blk b x hb), S.heap.inj, S.heap.notF, S.heap.lt, S.heap.ok, fun g c hg => relK_mono (w := w) (w' := { w with drawn := w.drawn + 1 }) (fun _ h => h) (fun _ _ => rfl) (S.heap.gl g c hg), fun g p hx => S.heap.gx g p hx⟩
/-- A region, drawn. -/
theorem region_draw {P : Program} {ops : Array Oper} {E : Env} {Q : Exit → Act → World → Prop} {id : Nat} {a : Act} {w : World} {s sn : St} (foot : List (List Nat × List Nat)) (hmix : P.follows .mixedOrders = true) (hdown : edgesDown ops = true) (hdst : dstOk ops E.n = true)
    (hok : okSwap ops foot = true) (S : Sim E s a w) (hc : Chain (StepAt P ops foot) (List.range ops.size) s sn) (hQ : ∀ a w, Sim E sn a w → Q .normal a w) : (Code.region id ops true).wp P Q a w :=
  wp_region_swap (stp := StepAt P ops foot) (sim := Sim E) (inv := fun _ => True) hmix hdown (fun _ _ _ _ _ => trivial) (fun i j s s1 s2 hij hj hno _ h1 h2 => step_swap hok i j s s1 s2 hij hj hno h1 h2)
    (fun i s s' a w _ _ S h => sim_step hdst i s s' a w S h) hQ trivial S.drew hc
theorem region_text {P : Program} {ops : Array Oper} {E : Env} {Q : Exit → Act → World → Prop} {id : Nat} {a : Act} {w : World} {s sn : St} (foot : List (List Nat × List Nat)) (hdst : dstOk ops E.n = true)
    (S : Sim E s a w) (hc : Chain (StepAt P ops foot) (List.range ops.size) s sn) (hQ : ∀ a w, Sim E sn a w → Q .normal a w) : (Code.region id ops false).wp P Q a w :=
  wp_region_text (stp := StepAt P ops foot) (sim := Sim E) (inv := fun _ => True) (fun _ _ _ _ _ => trivial) (fun i s s' a w _ _ S h => sim_step hdst i s s' a w S h) hQ trivial S hc
end Go.Proofs.YtnflnbdlgdjfmaaDoor
namespace Go.Proofs.YtnflnbdlgdjfmaaDoor
open Go.RowKit
set_option linter.unusedVariables false
set_option linter.unusedSimpArgs false
/-- A constant, as it is meant. -/
def constU : Value → U
  | .int k n => .one (.int k n)
  | .bool b => .one (.bool b)
  | .string s => .one (.str s)
  | .pointer none => .one .nilp
  | .nilFunc => .one .nilf
  | .slice none 0 0 => .one .nilsl
  | .nilIface => .one .nilif
  | _ => .any
def opU (t : Nat → U) : Operand → U
  | .tmp x => t x
  | .const v => constU v
  | .global g => match glob g with | some c => .one c | none => .any
  | .func f => .one (.fn f)
theorem relC_relK {F : Nat → Prop} {ρ : Nat → Lc} {w : World} {c : C} {v : Value} (h : relK F w c v) : relC F ρ w c v := by
  cases c <;> first | exact h | exact h.elim
theorem constU_rel (F : Nat → Prop) (ρ : Nat → Lc) (w : World) (h : Nat → Option Blk) (v : Value) : relU F ρ w (constU v) v ∧ okU h (constU v) := by
  unfold constU
  split <;> first | exact ⟨rfl, trivial⟩ | exact ⟨trivial, trivial⟩
theorem closed_ok {F : Nat → Prop} {w : World} {c : C} {v : Value} (h : Nat → Option Blk) (hr : relK F w c v) : okC h c := by
  cases c <;> first | trivial | exact hr.elim
section
variable {P : Program} {F : Nat → Prop} {ρ : Nat → Lc} {h : Nat → Option Blk} {w : World} {a : Act} {t : Nat → U}
theorem opU_rel {o : Oper} (H : HRel F ρ h w) (hx : ∀ x ∈ Oper.reads o, relU F ρ w (t x) (a.tmps.getD x undef) ∧ okU h (t x)) (x : Operand) (hm : x ∈ o.op.operands) : relU F ρ w (opU t x) (a.eval x) ∧ okU h (opU t x) := by
  cases x with
  | tmp x => exact hx x (List.mem_filterMap.2 ⟨.tmp x, by simpa using hm, rfl⟩)
  | const v => exact constU_rel F ρ w h v
  | global g =>
    show relU F ρ w (match glob g with | some c => .one c | none => .any) _ ∧ okU h (match glob g with | some c => .one c | none => .any)
    cases hg : glob g with
    | none => exact ⟨trivial, trivial⟩
    | some c => exact ⟨relC_relK (H.gl g c hg), closed_ok h (H.gl g c hg)⟩
  | func f => exact ⟨rfl, trivial⟩
end
/-- What an operation owes that yields a value and leaves the world. -/
theorem loc_run {P : Program} {o : Oper} {s : St} {v : U}
    (hrun : ∀ (F : Nat → Prop) (ρ : Nat → Lc) (h : Nat → Option Blk) (w : World) (ev : Operand → Value), HRel F ρ h w → (∀ x, x ∈ o.op.operands → relU F ρ w (opU s.t x) (ev x) ∧ okU h (opU s.t x)) →
      ∃ u, (execOp ev o).run P w = .ok (.value u) w ∧ relU F ρ w v u ∧ okU h v) : LocOp P o s [] [] v := by
  intro F ρ h w a Q H _ hx
  obtain ⟨u, hr, h1, h2⟩ := hrun F ρ h w a.eval H (opU_rel H hx)
  unfold Oper.wp
  rw [hr]
  exact ⟨u, F, ρ, rfl, H.refl_moves, h1, h2⟩
/-- The same, that reads a block. -/
theorem loc_runR {P : Program} {o : Oper} {s : St} {v : U} (b : Nat) (x : Blk) (hb : s.h b = some x)
    (hrun : ∀ (F : Nat → Prop) (ρ : Nat → Lc) (h : Nat → Option Blk) (w : World) (ev : Operand → Value), HRel F ρ h w → h b = some x → (∀ x, x ∈ o.op.operands → relU F ρ w (opU s.t x) (ev x) ∧ okU h (opU s.t x)) →
      ∃ u, (execOp ev o).run P w = .ok (.value u) w ∧ relU F ρ w v u ∧ okU h v) : LocOp P o s [b] [] v := by
  intro F ρ h w a Q H hR hx
  obtain ⟨u, hr, h1, h2⟩ := hrun F ρ h w a.eval H ((hR b (.inl (List.mem_singleton.2 rfl))).trans hb) (opU_rel H hx)
  unfold Oper.wp
  rw [hr]
  exact ⟨u, F, ρ, rfl, H.refl_moves, h1, h2⟩
section ops
variable {P : Program} {s : St} {dst : Option Tmp} {rt : TypeId} {pos : String} {after : Array Edge} {guard : Option (Nat × Bool)}
theorem loc_move {x : Operand} {v : U} (hv : opU s.t x = v) : LocOp P ⟨dst, .move x, rt, pos, after, guard⟩ s [] [] v :=
  loc_run fun F ρ h w ev H hx => by
    have h1 := hx x (by simp [Op.operands])
    rw [hv] at h1
    exact ⟨ev x, rfl, h1.1, h1.2⟩
theorem loc_assign {x : Operand} {v : U} (hv : opU s.t x = v) : LocOp P ⟨dst, .assign x, rt, pos, after, guard⟩ s [] [] v :=
  loc_run fun F ρ h w ev H hx => by
    have h1 := hx x (by simp [Op.operands])
    rw [hv] at h1
    exact ⟨ev x, rfl, h1.1, h1.2⟩
theorem loc_pick {c x y : Operand} {b : Bool} {v : U} (hc : opU s.t c = .one (.bool b)) (hv : opU s.t (bif b then x else y) = v) : LocOp P ⟨dst, .pick c x y, rt, pos, after, guard⟩ s [] [] v :=
  loc_run fun F ρ h w ev H hx => by
    have h1 := (hx c (by simp [Op.operands])).1
    rw [hc] at h1
    have h1 : ev c = .bool b := h1
    have h2 := hx (bif b then x else y) (by cases b <;> simp [Op.operands])
    rw [hv] at h2
    refine ⟨ev (bif b then x else y), ?_, h2.1, h2.2⟩
    cases b <;> simp [execOp, h1, asBool, go_sem]
theorem loc_nilCheck {x : Operand} {c : C} (hv : opU s.t x = .one c) (hc : (match c with | .ptr _ _ => true | .fp _ _ => true | .fn _ => true | _ => false) = true) : LocOp P ⟨dst, .nilCheck x, rt, pos, after, guard⟩ s [] [] (.one c) :=
  loc_run fun F ρ h w ev H hx => by
    have h1 := hx x (by simp [Op.operands])
    rw [hv] at h1
    refine ⟨ev x, ?_, h1.1, h1.2⟩
    cases c <;> simp only [Bool.false_eq_true] at hc
    · have hg : ev x = .func (.func _) #[] #[] := h1.1
      simp [execOp, hg, go_sem]
    · rename_i b o
      obtain ⟨cells, hb⟩ := h1.2
      obtain ⟨g, _, hg⟩ := h1.1.2 (H.ver hb)
      simp [execOp, hg, go_sem]
    · rename_i k f
      obtain ⟨g, o, hg, _⟩ := h1.1
      simp [execOp, hg, go_sem]
def aggB (P : Program) (t : TypeId) (n : Nat) : Bool := (match P.underlying t with | some d => d.isRow | none => false) && ((P.info? t).map (·.size) == some n)
def oneB (P : Program) (t : TypeId) : Bool := (match P.underlying t with | some d => !d.isRow | none => false) && ((P.info? t).map (·.size) == some 1)
def fieldB (P : Program) (t : TypeId) (f off : Nat) : Bool :=
  match P.underlying t with
  | some (.struct fs) => match fs[f]? with
    | some fd => fd.offset == off && (match P.info? fd.type with | some i => i.size != 0 | none => false)
    | none => false
  | _ => false
def elemB (P : Program) (t e : TypeId) (k bytes : Nat) : Bool :=
  match P.underlying t with
  | some (.slice e') => e' == e && (match P.info? e with | some i => i.size == k && i.bytes == bytes && decide (0 < k) && (match i.zero with | some z => z.cells.size == k | none => false) | none => false)
  | _ => false
def arrB (P : Program) (t : TypeId) (n k : Nat) : Bool :=
  match P.underlying t with
  | some (.array n' e) => n' == n && (match P.info? e with | some i => i.size == k | none => false)
  | _ => false
/-- A type of n cells, more than one value. -/
class TAgg (P : Program) (t : TypeId) (n : outParam Nat) : Prop where
  ok : aggB P t n = true
/-- A type of one cell. -/
class TOne (P : Program) (t : TypeId) : Prop where
  ok : oneB P t = true
/-- A field's place. -/
class TField (P : Program) (t : TypeId) (f : Nat) (off : outParam Nat) : Prop where
  ok : fieldB P t f off = true
/-- A slice's element type, its cells and bytes. -/
class TElem (P : Program) (t : TypeId) (e k bytes : outParam Nat) : Prop where
  ok : elemB P t e k bytes = true
/-- An array's length and its elements' cells. -/
class TArr (P : Program) (t : TypeId) (n k : outParam Nat) : Prop where
  ok : arrB P t n k = true
theorem TAgg.spec {P : Program} {t : TypeId} {n : Nat} (h : TAgg P t n) : (∃ d, P.underlying t = some d ∧ d.isRow = true) ∧ (P.info? t).map (·.size) = some n := by
  have := h.ok
  unfold aggB at this
  rw [Bool.and_eq_true] at this
  obtain ⟨h1, h2⟩ := this
  cases hu : P.underlying t with
  | none => rw [hu] at h1; cases h1
  | some d => rw [hu] at h1; exact ⟨⟨d, rfl, h1⟩, by simpa using h2⟩
theorem TOne.spec {P : Program} {t : TypeId} (h : TOne P t) : (∃ d, P.underlying t = some d ∧ d.isRow = false) ∧ (P.info? t).map (·.size) = some 1 := by
  have := h.ok
  unfold oneB at this
  rw [Bool.and_eq_true] at this
  obtain ⟨h1, h2⟩ := this
  cases hu : P.underlying t with
  | none => rw [hu] at h1; cases h1
  | some d => rw [hu] at h1; exact ⟨⟨d, rfl, by simpa using h1⟩, by simpa using h2⟩
theorem TField.spec {P : Program} {t : TypeId} {f off : Nat} (h : TField P t f off) : ∃ fs fd i, P.underlying t = some (.struct fs) ∧ fs[f]? = some fd ∧ fd.offset = off ∧ P.info? fd.type = some i ∧ i.size ≠ 0 := by
  have := h.ok
  unfold fieldB at this
  split at this
  · rename_i fs hu
    split at this
    · rename_i fd hf
      rw [Bool.and_eq_true] at this
      obtain ⟨h1, h2⟩ := this
      split at h2
      · rename_i i hi
        exact ⟨fs, fd, i, hu, hf, by simpa using h1, hi, by simpa using h2⟩
      · cases h2
    · cases this
  · cases this
theorem TElem.spec {P : Program} {t e : TypeId} {k bytes : Nat} (h : TElem P t e k bytes) : ∃ i z, P.underlying t = some (.slice e) ∧ P.info? e = some i ∧ i.size = k ∧ i.bytes = bytes ∧ 0 < k ∧ i.zero = some z ∧ z.cells.size = k := by
  have := h.ok
  unfold elemB at this
  split at this
  · rename_i e' hu
    rw [Bool.and_eq_true] at this
    obtain ⟨h1, h2⟩ := this
    have he : e' = e := by simpa using h1
    subst he
    split at h2
    · rename_i i hi
      simp only [Bool.and_eq_true] at h2
      obtain ⟨⟨⟨h3, h4⟩, h5⟩, h6⟩ := h2
      split at h6
      · rename_i z hz
        exact ⟨i, z, hu, hi, by simpa using h3, by simpa using h4, by simpa using h5, hz, by simpa using h6⟩
      · cases h6
    · cases h2
  · cases this
theorem TArr.spec {P : Program} {t : TypeId} {n k : Nat} (h : TArr P t n k) : ∃ e i, P.underlying t = some (.array n e) ∧ P.info? e = some i ∧ i.size = k := by
  have := h.ok
  unfold arrB at this
  split at this
  · rename_i n' e hu
    rw [Bool.and_eq_true] at this
    obtain ⟨h1, h2⟩ := this
    have hn : n' = n := by simpa using h1
    subst hn
    split at h2
    · rename_i i hi
      exact ⟨e, i, hu, hi, by simpa using h2⟩
    · cases h2
  · cases this
theorem run_fieldAt {P : Program} {t : TypeId} {f off : Nat} (T : TField P t f off) (w : World) (g o : Nat) : (Instr.fieldAt t (.pointer (some ⟨g, o, none⟩)) f).run P w = .ok (.pointer (some ⟨g, o + off, none⟩)) w := by
  obtain ⟨fs, fd, i, h1, h2, h3, h4, h5⟩ := T.spec
  subst h3
  simp [Instr.fieldAt, run_underlying h1, h2, Instr.sureAddr, fieldPlace, sizeOf, typeInfo, h4, h5, Addr.add_mid]
theorem loc_fieldAddr {t : TypeId} {x : Operand} {f off b o : Nat} [T : TField P t f off] (hv : opU s.t x = .one (.ptr b o)) : LocOp P ⟨dst, .fieldAddr t x f, rt, pos, after, guard⟩ s [] [] (.one (.ptr b (o + off))) :=
  loc_run fun F ρ h w ev H hx => by
    have h1 := hx x (by simp [Op.operands])
    rw [hv] at h1
    obtain ⟨cells, hb⟩ := h1.2
    have hver := H.ver hb
    obtain ⟨g, hg, hp⟩ := h1.1.2 hver
    refine ⟨.pointer (some ⟨g, o + off, none⟩), ?_, ⟨rfl, fun _ => ⟨g, hg, rfl⟩⟩, ⟨cells, hb⟩⟩
    simp [execOp, hp, run_fieldAt T]
/-- Into what turns no more. -/
theorem loc_fieldAddrF {t : TypeId} {x : Operand} {f off o : Nat} {row : List C} [T : TField P t f off] (hv : opU s.t x = .one (fpo row o)) : LocOp P ⟨dst, .fieldAddr t x f, rt, pos, after, guard⟩ s [] [] (.one (fpo row (o + off))) :=
  loc_run fun F ρ h w ev H hx => by
    have h1 := hx x (by simp [Op.operands])
    rw [hv] at h1
    obtain ⟨g, q, hp, hF, hj⟩ := h1.1
    refine ⟨.pointer (some ⟨g, q + off, none⟩), ?_, ⟨g, q + off, rfl, hF, fun j hj' => ?_⟩, trivial⟩
    · simp [execOp, hp, run_fieldAt T]
    · obtain ⟨u, hu, hr⟩ := hj (off + j) (by omega)
      exact ⟨u, by rw [Nat.add_assoc]; exact hu, by show relK F w (rowF row (o + off + j)) u; rw [Nat.add_assoc]; exact hr⟩
theorem run_loadAt_one {P : Program} {t : TypeId} (T : TOne P t) (w : World) (g o : Nat) (v : Value) (hc : w.cell? ⟨g, o, none⟩ = some v) : (Instr.loadAt t (.pointer (some ⟨g, o, none⟩))).run P w = .ok v w := by
  obtain ⟨⟨d, hu, hd⟩, _⟩ := T.spec
  have hagg : (isAgg t).run P w = .ok false w := by
    unfold isAgg
    rw [Sem.run_bind, run_underlying hu w]
    cases d <;> simp_all
  simp [Instr.loadAt, Instr.sureAddr, loadVar, hagg, go_sem, hc]
theorem run_loadAt_agg {P : Program} {t : TypeId} {n : Nat} (T : TAgg P t n) (w : World) (g o : Nat) (vs : List Value) (hn : vs.length = n) (hc : ∀ j v, vs[j]? = some v → w.cell? ⟨g, o + j, none⟩ = some v) :
    (Instr.loadAt t (.pointer (some ⟨g, o, none⟩))).run P w = .ok (.agg vs.toArray) w := by
  obtain ⟨⟨d, hu, hd⟩, hi⟩ := T.spec
  exact run_loadAt_mid w g o t vs d hc hu hd (by rw [hi, hn])
/-- The n cells from o on. -/
def Cut : List C → Nat → Nat → List C → Prop
  | _, _, 0, l => l = []
  | cs, o, n + 1, l => ∃ c l', cs[o]? = some c ∧ l = c :: l' ∧ Cut cs (o + 1) n l'
theorem Cut.spec : ∀ {n : Nat} {cs : List C} {o : Nat} {l : List C}, Cut cs o n l → l.length = n ∧ ∀ (j : Nat) c, l[j]? = some c → cs[o + j]? = some c
  | 0, _, _, _, h => by cases h; exact ⟨rfl, fun j c h => by simp at h⟩
  | n + 1, cs, o, _, ⟨c, l', hc, rfl, h⟩ => by
    obtain ⟨h1, h2⟩ := Cut.spec h
    refine ⟨by simp [h1], fun j d hd => ?_⟩
    cases j with
    | zero => simp at hd; subst hd; exact hc
    | succ j => rw [show o + (j + 1) = o + 1 + j by omega]; exact h2 j d (by simpa using hd)
theorem blk_at {F : Nat → Prop} {ρ : Nat → Lc} {w : World} {b : Nat} {cells : List C} (h : blkRel F ρ w b (.obj cells)) : ∃ g, (ρ b).g = some g ∧ ∀ (j : Nat) c, cells[j]? = some c → ∃ u, w.cell? ⟨g, j, none⟩ = some u ∧ w.frozen? ⟨g, j, none⟩ = false ∧ relC F ρ w c u := by
  obtain ⟨_, g, e, cs, hg, hh, hj⟩ := h
  refine ⟨g, hg, fun j c hc => ?_⟩
  obtain ⟨u, hu, hr⟩ := hj j c hc
  exact ⟨u, by simp [World.cell?, hh, hu], by simp [World.frozen?, hh], hr⟩
theorem row_at {F : Nat → Prop} {ρ : Nat → Lc} {w : World} {b : Nat} {e : TypeId} {k v : Nat} {rows : List (List C)} (h : blkRel F ρ w b (.row e k v rows)) {i : Nat} {row : List C} (hi : rows[i]? = some row) : ∃ g, (ρ b).g = some g ∧ row.length = k ∧ ∀ (j : Nat) c, row[j]? = some c → ∃ u, w.cell? ⟨g, i * k + j, none⟩ = some u ∧ w.frozen? ⟨g, i * k + j, none⟩ = false ∧ relC F ρ w c u := by
  obtain ⟨_, _, ⟨_, h0⟩ | ⟨g, cs, hg, hh, _, _, _, hj⟩⟩ := h
  · subst h0; simp at hi
  · refine ⟨g, hg, (hj i row hi).1, fun j c hc => ?_⟩
    obtain ⟨u, hu, hr⟩ := (hj i row hi).2 j c hc
    exact ⟨u, by simp [World.cell?, hh, hu], by simp [World.frozen?, hh], hr⟩
theorem choose_list {α β : Type} {R : Nat → α → β → Prop} : ∀ (l : List α) (o : Nat), (∀ (j : Nat) c, l[j]? = some c → ∃ u, R (o + j) c u) → ∃ vs : List β, vs.length = l.length ∧ ∀ (j : Nat) c u, l[j]? = some c → vs[j]? = some u → R (o + j) c u
  | [], _, _ => ⟨[], rfl, fun j c u h => by simp at h⟩
  | a :: l, o, h => by
    obtain ⟨u0, h0⟩ := h 0 a rfl
    obtain ⟨vs, h1, h2⟩ := choose_list (R := R) l (o + 1) (fun j c hc => by
      obtain ⟨u, hu⟩ := h (j + 1) c (by simpa using hc)
      exact ⟨u, by rw [show o + 1 + j = o + (j + 1) by omega]; exact hu⟩)
    refine ⟨u0 :: vs, by simp [h1], fun j c u hc hu => ?_⟩
    cases j with
    | zero => simp at hc hu; subst hc; subst hu; exact h0
    | succ j => rw [show o + (j + 1) = o + 1 + j by omega]; exact h2 j c u (by simpa using hc) (by simpa using hu)
theorem loc_load {t : TypeId} {x : Operand} {b o : Nat} {cells : List C} {c : C} [T : TOne P t] (hv : opU s.t x = .one (.ptr b o)) (hb : s.h b = some (.obj cells)) (hc : cells[o]? = some c) :
    LocOp P ⟨dst, .load t x, rt, pos, after, guard⟩ s [b] [] (.one c) :=
  loc_runR b _ hb fun F ρ h w ev H hb hx => by
    have h1 := (hx x (by simp [Op.operands])).1
    rw [hv] at h1
    obtain ⟨g, hg, hp⟩ := h1.2 (H.ver hb)
    obtain ⟨g', hg', hj⟩ := blk_at (H.blk b _ hb)
    obtain rfl : g = g' := Option.some.inj (hg.symm.trans hg')
    obtain ⟨u, hu, _, hr⟩ := hj o c hc
    refine ⟨u, ?_, hr, H.ok b _ hb c (List.mem_of_getElem? hc)⟩
    simp [execOp, hp, run_loadAt_one T w g o u hu]
theorem loc_loadA {t : TypeId} {x : Operand} {b o n : Nat} {cells l : List C} [T : TAgg P t n] (hv : opU s.t x = .one (.ptr b o)) (hb : s.h b = some (.obj cells)) (hc : Cut cells o n l) :
    LocOp P ⟨dst, .load t x, rt, pos, after, guard⟩ s [b] [] (.agg l) :=
  loc_runR b _ hb fun F ρ h w ev H hb hx => by
    have h1 := (hx x (by simp [Op.operands])).1
    rw [hv] at h1
    obtain ⟨g, hg, hp⟩ := h1.2 (H.ver hb)
    obtain ⟨g', hg', hj⟩ := blk_at (H.blk b _ hb)
    obtain rfl : g = g' := Option.some.inj (hg.symm.trans hg')
    obtain ⟨hl, hsub⟩ := hc.spec
    obtain ⟨vs, hvs, hR⟩ := choose_list (R := fun j c u => w.cell? ⟨g, j, none⟩ = some u ∧ relC F ρ w c u) l o (fun j c hjc => by
      obtain ⟨u, hu, _, hr⟩ := hj _ c (hsub j c hjc)
      exact ⟨u, hu, hr⟩)
    refine ⟨.agg vs.toArray, ?_, ⟨vs, rfl, All2.of hvs.symm fun i c u h1 h2 => (hR i c u h1 h2).2⟩, fun c hcm => ?_⟩
    · rw [show execOp ev (⟨dst, .load t x, rt, pos, after, guard⟩ : Oper) = (do pure (Next.value (← Instr.loadAt t (ev x)))) from rfl, hp]
      rw [Sem.run_bind, run_loadAt_agg T w g o vs (by rw [hvs, hl]) fun j v hjv => ?_]
      · rfl
      · have hlt : j < l.length := by rw [← hvs]; exact (List.getElem?_eq_some_iff.1 hjv).1
        exact (hR j _ v (List.getElem?_eq_getElem hlt) hjv).1
    · obtain ⟨j, hjl, hje⟩ := List.getElem_of_mem hcm
      have := hsub j c (by rw [List.getElem?_eq_getElem hjl, hje])
      exact H.ok b _ hb c (List.mem_of_getElem? this)
theorem loc_loadEA {t : TypeId} {x : Operand} {b v k i o n : Nat} {e : TypeId} {rows : List (List C)} {row l : List C} [T : TAgg P t n] (hv : opU s.t x = .one (.eptr b v k i o)) (hb : s.h b = some (.row e k v rows)) (hi : rows[i]? = some row) (hc : Cut row o n l) :
    LocOp P ⟨dst, .load t x, rt, pos, after, guard⟩ s [b] [] (.agg l) :=
  loc_runR b _ hb fun F ρ h w ev H hb hx => by
    have h1 := (hx x (by simp [Op.operands])).1
    rw [hv] at h1
    obtain ⟨g, hg, hp⟩ := h1.2 (H.ver hb)
    obtain ⟨g', hg', _, hj⟩ := row_at (H.blk b _ hb) hi
    obtain rfl : g = g' := Option.some.inj (hg.symm.trans hg')
    obtain ⟨hl, hsub⟩ := hc.spec
    obtain ⟨vs, hvs, hR⟩ := choose_list (R := fun j c u => w.cell? ⟨g, i * k + j, none⟩ = some u ∧ relC F ρ w c u) l o (fun j c hjc => by
      obtain ⟨u, hu, _, hr⟩ := hj _ c (hsub j c hjc)
      exact ⟨u, hu, hr⟩)
    refine ⟨.agg vs.toArray, ?_, ⟨vs, rfl, All2.of hvs.symm fun i c u h1 h2 => (hR i c u h1 h2).2⟩, fun c hcm => ?_⟩
    · rw [show execOp ev (⟨dst, .load t x, rt, pos, after, guard⟩ : Oper) = (do pure (Next.value (← Instr.loadAt t (ev x)))) from rfl, hp]
      rw [Sem.run_bind, run_loadAt_agg T w g _ vs (by rw [hvs, hl]) fun j v hjv => ?_]
      · rfl
      · have hlt : j < l.length := by rw [← hvs]; exact (List.getElem?_eq_some_iff.1 hjv).1
        rw [Nat.add_assoc]
        exact (hR j _ v (List.getElem?_eq_getElem hlt) hjv).1
    · obtain ⟨j, hjl, hje⟩ := List.getElem_of_mem hcm
      have := hsub j c (by rw [List.getElem?_eq_getElem hjl, hje])
      exact H.ok b _ hb row (List.mem_of_getElem? hi) c (List.mem_of_getElem? this)
/-- Out of what turns no more. -/
theorem loc_loadF {t : TypeId} {x : Operand} {o : Nat} {row : List C} {c : C} [T : TOne P t] (hv : opU s.t x = .one (fpo row o)) (hc : row[o]? = some c) :
    LocOp P ⟨dst, .load t x, rt, pos, after, guard⟩ s [] [] (.one c) :=
  loc_run fun F ρ h w ev H hx => by
    have h1 := (hx x (by simp [Op.operands])).1
    rw [hv] at h1
    obtain ⟨g, q, hp, hF, hj⟩ := h1
    have hlt := (List.getElem?_eq_some_iff.1 hc).1
    obtain ⟨u, hu, hr⟩ := hj 0 (by omega)
    have hcc : rowF row (o + 0) = c := by simp [rowF, hc]
    have hr : relK F w (rowF row (o + 0)) u := hr
    rw [hcc] at hr
    rw [Nat.add_zero] at hu
    refine ⟨u, ?_, relC_relK hr, closed_ok h hr⟩
    simp [execOp, hp, run_loadAt_one T w g _ u hu]
theorem loc_loadFA {t : TypeId} {x : Operand} {o n : Nat} {row l : List C} [T : TAgg P t n] (hv : opU s.t x = .one (fpo row o)) (hc : Cut row o n l) :
    LocOp P ⟨dst, .load t x, rt, pos, after, guard⟩ s [] [] (.agg l) :=
  loc_run fun F ρ h w ev H hx => by
    have h1 := (hx x (by simp [Op.operands])).1
    rw [hv] at h1
    obtain ⟨g, q, hp, hF, hj⟩ := h1
    obtain ⟨hl, hsub⟩ := hc.spec
    obtain ⟨vs, hvs, hR⟩ := choose_list (R := fun j c u => w.cell? ⟨g, q + j, none⟩ = some u ∧ relK F w c u) l 0 (fun j c hjc => by
      have h3 := hsub j c hjc
      have hlt := (List.getElem?_eq_some_iff.1 h3).1
      obtain ⟨u, hu, hr⟩ := hj j (by omega)
      have hcc : rowF row (o + j) = c := by simp [rowF, h3]
      have hr : relK F w (rowF row (o + j)) u := hr
      rw [hcc] at hr
      rw [Nat.zero_add]
      exact ⟨u, hu, hr⟩)
    simp only [Nat.zero_add] at hR
    refine ⟨.agg vs.toArray, ?_, ⟨vs, rfl, All2.of hvs.symm fun i c u h1 h2 => relC_relK (hR i c u h1 h2).2⟩, fun c hcm => ?_⟩
    · rw [show execOp ev (⟨dst, .load t x, rt, pos, after, guard⟩ : Oper) = (do pure (Next.value (← Instr.loadAt t (ev x)))) from rfl, hp]
      rw [Sem.run_bind, run_loadAt_agg T w g q vs (by rw [hvs, hl]) fun j v hjv => ?_]
      · rfl
      · have hlt : j < l.length := by rw [← hvs]; exact (List.getElem?_eq_some_iff.1 hjv).1
        exact (hR j _ v (List.getElem?_eq_getElem hlt) hjv).1
    · obtain ⟨j, hjl, hje⟩ := List.getElem_of_mem hcm
      have hlt : j < vs.length := by rw [hvs]; exact hjl
      exact closed_ok h (hR j c _ (by rw [List.getElem?_eq_getElem hjl, hje]) (List.getElem?_eq_getElem hlt)).2
theorem Cut.whole (l : List C) : ∀ (n o : Nat), o + n = l.length → Cut l o n (l.drop o)
  | 0, o, h => by
    show l.drop o = []
    exact List.drop_eq_nil_of_le (by omega)
  | n + 1, o, h => by
    have hlt : o < l.length := by omega
    exact ⟨l[o], l.drop (o + 1), by simp [hlt], List.drop_eq_getElem_cons hlt, Cut.whole l n (o + 1) (by omega)⟩
/-- All of it. -/
theorem Cut.all {l : List C} {n : Nat} (h : l.length = n) : Cut l 0 n l := by
  have := Cut.whole l n 0 (by omega)
  rwa [List.drop_zero] at this
end ops
end Go.Proofs.YtnflnbdlgdjfmaaDoor
namespace Go.Proofs.YtnflnbdlgdjfmaaDoor
open Go.RowKit
set_option linter.unusedVariables false
set_option linter.unusedSimpArgs false
section ops
variable {P : Program} {s : St} {dst : Option Tmp} {rt : TypeId} {pos : String} {after : Array Edge} {guard : Option (Nat × Bool)}
theorem run_indexAt_sl {P : Program} {t e : TypeId} {k bytes : Nat} (T : TElem P t e k bytes) (w : World) (g o n cap i : Nat) (ik : IntKind) (hi : i < n) :
    (Instr.indexAt t (.slice (some ⟨g, o, none⟩) n cap) (.int ik i)).run P w = .ok (.pointer (some ⟨g, o + i * k, none⟩)) w := by
  obtain ⟨inf, z, h1, h2, h3, h4, h5, h6, h7⟩ := T.spec
  have : (i : Int) < n := by omega
  simp [Instr.indexAt, run_underlying h1, sizeOf, typeInfo, h2, h3, asIntOf, hi, Addr.add_mid, go_sem]
/-- An element of a row of the call's own. -/
theorem loc_indexOwn {t : TypeId} {x y : Operand} {e : TypeId} {k bytes b v n : Nat} {ik : IntKind} {m : Int} {rows : List (List C)} [T : TElem P t e k bytes] (i : Nat)
    (hv : opU s.t x = .one (.own b v n)) (hy : opU s.t y = .one (.int ik m)) (hm : m = (i : Int)) (hb : s.h b = some (.row e k v rows)) (hi : i < n) :
    LocOp P ⟨dst, .indexAddr t x y, rt, pos, after, guard⟩ s [b] [] (.one (.eptr b v k i 0)) :=
  loc_runR b _ hb fun F ρ h w ev H hb hx => by
    have h1 := hx x (by simp [Op.operands])
    have h2 := (hx y (by simp [Op.operands])).1
    rw [hv] at h1
    rw [hy] at h2
    have h2 : ev y = .int ik m := h2
    subst hm
    rcases h1.1.2 (H.ver hb) with ⟨_, h0, _⟩ | ⟨g, hg, hp⟩
    · omega
    · refine ⟨.pointer (some ⟨g, i * k + 0, none⟩), ?_, ⟨rfl, fun _ => ⟨g, hg, rfl⟩⟩, ⟨e, k, v, rows, hb, Nat.le_refl _⟩⟩
      simp [execOp, hp, h2, run_indexAt_sl T w g 0 n _ i ik hi]
/-- An element of what turns no more. -/
theorem loc_indexSl {t : TypeId} {x y : Operand} {e : TypeId} {k bytes : Nat} {ik : IntKind} {m : Int} {rows : List (List C)} {row : List C} [T : TElem P t e k bytes] (i : Nat)
    (hv : opU s.t x = .one (slOf k rows)) (hy : opU s.t y = .one (.int ik m)) (hm : m = (i : Int)) (hr : rows[i]? = some row) (hl : row.length = k) :
    LocOp P ⟨dst, .indexAddr t x y, rt, pos, after, guard⟩ s [] [] (.one (fpo row 0)) :=
  loc_run fun F ρ h w ev H hx => by
    have h1 := (hx x (by simp [Op.operands])).1
    have h2 := (hx y (by simp [Op.operands])).1
    rw [hv] at h1
    rw [hy] at h2
    have h2 : ev y = .int ik m := h2
    subst hm
    obtain ⟨a, cap, hp, hcap, hmax, hj⟩ := h1
    have hi := (List.getElem?_eq_some_iff.1 hr).1
    obtain ⟨g, o, rfl, hF, hj⟩ := hj i hi
    refine ⟨.pointer (some ⟨g, o + i * k, none⟩), ?_, ⟨g, o + i * k, rfl, hF, fun j hj' => ?_⟩, trivial⟩
    · simp [execOp, hp, h2, run_indexAt_sl T w g o rows.length cap i ik hi]
    · obtain ⟨u, hu, hr'⟩ := hj j (by omega)
      refine ⟨u, hu, ?_⟩
      have hr' : relK F w (rowF (rows.getD i []) j) u := hr'
      rw [List.getD_eq_getElem?_getD, hr] at hr'
      show relK F w (rowF row (0 + j)) u
      rw [Nat.zero_add]
      exact hr'
/-- An element of an array that turns no more, behind its address. -/
theorem loc_indexArr {t : TypeId} {x y : Operand} {n k : Nat} {ik : IntKind} {m : Int} {row : List C} [T : TArr P t n k] (i : Nat)
    (hv : opU s.t x = .one (fpo row 0)) (hy : opU s.t y = .one (.int ik m)) (hm : m = (i : Int)) (hi : i < n) :
    LocOp P ⟨dst, .indexAddr t x y, rt, pos, after, guard⟩ s [] [] (.one (fpo row (i * k))) :=
  loc_run fun F ρ h w ev H hx => by
    have h1 := (hx x (by simp [Op.operands])).1
    have h2 := (hx y (by simp [Op.operands])).1
    rw [hv] at h1
    rw [hy] at h2
    have h2 : ev y = .int ik m := h2
    subst hm
    obtain ⟨g, o, hp, hF, hj⟩ := h1
    obtain ⟨e, inf, t1, t2, t3⟩ := T.spec
    refine ⟨.pointer (some ⟨g, o + i * k, none⟩), ?_, ⟨g, o + i * k, rfl, hF, fun j hj' => ?_⟩, trivial⟩
    · have hlt : (i : Int) < n := by omega
      simp [execOp, hp, h2, Instr.indexAt, run_underlying t1, sizeOf, typeInfo, t2, t3, asIntOf, hi, Addr.add_mid, Instr.sureAddr, go_sem]
    · obtain ⟨u, hu, hr⟩ := hj (i * k + j) (by omega)
      have hr : relK F w (rowF row (0 + (i * k + j))) u := hr
      rw [Nat.zero_add] at hr
      exact ⟨u, by rw [Nat.add_assoc]; exact hu, hr⟩
theorem loc_indexArrI {t : TypeId} {x y : Operand} {n k : Nat} {ik : IntKind} {m : Int} {row : List C} [T : TArr P t n k]
    (hv : opU s.t x = .one (fpo row 0)) (hy : opU s.t y = .one (.int ik m)) (h0 : 0 ≤ m) (hi : m < (n : Int)) :
    LocOp P ⟨dst, .indexAddr t x y, rt, pos, after, guard⟩ s [] [] (.one (fpo row (m.toNat * k))) :=
  loc_indexArr m.toNat hv hy (Int.toNat_of_nonneg h0).symm (by omega)
theorem loc_lenOwn {x : Operand} {t : TypeId} {e : TypeId} {k bytes b v n : Nat} {rows : List (List C)} [T : TElem P t e k bytes] (hv : opU s.t x = .one (.own b v n)) (hb : s.h b = some (.row e k v rows)) :
    LocOp P ⟨dst, .call ⟨.builtin .len, #[x], #[t]⟩, rt, pos, after, guard⟩ s [b] [] (.one (.int .i64 n)) :=
  loc_runR b _ hb fun F ρ h w ev H hb hx => by
    have h1 := (hx x (by simp [Op.operands, Call.operands])).1
    rw [hv] at h1
    obtain ⟨inf, z, t1, _⟩ := T.spec
    refine ⟨.int .i64 n, ?_, rfl, trivial⟩
    rcases h1.2 (H.ver hb) with ⟨_, h0, hp⟩ | ⟨g, hg, hp⟩
    · subst h0
      simp [execOp, resolve, invoke, builtin, Builtin.len_, hp, run_underlying t1, goInt, go_sem]
    · simp [execOp, resolve, invoke, builtin, Builtin.len_, hp, run_underlying t1, goInt, go_sem]
theorem loc_lenSl {x : Operand} {t : TypeId} {e : TypeId} {k bytes k' : Nat} {rows : List (List C)} [T : TElem P t e k bytes] (hv : opU s.t x = .one (slOf k' rows)) :
    LocOp P ⟨dst, .call ⟨.builtin .len, #[x], #[t]⟩, rt, pos, after, guard⟩ s [] [] (.one (.int .i64 (rows.length : Nat))) :=
  loc_run fun F ρ h w ev H hx => by
    have h1 := (hx x (by simp [Op.operands, Call.operands])).1
    rw [hv] at h1
    obtain ⟨inf, z, t1, _⟩ := T.spec
    obtain ⟨a, cap, hp, _⟩ := h1
    exact ⟨.int .i64 (rows.length : Nat), by simp [execOp, resolve, invoke, builtin, Builtin.len_, hp, run_underlying t1, goInt, go_sem], rfl, trivial⟩
class TStr (P : Program) (t : TypeId) : Prop where
  ok : P.underlying t = some .string
theorem loc_lenStr {x : Operand} {t : TypeId} {b : ByteArray} [T : TStr P t] (hv : opU s.t x = .one (.str b)) :
    LocOp P ⟨dst, .call ⟨.builtin .len, #[x], #[t]⟩, rt, pos, after, guard⟩ s [] [] (.one (.int .i64 (b.size : Nat))) :=
  loc_run fun F ρ h w ev H hx => by
    have h1 := (hx x (by simp [Op.operands, Call.operands])).1
    rw [hv] at h1
    have h1 : ev x = .string b := h1
    exact ⟨.int .i64 (b.size : Nat), by simp [execOp, resolve, invoke, builtin, Builtin.len_, h1, run_underlying T.ok, goInt, go_sem], rfl, trivial⟩
/-- What an operation on two integers comes to. -/
def intOp (op : BinOp) (k : IntKind) (a b : Int) : Option C :=
  match op with
  | .add => some (.int k (k.wrap (a + b)))
  | .sub => some (.int k (k.wrap (a - b)))
  | .mul => some (.int k (k.wrap (a * b)))
  | .eql => some (.bool (a == b))
  | .neq => some (.bool (a != b))
  | .lss => some (.bool (decide (a < b)))
  | .leq => some (.bool (decide (a ≤ b)))
  | .gtr => some (.bool (decide (a > b)))
  | .geq => some (.bool (decide (a ≥ b)))
  | _ => none
theorem loc_binInt {op : BinOp} {t t' : TypeId} {x y : Operand} {k : IntKind} {a b : Int} {c : C} (hx' : opU s.t x = .one (.int k a)) (hy' : opU s.t y = .one (.int k b)) (hc : intOp op k a b = some c) :
    LocOp P ⟨dst, .binOp op t x y t', rt, pos, after, guard⟩ s [] [] (.one c) :=
  loc_run fun F ρ h w ev H hx => by
    have h1 := (hx x (by simp [Op.operands])).1
    have h2 := (hx y (by simp [Op.operands])).1
    rw [hx'] at h1
    rw [hy'] at h2
    have h1 : ev x = .int k a := h1
    have h2 : ev y = .int k b := h2
    cases op <;> simp only [intOp, Option.some.injEq, reduceCtorEq] at hc <;> subst hc <;>
      exact ⟨_, by simp [execOp, h1, h2, eqGuard, Go.binOp, Op.intArith, Op.intCmp, go_sem]; try rfl, rfl, trivial⟩
end ops
end Go.Proofs.YtnflnbdlgdjfmaaDoor
namespace Go.Proofs.YtnflnbdlgdjfmaaDoor
open Go.RowKit
set_option linter.unusedVariables false
set_option linter.unusedSimpArgs false
section ops
variable {P : Program} {s : St} {dst : Option Tmp} {rt : TypeId} {pos : String} {after : Array Edge} {guard : Option (Nat × Bool)}
theorem loc_not {t : TypeId} {x : Operand} {b : Bool} (hx' : opU s.t x = .one (.bool b)) : LocOp P ⟨dst, .unOp .not t x, rt, pos, after, guard⟩ s [] [] (.one (.bool (!b))) :=
  loc_run fun F ρ h w ev H hx => by
    have h1 := (hx x (by simp [Op.operands])).1
    rw [hx'] at h1
    have h1 : ev x = .bool b := h1
    exact ⟨.bool (!b), by simp [execOp, h1, Op.unary, go_sem], rfl, trivial⟩
theorem relU1_relU {F : Nat → Prop} {ρ : Nat → Lc} {w : World} {u : U} {v : Value} (h : relU1 F ρ w u v) : relU F ρ w u v := by
  cases u <;> first | exact h | exact h.elim
theorem okU1_okU {h : Nat → Option Blk} {F : Nat → Prop} {ρ : Nat → Lc} {w : World} {u : U} {v : Value} (hr : relU1 F ρ w u v) (ho : okU1 h u) : okU h u := by
  cases u <;> first | exact ho | exact hr.elim
theorem loc_extract {x : Operand} {i : Nat} {l : List U} {u : U} (hx' : opU s.t x = .tup l) (hu : l[i]? = some u) : LocOp P ⟨dst, .extract x i, rt, pos, after, guard⟩ s [] [] u :=
  loc_run fun F ρ h w ev H hx => by
    have h1 := hx x (by simp [Op.operands])
    rw [hx'] at h1
    obtain ⟨⟨vs, hv, ha⟩, hok⟩ := h1
    obtain ⟨v, hv', hr⟩ := ha.get i u hu
    refine ⟨v, ?_, relU1_relU hr, okU1_okU hr (hok u (List.mem_of_getElem? hu))⟩
    simp [execOp, hv, Instr.extract, hv', go_sem]
theorem elem_of {P : Program} {t e : TypeId} {k bytes : Nat} (T : TElem P t e k bytes) : P.underlying t = some (.slice e) ∧ (∃ inf, P.info? e = some inf ∧ inf.size = k) := by
  obtain ⟨inf, z, h1, h2, h3, _⟩ := T.spec
  exact ⟨h1, inf, h2, h3⟩
theorem run_slice_hm' {P : Program} {t e : TypeId} {k bytes : Nat} (T : TElem P t e k bytes) (w : World) (a : Option Addr) (n cap hi : Nat) (ik jk : IntKind) (h : hi ≤ cap) :
    (Instr.sliceAt t (.slice a n cap) none (some (.int ik hi)) (some (.int jk hi))).run P w = .ok (.slice (if hi = 0 then a else a) hi hi) w := by
  obtain ⟨h1, inf, h2, h3⟩ := elem_of T
  have e1 : (hi : Int) ≤ cap := by omega
  by_cases h0 : hi = 0
  · subst h0; simp [Instr.sliceAt, Instr.slice, Instr.sliceBounds, Instr.sliceBound, run_underlying h1, asIntOf, sizeOf, typeInfo, h2, go_sem]
  · cases a <;> simp [Instr.sliceAt, Instr.slice, Instr.sliceBounds, Instr.sliceBound, run_underlying h1, asIntOf, sizeOf, typeInfo, h2, h, h0, go_sem, Addr.add]
/-- 'x[:n:n]', all of it: no room behind. -/
theorem loc_sliceFull {t : TypeId} {x y z : Operand} {e : TypeId} {k bytes : Nat} {ik jk : IntKind} {rows : List (List C)} {m m' : Int} [T : TElem P t e k bytes] (hv : opU s.t x = .one (slOf k rows)) (hy : opU s.t y = .one (.int ik m)) (hz : opU s.t z = .one (.int jk m'))
    (hm : m = (rows.length : Nat)) (hm' : m' = (rows.length : Nat)) : LocOp P ⟨dst, .slice t x none (some y) (some z), rt, pos, after, guard⟩ s [] [] (.one (slFOf k rows)) :=
  loc_run fun F ρ h w ev H hx => by
    have h1 := (hx x (by simp [Op.operands])).1
    have h2 := (hx y (by simp [Op.operands])).1
    have h3 := (hx z (by simp [Op.operands])).1
    rw [hv] at h1
    rw [hy] at h2
    rw [hz] at h3
    have h2 : ev y = .int ik m := h2
    have h3 : ev z = .int jk m' := h3
    subst hm
    subst hm'
    obtain ⟨a, cap, hp, hcap, hmax, hj⟩ := h1
    refine ⟨.slice a rows.length rows.length, ?_, ⟨a, rfl, hmax, hj⟩, trivial⟩
    simp [execOp, hp, h2, h3, run_slice_hm' T w a rows.length cap rows.length ik jk hcap]
theorem run_slice_hi {P : Program} {t e : TypeId} {k bytes : Nat} (T : TElem P t e k bytes) (w : World) (a : Option Addr) (n cap hi : Nat) (jk : IntKind) (h : hi ≤ cap) :
    (Instr.sliceAt t (.slice a n cap) none (some (.int jk hi)) none).run P w = .ok (.slice a hi cap) w := by
  obtain ⟨h1, inf, h2, h3⟩ := elem_of T
  have e1 : (hi : Int) ≤ cap := by omega
  by_cases h0 : cap = 0
  · subst h0
    obtain rfl : hi = 0 := by omega
    simp [Instr.sliceAt, Instr.slice, Instr.sliceBounds, Instr.sliceBound, run_underlying h1, asIntOf, sizeOf, typeInfo, h2, go_sem]
  · cases a <;> simp [Instr.sliceAt, Instr.slice, Instr.sliceBounds, Instr.sliceBound, run_underlying h1, asIntOf, sizeOf, typeInfo, h2, h, h0, go_sem, Addr.add]
theorem run_slice_lo {P : Program} {t e : TypeId} {k bytes : Nat} (T : TElem P t e k bytes) (w : World) (g o n cap lo : Nat) (jk : IntKind) (h : lo ≤ n) (hc : n ≤ cap) :
    (Instr.sliceAt t (.slice (some ⟨g, o, none⟩) n cap) (some (.int jk lo)) none none).run P w = .ok (.slice (some (if cap = lo then ⟨g, o, none⟩ else ⟨g, o + lo * k, none⟩)) (n - lo) (cap - lo)) w := by
  obtain ⟨h1, inf, h2, h3⟩ := elem_of T
  have e1 : (lo : Int) ≤ n := by omega
  simp [Instr.sliceAt, Instr.slice, Instr.sliceBounds, Instr.sliceBound, run_underlying h1, asIntOf, sizeOf, typeInfo, h2, h3, h, go_sem, Addr.add_mid]
  try (split <;> rfl)
/-- 'x[n:]' of what turns no more. -/
theorem loc_sliceLo {t : TypeId} {x y : Operand} {e : TypeId} {k bytes n : Nat} {jk : IntKind} {rows : List (List C)} {m : Int} [T : TElem P t e k bytes] (hv : opU s.t x = .one (slOf k rows)) (hy : opU s.t y = .one (.int jk m)) (hm : m = (n : Nat)) (hn : n ≤ rows.length) (hne : 0 < rows.length) :
    LocOp P ⟨dst, .slice t x (some y) none none, rt, pos, after, guard⟩ s [] [] (.one (slOf k (rows.drop n))) :=
  loc_run fun F ρ h w ev H hx => by
    have h1 := (hx x (by simp [Op.operands])).1
    have h2 := (hx y (by simp [Op.operands])).1
    rw [hv] at h1
    rw [hy] at h2
    have h2 : ev y = .int jk m := h2
    subst hm
    obtain ⟨a, cap, hp, hcap, hmax, hj⟩ := h1
    obtain ⟨g, o, rfl, hF, _⟩ := hj 0 hne
    have hl : (rows.drop n).length = rows.length - n := List.length_drop
    refine ⟨.slice (some (if cap = n then ⟨g, o, none⟩ else ⟨g, o + n * k, none⟩)) (rows.length - n) (cap - n), ?_, ⟨_, cap - n, by rw [hl], by omega, by omega, fun i hi => ?_⟩, trivial⟩
    · simp [execOp, hp, h2, run_slice_lo T w g o rows.length cap n jk hn hcap]
    · rw [hl] at hi
      rw [if_neg (by omega)]
      obtain ⟨g', o', ha, hF', hj'⟩ := hj (n + i) (by omega)
      cases ha
      refine ⟨g, o + n * k, rfl, hF, fun j hjk => ?_⟩
      obtain ⟨u, hu, hr⟩ := hj' j hjk
      refine ⟨u, ?_, ?_⟩
      · rw [show o + n * k + i * k + j = o + (n + i) * k + j by rw [Nat.add_mul]; omega]; exact hu
      · show relK F w (rowF ((rows.drop n).getD i []) j) u
        rw [List.getD_eq_getElem?_getD, List.getElem?_drop, ← List.getD_eq_getElem?_getD]
        exact hr
/-- 'x[:n]' of a row of the call's own. -/
theorem loc_sliceOwn {t : TypeId} {x y : Operand} {e : TypeId} {k bytes b v n n' : Nat} {jk : IntKind} {rows : List (List C)} {m : Int} [T : TElem P t e k bytes] (hv : opU s.t x = .one (.own b v n)) (hy : opU s.t y = .one (.int jk m)) (hm : m = (n' : Nat)) (hb : s.h b = some (.row e k v rows)) (hn : n' ≤ rows.length) (hnn : n ≤ rows.length) :
    LocOp P ⟨dst, .slice t x none (some y) none, rt, pos, after, guard⟩ s [b] [] (.one (.own b v n')) :=
  loc_runR b _ hb fun F ρ h w ev H hb hx => by
    have h1 := hx x (by simp [Op.operands])
    have h2 := (hx y (by simp [Op.operands])).1
    rw [hv] at h1
    rw [hy] at h2
    have h2 : ev y = .int jk m := h2
    subst hm
    have hB := H.blk b _ hb
    rcases h1.1.2 (H.ver hb) with ⟨hg, h0, hp⟩ | ⟨g, hg, hp⟩
    · obtain ⟨_, _, ⟨_, hr⟩ | ⟨g', _, hg', _⟩⟩ := hB
      · subst hr
        obtain rfl : n' = 0 := by simpa using hn
        exact ⟨.slice none 0 0, by
          have hq := run_slice_hi T w none 0 0 0 jk (Nat.le_refl _)
          simp only [Int.natCast_zero] at hq h2
          simp [execOp, hp, h2, hq], ⟨rfl, fun _ => .inl ⟨hg, rfl, rfl⟩⟩, h1.2⟩
      · rw [hg] at hg'; cases hg'
    · obtain ⟨_, _, ⟨hg', _⟩ | ⟨g', cs, hg', _, _, hle, _⟩⟩ := hB
      · rw [hg] at hg'; cases hg'
      · exact ⟨.slice (some ⟨g, 0, none⟩) n' (ρ b).cap, by simp [execOp, hp, h2, run_slice_hi T w (some ⟨g, 0, none⟩) n (ρ b).cap n' jk (by omega)], ⟨rfl, fun _ => .inr ⟨g, hg, rfl⟩⟩, h1.2⟩
end ops
end Go.Proofs.YtnflnbdlgdjfmaaDoor
namespace Go.Proofs.YtnflnbdlgdjfmaaDoor
open Go.RowKit
set_option linter.unusedVariables false
set_option linter.unusedSimpArgs false
theorem HRel.glt {F : Nat → Prop} {ρ : Nat → Lc} {h : Nat → Option Blk} {w : World} (H : HRel F ρ h w) {b g : Nat} (hb : h b ≠ none) (hg : (ρ b).g = some g) : g < w.heap.size := by
  cases hx : h b with
  | none => exact absurd hx hb
  | some x =>
    have := H.blk b x hx
    cases x with
    | obj cells =>
      obtain ⟨_, g', e, cs, hg', hh, _⟩ := this
      rw [hg] at hg'; cases hg'
      exact (Array.getElem?_eq_some_iff.1 hh).1
    | row e k v rows =>
      obtain ⟨_, _, ⟨h0, _⟩ | ⟨g', cs, hg', hh, _⟩⟩ := this
      · rw [hg] at h0; cases h0
      · rw [hg] at hg'; cases hg'
        exact (Array.getElem?_eq_some_iff.1 hh).1
theorem blkRel_move {F F' : Nat → Prop} {ρ ρ' : Nat → Lc} {h : Nat → Option Blk} {w w' : World} (H : HRel F ρ h w) (hF : ∀ k, F k → F' k) (hw : ∀ k, F k → w'.heap[k]? = w.heap[k]?)
    (hs : ∀ b, h b ≠ none → ρ' b = ρ b ∨ (ρ b).v < (ρ' b).v) {b : Nat} {x : Blk} (hb : h b = some x) (he : ρ' b = ρ b) (hg : ∀ g, (ρ b).g = some g → w'.heap[g]? = w.heap[g]?) : blkRel F' ρ' w' b x := by
  have hB := H.blk b x hb
  have hO := H.ok b x hb
  cases x with
  | obj cells =>
    obtain ⟨hv, g, e, cs, h1, h2, hj⟩ := hB
    refine ⟨by rw [he]; exact hv, g, e, cs, by rw [he]; exact h1, (hg g h1).trans h2, fun j c hc => ?_⟩
    obtain ⟨u, hu, hr⟩ := hj j c hc
    exact ⟨u, hu, relC_move H hF hw hs (hO c (List.mem_of_getElem? hc)) hr⟩
  | row e k v rows =>
    obtain ⟨hv, hk, hr⟩ := hB
    refine ⟨by rw [he]; exact hv, hk, ?_⟩
    rcases hr with ⟨h1, h2⟩ | ⟨g, cs, h1, h2, h3, h4, h5, hj⟩
    · exact .inl ⟨by rw [he]; exact h1, h2⟩
    · refine .inr ⟨g, cs, by rw [he]; exact h1, (hg g h1).trans h2, by rw [he]; exact h3, by rw [he]; exact h4, by rw [he]; exact h5, fun i row hi => ⟨(hj i row hi).1, fun j c hc => ?_⟩⟩
      obtain ⟨u, hu, hr⟩ := (hj i row hi).2 j c hc
      exact ⟨u, hu, relC_move H hF hw hs (hO row (List.mem_of_getElem? hi) c (List.mem_of_getElem? hc)) hr⟩
theorem okBlk_move {h h' : Nat → Option Blk} (hl : ∀ b x, h b = some x → ∃ x', h' b = some x' ∧ leB x x') {x : Blk} (hok : okBlk h x) : okBlk h' x := by
  cases x with
  | obj cells => exact fun c hc => okC_move hl (hok c hc)
  | row e k v rows => exact fun row hr c hc => okC_move hl (hok row hr c hc)
/-- ONE BLOCK TURNS, or comes in. -/
theorem moves_patch {d : List Nat} {F F' : Nat → Prop} {ρ ρ' : Nat → Lc} {h : Nat → Option Blk} {w w' : World} (H : HRel F ρ h w) (b : Nat) (x' : Blk) (hρ : ∀ c, c ≠ b → ρ' c = ρ c)
    (hb : (h b = none ∧ b ∉ d) ∨ ∃ x, h b = some x ∧ leB x x' ∧ (ρ' b = ρ b ∨ (ρ b).v < (ρ' b).v)) (hF : ∀ k, F k → F' k) (hFnew : ∀ k, F' k → F k ∨ w.heap.size ≤ k) (hFlt : ∀ k, F' k → k < w'.heap.size)
    (keep : ∀ k, k < w.heap.size → (h b = none ∨ (ρ b).g ≠ some k) → w'.heap[k]? = w.heap[k]?) (os : w'.os = w.os) (tape : w'.tape = w.tape) (output : w'.output = w.output) (size : w.heap.size ≤ w'.heap.size)
    (hnew : (∀ c v, okC h c → relC F ρ w c v → relC F' ρ' w' c v) → blkRel F' ρ' w' b x') (hg : ∀ g, (ρ' b).g = some g → (h b ≠ none ∧ (ρ b).g = some g) ∨ w.heap.size ≤ g) (hnF : ∀ g, (ρ' b).g = some g → ¬ F' g)
    (hok : (∀ c, okC h c → okC (upd h b (some x')) c) → okBlk (upd h b (some x')) x') : Moves d F ρ h w F' ρ' (upd h b (some x')) w' := by
  have stb : ∀ c, h c ≠ none → ρ' c = ρ c ∨ (ρ c).v < (ρ' c).v := fun c hc => by
    by_cases hcb : c = b
    · subst hcb
      rcases hb with ⟨h0, _⟩ | ⟨x, _, _, h1⟩
      · exact absurd h0 hc
      · exact h1
    · exact .inl (hρ c hcb)
  have same : ∀ k, F k → w'.heap[k]? = w.heap[k]? := fun k hk => keep k (H.lt k hk) (by
    rcases hb with ⟨h0, _⟩ | ⟨x, hx, _⟩
    · exact .inl h0
    · exact .inr fun hgk => H.notF b k (by rw [hx]; simp) hgk hk)
  have le : ∀ c x, h c = some x → ∃ x'', upd h b (some x') c = some x'' ∧ leB x x'' := fun c x hx => by
    by_cases hcb : c = b
    · subst hcb
      rcases hb with ⟨h0, _⟩ | ⟨x0, hx0, h1, _⟩
      · rw [hx] at h0; cases h0
      · rw [hx] at hx0; cases hx0
        exact ⟨x', upd_same .., h1⟩
    · exact ⟨x, (upd_ne _ _ hcb).trans hx, leB_refl x⟩
  have hrel : ∀ c v, okC h c → relC F ρ w c v → relC F' ρ' w' c v := fun c v ho hr => relC_move H hF same stb ho hr
  have hnb : ∀ c, c ≠ b → upd h b (some x') c = h c := fun c hc => upd_ne _ _ hc
  refine ⟨hF, same, stb, fun c hc => ?_, ⟨fun c x hx => ?_, fun c c' g hc hc' hgc hgc' => ?_, fun c g hc hgc => ?_, hFlt, fun c x hx => ?_, fun g c hgl => relK_mono hF same (H.gl g c hgl), fun g p hx => ⟨hF g (H.gx g p hx).1, by rw [same g (H.gx g p hx).1]; exact (H.gx g p hx).2⟩⟩, le, fun c g hc hgc => ?_, fun k hk => (hFnew k hk).imp id .inl, os, tape, output, size, fun k hk hno => keep k hk ?_⟩
  · by_cases hcb : c = b
    · subst hcb
      rcases hb with ⟨_, h0⟩ | ⟨x, _, _, h1⟩
      · exact absurd hc h0
      · exact h1
    · exact .inl (hρ c hcb)
  · by_cases hcb : c = b
    · subst hcb
      rw [upd_same] at hx; cases hx
      exact hnew hrel
    · rw [hnb c hcb] at hx
      refine blkRel_move H hF same stb hx (hρ c hcb) fun g hgc => keep g (H.glt (by rw [hx]; simp) hgc) ?_
      rcases hb with ⟨h0, _⟩ | ⟨x0, hx0, _⟩
      · exact .inl h0
      · exact .inr fun hgb => hcb (H.inj c b g (by rw [hx]; simp) (by rw [hx0]; simp) hgc hgb)
  · have key : ∀ c', c' ≠ b → upd h b (some x') c' ≠ none → (ρ' c').g = some g → (ρ' b).g = some g → False := fun c' hne hc' h1 h2 => by
      rw [hnb c' hne] at hc'
      rw [hρ c' hne] at h1
      rcases hg g h2 with ⟨h3, h4⟩ | h3
      · exact hne (H.inj c' b g hc' h3 h1 h4)
      · have := H.glt hc' h1; omega
    by_cases h1 : c = b <;> by_cases h2 : c' = b
    · rw [h1, h2]
    · subst h1; exact (key c' h2 hc' hgc' hgc).elim
    · subst h2; exact (key c h1 hc hgc hgc').elim
    · rw [hnb c h1] at hc; rw [hnb c' h2] at hc'; rw [hρ c h1] at hgc; rw [hρ c' h2] at hgc'
      exact H.inj c c' g hc hc' hgc hgc'
  · by_cases h1 : c = b
    · subst h1; exact hnF g hgc
    · rw [hnb c h1] at hc; rw [hρ c h1] at hgc
      intro hf
      rcases hFnew g hf with h2 | h2
      · exact H.notF c g hc hgc h2
      · have := H.glt hc hgc; omega
  · by_cases hcb : c = b
    · subst hcb
      rw [upd_same] at hx; cases hx
      exact hok fun c hc => okC_move le hc
    · rw [hnb c hcb] at hx
      exact okBlk_move le (H.ok c x hx)
  · by_cases h1 : c = b
    · subst h1
      rcases hg g hgc with ⟨h2, h3⟩ | h2
      · exact .inl ⟨c, h2, h3⟩
      · exact .inr h2
    · rw [hnb c h1] at hc; rw [hρ c h1] at hgc
      exact .inl ⟨c, hc, hgc⟩
  · by_cases h0 : h b = none
    · exact .inl h0
    · exact .inr (hno b h0)
/-- Nothing named turns; new blocks may turn no more. -/
theorem moves_quiet {d : List Nat} {F F' : Nat → Prop} {ρ : Nat → Lc} {h : Nat → Option Blk} {w w' : World} (H : HRel F ρ h w) (hx : Below w.heap.size w w') (hF : ∀ k, F k → F' k) (hFnew : ∀ k, F' k → F k ∨ w.heap.size ≤ k) (hFlt : ∀ k, F' k → k < w'.heap.size) :
    Moves d F ρ h w F' ρ h w' := by
  have same : ∀ k, F k → w'.heap[k]? = w.heap[k]? := fun k hk => hx.block k (H.lt k hk)
  refine ⟨hF, same, fun _ _ => .inl rfl, fun _ _ => .inl rfl, ⟨fun b x hb => blkRel_move H hF same (fun _ _ => .inl rfl) hb rfl fun g hg => hx.block g (H.glt (by rw [hb]; simp) hg), H.inj, fun b g hb hg hf => ?_, hFlt, H.ok, fun g c hgl => relK_mono hF same (H.gl g c hgl), fun g p hx => ⟨hF g (H.gx g p hx).1, by rw [same g (H.gx g p hx).1]; exact (H.gx g p hx).2⟩⟩,
    fun b x hb => ⟨x, hb, leB_refl x⟩, fun b g hb hg => .inl ⟨b, hb, hg⟩, fun k hk => (hFnew k hk).imp id .inl, hx.os, hx.tape, hx.output, hx.size, fun k hk _ => hx.block k hk⟩
  rcases hFnew g hf with h1 | h1
  · exact H.notF b g hb hg h1
  · have := H.glt hb hg; omega
/-- Cells written one behind the other. -/
def setL (cells : List C) (o : Nat) : List C → List C
  | [] => cells
  | c :: l => setL (cells.set o c) (o + 1) l
theorem setL_get : ∀ (l cells : List C) (o j : Nat), (setL cells o l)[j]? = if o ≤ j ∧ j < o + l.length ∧ j < cells.length then l[j - o]? else cells[j]?
  | [], cells, o, j => by
    rw [if_neg (by simp; omega)]; rfl
  | c :: l, cells, o, j => by
    rw [setL, setL_get l (cells.set o c) (o + 1) j, List.length_set, List.length_cons]
    by_cases h1 : o = j
    · subst h1
      rw [if_neg (by omega)]
      by_cases h2 : o < cells.length
      · rw [if_pos ⟨Nat.le_refl _, by omega, h2⟩, List.getElem?_set_self h2]; simp
      · rw [if_neg (by omega), List.getElem?_eq_none (by simp; omega), List.getElem?_eq_none (by omega)]
    · rw [List.getElem?_set_ne h1]
      by_cases h2 : o + 1 ≤ j ∧ j < o + 1 + l.length ∧ j < cells.length
      · rw [if_pos h2, if_pos ⟨by omega, by omega, h2.2.2⟩]
        rw [show j - o = (j - (o + 1)) + 1 by omega]
        simp
      · rw [if_neg h2, if_neg (by omega)]
theorem setL_length : ∀ (l cells : List C) (o : Nat), (setL cells o l).length = cells.length
  | [], _, _ => rfl
  | c :: l, cells, o => by rw [setL, setL_length l]; simp
theorem setL_all {cells l : List C} (h : l.length = cells.length) : setL cells 0 l = l := by
  apply List.ext_getElem?
  intro j
  rw [setL_get]
  by_cases hj : j < cells.length
  · rw [if_pos ⟨Nat.zero_le _, by omega, hj⟩]; simp
  · rw [if_neg (by omega), List.getElem?_eq_none (by omega), List.getElem?_eq_none (by omega)]
theorem setCells_heap_ne (b : Nat) : ∀ (vs : List Value) (o : Nat) (w : World) (k : Nat), k ≠ b → (w.setCells b o vs).heap[k]? = w.heap[k]?
  | [], _, _, _, _ => rfl
  | v :: vs, o, w, k, hk => by
    rw [World.setCells, setCells_heap_ne b vs (o + 1) _ k hk]
    exact Below.heap_setCell w ⟨b, o, none⟩ v k hk
theorem setCells_heap (b : Nat) (e : TypeId) : ∀ (vs : List Value) (o : Nat) (w : World) (cs : Array Value), w.heap[b]? = some (.cells cs e (0, 0)) →
    ∃ cs' : Array Value, (w.setCells b o vs).heap[b]? = some (.cells cs' e (0, 0)) ∧ cs'.size = cs.size ∧ ∀ (j : Nat), cs'[j]? = if o ≤ j ∧ j < o + vs.length ∧ j < cs.size then vs[j - o]? else cs[j]?
  | [], o, w, cs, h => ⟨cs, h, rfl, fun j => by rw [if_neg (by simp; omega)]⟩
  | v :: vs, o, w, cs, h => by
    have h1 : (w.setCell ⟨b, o, none⟩ v).heap[b]? = some (.cells (cs.setIfInBounds o v) e (0, 0)) := by
      simp only [World.setCell, Array.getElem?_modify, if_true, h, Option.map_some, Option.isSome_none, Bool.false_eq_true, if_false]
    obtain ⟨cs', h2, h3, h4⟩ := setCells_heap b e vs (o + 1) _ _ h1
    refine ⟨cs', h2, by rw [h3]; simp, fun j => ?_⟩
    rw [h4 j, Array.size_setIfInBounds, List.length_cons]
    by_cases h5 : o = j
    · subst h5
      rw [if_neg (by omega)]
      by_cases h6 : o < cs.size
      · rw [if_pos ⟨Nat.le_refl _, by omega, h6⟩]; simp [h6]
      · rw [if_neg (by omega), Array.getElem?_eq_none (by simp; omega), Array.getElem?_eq_none (by omega)]
    · rw [Array.getElem?_setIfInBounds_ne h5]
      by_cases h6 : o + 1 ≤ j ∧ j < o + 1 + vs.length ∧ j < cs.size
      · rw [if_pos h6, if_pos ⟨by omega, by omega, h6.2.2⟩, show j - o = (j - (o + 1)) + 1 by omega]; simp
      · rw [if_neg h6, if_neg (by omega)]
theorem setCells_same (b : Nat) : ∀ (vs : List Value) (o : Nat) (w : World), (w.setCells b o vs).os = w.os ∧ (w.setCells b o vs).tape = w.tape ∧ (w.setCells b o vs).output = w.output ∧ (w.setCells b o vs).heap.size = w.heap.size
  | [], _, _ => ⟨rfl, rfl, rfl, rfl⟩
  | v :: vs, o, w => by
    obtain ⟨h1, h2, h3, h4⟩ := setCells_same b vs (o + 1) (w.setCell ⟨b, o, none⟩ v)
    exact ⟨h1, h2, h3, by rw [World.setCells, h4]; simp [World.setCell]⟩
/-- What is stored: the value's cells. -/
def cellsU : U → Option (List C)
  | .one c => some [c]
  | .agg l => some l
  | _ => none
theorem cellsU_rel {F : Nat → Prop} {ρ : Nat → Lc} {w : World} {h : Nat → Option Blk} {u : U} {l : List C} {v : Value} (hu : cellsU u = some l) (hr : relU F ρ w u v) (hok : okU h u) : ∃ vs : List Value, v.cells.toList = vs ∧ All2 (relC F ρ w) l vs ∧ ∀ c ∈ l, okC h c := by
  cases u with
  | any => cases hu
  | tup l => cases hu
  | one c =>
    cases hu
    refine ⟨[v], ?_, ⟨hr, trivial⟩, fun c hc => by rw [List.mem_singleton.1 hc]; exact hok⟩
    have : v.oneCell' = true := relC_one hr
    cases v <;> first | rfl | cases this
  | agg l' =>
    cases hu
    obtain ⟨vs, rfl, ha⟩ := hr
    exact ⟨vs, rfl, ha, hok⟩
theorem all2_one {F : Nat → Prop} {ρ : Nat → Lc} {w : World} : ∀ {l : List C} {vs : List Value}, All2 (relC F ρ w) l vs → ∀ v ∈ vs, v.oneCell' = true
  | [], [], _, v, hv => by cases hv
  | c :: l, u :: vs, ⟨h, hr⟩, v, hv => by
    rcases List.mem_cons.1 hv with rfl | hv
    · exact relC_one h
    · exact all2_one hr v hv
  | [], _ :: _, h, _, _ => h.elim
  | _ :: _, [], h, _, _ => h.elim
theorem run_storeAt_cells {P : Program} (w : World) (g o : Nat) (t : TypeId) (v : Value) (n : Nat) (hi : (P.info? t).map (·.size) = some n) (hn : v.cells.toList.length = n) (h1 : ∀ u ∈ v.cells.toList, u.oneCell' = true)
    (ht : ∀ j, j < n → (w.cell? ⟨g, o + j, none⟩).isSome = true ∧ w.frozen? ⟨g, o + j, none⟩ = false) :
    (Instr.storeAt t (.pointer (some ⟨g, o, none⟩)) v).run P w = .ok () (w.setCells g o v.cells.toList) := by
  cases hq : P.info? t with
  | none => simp [hq] at hi
  | some i =>
    have hs : i.size = n := by simpa [hq] using hi
    have hst := run_storeCells_cells (P := P) g o v.cells.toList 0 w (fun j hj => by rw [Nat.add_zero]; exact (ht j (by omega)).1) (fun j hj => by rw [Nat.add_zero]; exact (ht j (by omega)).2) h1
    simp only [Nat.add_zero] at hst
    have hsz : v.cells.size = n := by rw [← hn]; simp
    simp only [Instr.storeAt, storeVar]
    generalize v.cells = vc at *
    simp [Instr.sureAddr, sizeOf, typeInfo, hq, hs, hsz, hst, go_sem]
section ops
variable {P : Program} {s : St} {dst : Option Tmp} {rt : TypeId} {pos : String} {after : Array Edge} {guard : Option (Nat × Bool)}
/-- A type of n cells. -/
class TSize (P : Program) (t : TypeId) (n : outParam Nat) : Prop where
  ok : ((P.info? t).map (·.size) == some n) = true
theorem TSize.spec {P : Program} {t : TypeId} {n : Nat} (h : TSize P t n) : (P.info? t).map (·.size) = some n := by simpa using h.ok
theorem loc_store {t : TypeId} {x y : Operand} {b o n : Nat} {cells l : List C} {u : U} [T : TSize P t n] (hv : opU s.t x = .one (.ptr b o)) (hy : opU s.t y = u) (hu : cellsU u = some l) (hb : s.h b = some (.obj cells)) (hl : l.length = n) (ho : o + n ≤ cells.length) {cells' : List C} (hset : setL cells o l = cells') :
    LocOp P ⟨none, .store t x y, rt, pos, after, guard⟩ s [] [(b, some (.obj cells'))] .any := by
  intro F ρ h w a Q H hR hx
  have hb : h b = some (.obj cells) := (hR b (.inr (by simp [namesP]))).trans hb
  have h1 := (opU_rel H hx x (by simp [Op.operands])).1
  have h2 := opU_rel H hx y (by simp [Op.operands])
  rw [hv] at h1
  rw [hy] at h2
  obtain ⟨g, hg, hp⟩ := h1.2 (H.ver hb)
  obtain ⟨hver, g', e, cs, hg', hh, hj⟩ := H.blk b _ hb
  obtain rfl : g = g' := Option.some.inj (hg.symm.trans hg')
  obtain ⟨vs, hvs, hall, hokl⟩ := cellsU_rel hu h2.1 h2.2
  have hlen : vs.length = n := by rw [← hall.length]; exact hl
  have hcs : cells.length ≤ cs.size := by
    rcases Nat.lt_or_ge cs.size cells.length with hlt | hge
    · obtain ⟨u, hu', _⟩ := hj cs.size cells[cs.size] (by simp [hlt])
      rw [Array.getElem?_eq_none (Nat.le_refl _)] at hu'; cases hu'
    · exact hge
  have hrun : (execOp a.eval (⟨none, .store t x y, rt, pos, after, guard⟩ : Oper)).run P w = .ok .skip (w.setCells g o vs) := by
    have hs := run_storeAt_cells (P := P) w g o t (a.eval y) n T.spec (by rw [hvs]; exact hlen) (by rw [hvs]; exact all2_one hall) fun j hj' => by
      have hlt : o + j < cs.size := by omega
      exact ⟨by simp [World.cell?, hh, hlt], by simp [World.frozen?, hh]⟩
    rw [hvs] at hs
    rw [show execOp a.eval (⟨none, .store t x y, rt, pos, after, guard⟩ : Oper) = (do Instr.storeAt t (a.eval x) (a.eval y); pure Next.skip) from rfl, hp, Sem.run_bind, hs]
    rfl
  unfold Oper.wp
  rw [hrun]
  obtain ⟨cs', h3, h4, h5⟩ := setCells_heap g e vs o w cs hh
  obtain ⟨s1, s2, s3, s4⟩ := setCells_same g vs o w
  refine ⟨undef, F, ρ, rfl, moves_patch H b (.obj cells') (fun _ _ => rfl) (.inr ⟨_, hb, trivial, .inl rfl⟩) (fun _ h => h) (fun _ h => .inl h) (fun k hk => by rw [s4]; exact H.lt k hk) (fun k hk hno => setCells_heap_ne g vs o w k fun e => ?_) s1 s2 s3 (Nat.le_of_eq s4.symm) (fun hrel => ?_) (fun g' h' => .inl ⟨by rw [hb]; simp, h'⟩) (fun g' h' => H.notF b g' (by rw [hb]; simp) h') (fun hokm => ?_), trivial, trivial⟩
  · rcases hno with h' | h'
    · rw [hb] at h'; cases h'
    · exact h' (by rw [hg, e])
  · refine ⟨hver, g, e, cs', hg, h3, fun j c hc => ?_⟩
    rw [← hset, setL_get] at hc
    rw [h5 j]
    split at hc
    · rename_i hin
      rw [if_pos ⟨hin.1, by rw [hlen, ← hl]; exact hin.2.1, by omega⟩]
      obtain ⟨v, hv', hr⟩ := hall.get (j - o) c hc
      exact ⟨v, hv', hrel c v (hokl c (List.mem_of_getElem? hc)) hr⟩
    · rename_i hin
      have hjc := (List.getElem?_eq_some_iff.1 hc).1
      rw [if_neg (by rw [hlen, ← hl]; omega)]
      obtain ⟨v, hv', hr⟩ := hj j c hc
      exact ⟨v, hv', hrel c v (H.ok b _ hb c (List.mem_of_getElem? hc)) hr⟩
  · intro c hc
    obtain ⟨j, hjl, hje⟩ := List.getElem_of_mem hc
    have hc' : cells'[j]? = some c := by rw [List.getElem?_eq_getElem hjl, hje]
    rw [← hset, setL_get] at hc'
    split at hc'
    · exact hokm c (hokl c (List.mem_of_getElem? hc'))
    · exact hokm c (H.ok b _ hb c (List.mem_of_getElem? hc'))
/-- All of a variable. -/
theorem loc_storeW {t : TypeId} {x y : Operand} {b n : Nat} {cells l : List C} {u : U} [T : TSize P t n] (hv : opU s.t x = .one (.ptr b 0)) (hy : opU s.t y = u) (hu : cellsU u = some l) (hb : s.h b = some (.obj cells)) (hl : l.length = n) (hn : cells.length = n) :
    LocOp P ⟨none, .store t x y, rt, pos, after, guard⟩ s [] [(b, some (.obj l))] .any :=
  loc_store hv hy hu hb hl (by omega) (setL_all (by omega))
/-- Into an element of a row of the call's own. -/
theorem loc_storeE {t : TypeId} {x y : Operand} {b v k i o n : Nat} {e : TypeId} {rows : List (List C)} {row l : List C} {u : U} [T : TSize P t n] (hv : opU s.t x = .one (.eptr b v k i o)) (hy : opU s.t y = u) (hu : cellsU u = some l) (hb : s.h b = some (.row e k v rows)) (hi : rows[i]? = some row) (hl : l.length = n) (ho : o + n ≤ row.length) {row' : List C} (hset : setL row o l = row') {rows' : List (List C)} (hrs : rows.set i row' = rows') :
    LocOp P ⟨none, .store t x y, rt, pos, after, guard⟩ s [] [(b, some (.row e k v rows'))] .any := by
  intro F ρ h w a Q H hR hx
  have hb : h b = some (.row e k v rows) := (hR b (.inr (by simp [namesP]))).trans hb
  have h1 := (opU_rel H hx x (by simp [Op.operands])).1
  have h2 := opU_rel H hx y (by simp [Op.operands])
  rw [hv] at h1
  rw [hy] at h2
  obtain ⟨g, hg, hp⟩ := h1.2 (H.ver hb)
  have hlt := (List.getElem?_eq_some_iff.1 hi).1
  obtain ⟨hver, hk, ⟨_, h0⟩ | ⟨g', cs, hg', hh, hcs, hle, hmax, hj⟩⟩ := H.blk b _ hb
  · subst h0; simp at hlt
  obtain rfl : g = g' := Option.some.inj (hg.symm.trans hg')
  obtain ⟨vs, hvs, hall, hokl⟩ := cellsU_rel hu h2.1 h2.2
  have hlen : vs.length = n := by rw [← hall.length]; exact hl
  have hrow := (hj i row hi).1
  have hin : i * k + row.length ≤ cs.size := by
    rw [hcs, hrow, ← Nat.succ_mul]
    exact Nat.mul_le_mul_right k (by omega)
  have hrun : (execOp a.eval (⟨none, .store t x y, rt, pos, after, guard⟩ : Oper)).run P w = .ok .skip (w.setCells g (i * k + o) vs) := by
    have hs := run_storeAt_cells (P := P) w g (i * k + o) t (a.eval y) n T.spec (by rw [hvs]; exact hlen) (by rw [hvs]; exact all2_one hall) fun j hj' => by
      have hlt : i * k + o + j < cs.size := by omega
      exact ⟨by simp [World.cell?, hh, hlt], by simp [World.frozen?, hh]⟩
    rw [hvs] at hs
    rw [show execOp a.eval (⟨none, .store t x y, rt, pos, after, guard⟩ : Oper) = (do Instr.storeAt t (a.eval x) (a.eval y); pure Next.skip) from rfl, hp, Sem.run_bind, hs]
    rfl
  unfold Oper.wp
  rw [hrun]
  obtain ⟨cs', h3, h4, h5⟩ := setCells_heap g e vs (i * k + o) w cs hh
  obtain ⟨s1, s2, s3, s4⟩ := setCells_same g vs (i * k + o) w
  have hrow' : row'.length = row.length := by rw [← hset, setL_length]
  refine ⟨undef, F, ρ, rfl, moves_patch H b (.row e k v rows') (fun _ _ => rfl) (.inr ⟨_, hb, Nat.le_refl _, .inl rfl⟩) (fun _ h => h) (fun _ h => .inl h) (fun k hk => by rw [s4]; exact H.lt k hk) (fun k' hk' hno => setCells_heap_ne g vs _ w k' fun e => ?_) s1 s2 s3 (Nat.le_of_eq s4.symm) (fun hrel => ?_) (fun g' h' => .inl ⟨by rw [hb]; simp, h'⟩) (fun g' h' => H.notF b g' (by rw [hb]; simp) h') (fun hokm => ?_), trivial, trivial⟩
  · rcases hno with h' | h'
    · rw [hb] at h'; cases h'
    · exact h' (by rw [hg, e])
  · refine ⟨hver, hk, .inr ⟨g, cs', hg, h3, h4.trans hcs, by rw [← hrs]; simpa using hle, hmax, fun i' r hr => ?_⟩⟩
    rw [← hrs] at hr
    by_cases hii : i = i'
    · subst hii
      rw [List.getElem?_set_self hlt] at hr
      cases hr
      refine ⟨hrow'.trans hrow, fun j c hc => ?_⟩
      rw [h5]
      rw [← hset, setL_get] at hc
      split at hc
      · rename_i hin'
        rw [if_pos ⟨by omega, by rw [hlen, ← hl]; omega, by omega⟩, show i * k + j - (i * k + o) = j - o by omega]
        obtain ⟨v, hv', hr⟩ := hall.get (j - o) c hc
        exact ⟨v, hv', hrel c v (hokl c (List.mem_of_getElem? hc)) hr⟩
      · rename_i hin'
        have hjc := (List.getElem?_eq_some_iff.1 hc).1
        rw [if_neg (by rw [hlen, ← hl]; omega)]
        obtain ⟨v, hv', hr⟩ := (hj i row hi).2 j c hc
        exact ⟨v, hv', hrel c v (H.ok b _ hb row (List.mem_of_getElem? hi) c (List.mem_of_getElem? hc)) hr⟩
    · rw [List.getElem?_set_ne hii] at hr
      refine ⟨(hj i' r hr).1, fun j c hc => ?_⟩
      have hjk : j < k := by rw [← (hj i' r hr).1]; exact (List.getElem?_eq_some_iff.1 hc).1
      rw [h5, if_neg ?_]
      · obtain ⟨v, hv', hrc⟩ := (hj i' r hr).2 j c hc
        exact ⟨v, hv', hrel c v (H.ok b _ hb r (List.mem_of_getElem? hr) c (List.mem_of_getElem? hc)) hrc⟩
      · rintro ⟨q1, q2, _⟩
        rcases Nat.lt_or_gt_of_ne hii with hlt' | hgt
        · have : (i + 1) * k ≤ i' * k := Nat.mul_le_mul_right k hlt'
          rw [Nat.succ_mul] at this
          omega
        · have : (i' + 1) * k ≤ i * k := Nat.mul_le_mul_right k hgt
          rw [Nat.succ_mul] at this
          omega
  · intro r hr c hc
    obtain ⟨i', hil, hie⟩ := List.getElem_of_mem hr
    have hr' : rows'[i']? = some r := by rw [List.getElem?_eq_getElem hil, hie]
    rw [← hrs] at hr'
    by_cases hii : i = i'
    · subst hii
      rw [List.getElem?_set_self hlt] at hr'
      cases hr'
      obtain ⟨j, hjl, hje⟩ := List.getElem_of_mem hc
      have hc' : row'[j]? = some c := by rw [List.getElem?_eq_getElem hjl, hje]
      rw [← hset, setL_get] at hc'
      split at hc'
      · exact hokm c (hokl c (List.mem_of_getElem? hc'))
      · exact hokm c (H.ok b _ hb row (List.mem_of_getElem? hi) c (List.mem_of_getElem? hc'))
    · rw [List.getElem?_set_ne hii] at hr'
      exact hokm c (H.ok b _ hb r (List.mem_of_getElem? hr') c hc)
end ops
end Go.Proofs.YtnflnbdlgdjfmaaDoor
namespace Go.Proofs.YtnflnbdlgdjfmaaDoor
set_option linter.unusedVariables false
/-- A type: its kind, its parts. -/
inductive Ty where
  | mk (k : Int) (l : List Ty)
def Ty.k : Ty → Int | .mk k _ => k
def Ty.l : Ty → List Ty | .mk _ l => l
@[simp] theorem Ty.k_mk (k : Int) (l : List Ty) : (Ty.mk k l).k = k := rfl
@[simp] theorem Ty.l_mk (k : Int) (l : List Ty) : (Ty.mk k l).l = l := rfl
/-- Induction over a type and its parts. -/
theorem Ty.ind {p : Ty → Prop} (h : ∀ k l, (∀ t ∈ l, p t) → p (.mk k l)) : ∀ t, p t :=
  fun t => Ty.rec (motive_1 := p) (motive_2 := fun l => ∀ t ∈ l, p t) (fun k l ih => h k l ih) (fun _ h => by cases h)
    (fun a l ha hl t ht => by
      rcases List.mem_cons.1 ht with rfl | ht
      · exact ha
      · exact hl t ht) t
theorem Ty.ind' {p : Ty → Prop} (h : ∀ a, (∀ t ∈ a.l, p t) → p a) : ∀ t, p t := Ty.ind fun k l ih => h (.mk k l) ih
mutual
def Ty.cells : Ty → List C
  | .mk k l => [.int .i64 k, slOf 2 (tyRows l)]
def tyRows : List Ty → List (List C)
  | [] => []
  | a :: l => Ty.cells a :: tyRows l
end
/-- A type's two cells. -/
def Ty.c (t : Ty) : List C := [.int .i64 t.k, slOf 2 (tyRows t.l)]
theorem Ty.cells_c (t : Ty) : t.cells = t.c := by cases t; simp [Ty.cells, Ty.c]
theorem tyRows_map : ∀ l : List Ty, tyRows l = l.map Ty.c
  | [] => by simp [tyRows]
  | a :: l => by simp [tyRows, Ty.cells_c, tyRows_map l]
theorem tyRows_length (l : List Ty) : (tyRows l).length = l.length := by rw [tyRows_map, List.length_map]
theorem tyRows_get {l : List Ty} {i : Nat} (h : i < l.length) : (tyRows l)[i]? = some (l[i].c) := by rw [tyRows_map]; simp [h]
theorem tyRows_append (l m : List Ty) : tyRows (l ++ m) = tyRows l ++ tyRows m := by simp [tyRows_map]
theorem int_ne_of {a b : Nat} (h : (((a : Int) != (b : Int)) = true)) : a ≠ b := fun e => by subst e; simp at h
theorem int_eq_of {a b : Nat} (h : (((a : Int) != (b : Int)) = false)) : a = b := by simp at h; omega
/-- A type, as a value. -/
def Ty.u (t : Ty) : U := .agg t.c
mutual
def Ty.same : Ty → Ty → Bool
  | .mk k l, .mk k' l' => k == k' && sameL l l'
def sameL : List Ty → List Ty → Bool
  | [], [] => true
  | a :: l, b :: m => Ty.same a b && sameL l m
  | [], _ :: _ => false
  | _ :: _, [] => false
end
mutual
def Ty.fits : Ty → Ty → Bool
  | .mk k l, .mk k' l' => k == 0 || k' == 0 || (k == k' && fitsL l l')
def fitsL : List Ty → List Ty → Bool
  | [], [] => true
  | a :: l, b :: m => Ty.fits a b && fitsL l m
  | [], _ :: _ => false
  | _ :: _, [] => false
end
mutual
def Ty.finer : Ty → Ty → Bool
  | .mk k l, .mk k' l' => k' == 0 || (k == k' && finerL l l')
def finerL : List Ty → List Ty → Bool
  | [], [] => true
  | a :: l, b :: m => Ty.finer a b && finerL l m
  | [], _ :: _ => false
  | _ :: _, [] => false
end
mutual
def Ty.join : Ty → Ty → Ty
  | .mk k l, .mk k' l' => if k == k' && l.length == l'.length then .mk k (joinL l l') else .mk 0 []
def joinL : List Ty → List Ty → List Ty
  | a :: l, b :: m => Ty.join a b :: joinL l m
  | [], _ => []
  | _ :: _, [] => []
end
/-- How many more may be within. -/
def Ty.good : Nat → Ty → Bool
  | 0, _ => false
  | d + 1, .mk k l => (0 ≤ k && k ≤ 3) && (if k != 3 then l.length == 0 else match l with | [a, b] => Ty.good d a && Ty.good d b | _ => false)
def Ty.any : Ty := .mk 0 []
def Ty.to (a b : Ty) : Ty := .mk 3 [a, b]
def Ty.ground (t : Ty) : Ty := if t.k == 3 then .to .any .any else .mk t.k []
def Ty.plain (t : Ty) : Bool := t.k == 1 || t.k == 2 || (t.k == 3 && match t.l with | [a, b] => a.k == 0 && b.k == 0 | _ => false)
theorem same_eta (a b : Ty) : a.same b = (a.k == b.k && sameL a.l b.l) := by cases a; cases b; simp [Ty.same]
theorem fits_eta (a b : Ty) : a.fits b = (a.k == 0 || b.k == 0 || (a.k == b.k && fitsL a.l b.l)) := by cases a; cases b; simp [Ty.fits]
theorem finer_eta (a b : Ty) : a.finer b = (b.k == 0 || (a.k == b.k && finerL a.l b.l)) := by cases a; cases b; simp [Ty.finer]
theorem sameL_len : ∀ {l m : List Ty}, l.length ≠ m.length → sameL l m = false
  | [], [], h => absurd rfl h
  | a :: l, b :: m, h => by simp [sameL, sameL_len (l := l) (m := m) (by simpa using h)]
  | [], _ :: _, _ => by simp [sameL]
  | _ :: _, [], _ => by simp [sameL]
theorem fitsL_len : ∀ {l m : List Ty}, l.length ≠ m.length → fitsL l m = false
  | [], [], h => absurd rfl h
  | a :: l, b :: m, h => by simp [fitsL, fitsL_len (l := l) (m := m) (by simpa using h)]
  | [], _ :: _, _ => by simp [fitsL]
  | _ :: _, [], _ => by simp [fitsL]
/-- No list in it is longer than 2^20. -/
inductive Thin : Ty → Prop
  | mk (k : Int) (l : List Ty) (hl : l.length ≤ 1048576) (h : ∀ t ∈ l, Thin t) : Thin (.mk k l)
theorem Thin.len {k : Int} {l : List Ty} (h : Thin (.mk k l)) : l.length ≤ 1048576 := by cases h; assumption
theorem Thin.part {k : Int} {l : List Ty} (h : Thin (.mk k l)) : ∀ t ∈ l, Thin t := by cases h; assumption
theorem joinL_length : ∀ {l m : List Ty}, l.length = m.length → (joinL l m).length = l.length
  | [], [], _ => by simp [joinL]
  | a :: l, b :: m, h => by simp [joinL, joinL_length (l := l) (m := m) (by simpa using h)]
  | [], _ :: _, h => by cases h
  | _ :: _, [], h => by cases h
theorem joinL_get : ∀ {l m : List Ty} {i : Nat} (hl : i < l.length) (hm : i < m.length), (joinL l m)[i]? = some (l[i].join m[i])
  | a :: l, b :: m, 0, _, _ => by simp [joinL]
  | a :: l, b :: m, i + 1, hl, hm => by simp [joinL]; exact joinL_get (by simpa using hl) (by simpa using hm)
  | [], _, _, hl, _ => by cases hl
  | _ :: _, [], _, _, hm => by cases hm
theorem joinL_take {l m : List Ty} {i : Nat} (hl : i < l.length) (hm : i < m.length) : (joinL l m).take (i + 1) = (joinL l m).take i ++ [l[i].join m[i]] := by
  rw [List.take_add_one, joinL_get hl hm]; rfl
/-- One step of a loop over both lists. -/
theorem sameL_drop {l m : List Ty} {i : Nat} (hl : i < l.length) (hm : i < m.length) : sameL (l.drop i) (m.drop i) = (l[i].same m[i] && sameL (l.drop (i + 1)) (m.drop (i + 1))) := by
  rw [List.drop_eq_getElem_cons hl, List.drop_eq_getElem_cons hm]; simp [sameL]
theorem fitsL_drop {l m : List Ty} {i : Nat} (hl : i < l.length) (hm : i < m.length) : fitsL (l.drop i) (m.drop i) = (l[i].fits m[i] && fitsL (l.drop (i + 1)) (m.drop (i + 1))) := by
  rw [List.drop_eq_getElem_cons hl, List.drop_eq_getElem_cons hm]; simp [fitsL]
end Go.Proofs.YtnflnbdlgdjfmaaDoor
namespace Go.Proofs.YtnflnbdlgdjfmaaDoor
set_option linter.unusedVariables false
/-- A term: its kind, its number, its type, the type it is cast from, its parts. -/
inductive Tm where
  | mk (k n : Int) (t f : Ty) (l : List Tm)
def Tm.k : Tm → Int | .mk k _ _ _ _ => k
def Tm.n : Tm → Int | .mk _ n _ _ _ => n
def Tm.t : Tm → Ty | .mk _ _ t _ _ => t
def Tm.f : Tm → Ty | .mk _ _ _ f _ => f
def Tm.l : Tm → List Tm | .mk _ _ _ _ l => l
@[simp] theorem Tm.k_mk (k n : Int) (t f : Ty) (l : List Tm) : (Tm.mk k n t f l).k = k := rfl
@[simp] theorem Tm.n_mk (k n : Int) (t f : Ty) (l : List Tm) : (Tm.mk k n t f l).n = n := rfl
@[simp] theorem Tm.t_mk (k n : Int) (t f : Ty) (l : List Tm) : (Tm.mk k n t f l).t = t := rfl
@[simp] theorem Tm.f_mk (k n : Int) (t f : Ty) (l : List Tm) : (Tm.mk k n t f l).f = f := rfl
@[simp] theorem Tm.l_mk (k n : Int) (t f : Ty) (l : List Tm) : (Tm.mk k n t f l).l = l := rfl
/-- Induction over a term and its parts. -/
theorem Tm.ind' {p : Tm → Prop} (h : ∀ a, (∀ t ∈ a.l, p t) → p a) : ∀ t, p t :=
  fun t => Tm.rec (motive_1 := p) (motive_2 := fun l => ∀ t ∈ l, p t) (fun k n t f l ih => h (.mk k n t f l) ih) (fun _ h => by cases h)
    (fun a l ha hl t ht => by
      rcases List.mem_cons.1 ht with rfl | ht
      · exact ha
      · exact hl t ht) t
mutual
def Tm.cells : Tm → List C
  | .mk k n t f l => [.int .i64 k, .int .i64 n, .int .i64 t.k, slOf 2 (tyRows t.l), .int .i64 f.k, slOf 2 (tyRows f.l), slOf 7 (tmRows l)]
def tmRows : List Tm → List (List C)
  | [] => []
  | a :: l => Tm.cells a :: tmRows l
end
/-- A term's seven cells. -/
def Tm.c (t : Tm) : List C := [.int .i64 t.k, .int .i64 t.n, .int .i64 t.t.k, slOf 2 (tyRows t.t.l), .int .i64 t.f.k, slOf 2 (tyRows t.f.l), slOf 7 (tmRows t.l)]
def Tm.u (t : Tm) : U := .agg t.c
theorem Tm.cells_c (t : Tm) : t.cells = t.c := by cases t; simp [Tm.cells, Tm.c]
theorem tmRows_map : ∀ l : List Tm, tmRows l = l.map Tm.c
  | [] => by simp [tmRows]
  | a :: l => by simp [tmRows, Tm.cells_c, tmRows_map l]
theorem tmRows_length (l : List Tm) : (tmRows l).length = l.length := by rw [tmRows_map, List.length_map]
theorem tmRows_get {l : List Tm} {i : Nat} (h : i < l.length) : (tmRows l)[i]? = some (l[i].c) := by rw [tmRows_map]; simp [h]
theorem tmRows_append (l m : List Tm) : tmRows (l ++ m) = tmRows l ++ tmRows m := by simp [tmRows_map]
mutual
/-- How many terms there are in it, itself too. -/
def Tm.nodes : Tm → Nat
  | .mk _ _ _ _ l => 1 + nodesL l
def nodesL : List Tm → Nat
  | [] => 0
  | a :: l => Tm.nodes a + nodesL l
end
theorem nodes_eta (t : Tm) : t.nodes = 1 + nodesL t.l := by cases t; simp [Tm.nodes]
theorem nodesL_append (l m : List Tm) : nodesL (l ++ m) = nodesL l + nodesL m := by
  induction l with
  | nil => simp [nodesL]
  | cons a l ih => simp [nodesL, ih]; omega
theorem nodesL_take {l : List Tm} {i : Nat} (h : i < l.length) : nodesL (l.take (i + 1)) = nodesL (l.take i) + l[i].nodes := by
  rw [List.take_add_one, List.getElem?_eq_getElem h, Option.toList_some, nodesL_append]; simp [nodesL]
theorem nodesL_take_le (l : List Tm) (i : Nat) : nodesL (l.take i) ≤ nodesL l := by
  have := nodesL_append (l.take i) (l.drop i)
  rw [List.take_append_drop] at this; omega
theorem nodes_mem {l : List Tm} {a : Tm} (h : a ∈ l) : a.nodes ≤ nodesL l := by
  induction l with
  | nil => cases h
  | cons b l ih =>
    simp only [nodesL]
    rcases List.mem_cons.1 h with rfl | h
    · omega
    · have := ih h; omega
theorem nodes_pos (t : Tm) : 1 ≤ t.nodes := by rw [nodes_eta]; omega
theorem nodesL_len (l : List Tm) : l.length ≤ nodesL l := by
  induction l with
  | nil => simp
  | cons a l ih => simp only [List.length_cons, nodesL]; have := nodes_pos a; omega
mutual
def Tm.same : Tm → Tm → Bool
  | .mk k n t f l, .mk k' n' t' f' l' => k == k' && n == n' && t.same t' && f.same f' && sameTL l l'
def sameTL : List Tm → List Tm → Bool
  | [], [] => true
  | a :: l, b :: m => Tm.same a b && sameTL l m
  | [], _ :: _ => false
  | _ :: _, [] => false
end
/-- How many parts a term of a kind has. -/
def arity (k : Int) : Int := [0, 0, 0, 0, 2, 2, 3, 1, 2, 1].getD k.toNat 0
/-- Is its number one? -/
def Tm.num (t : Tm) (around own : Int) : Bool :=
  if t.k == 1 then decide (t.n ≥ 0) && decide (t.n - own < around)
  else if t.k == 2 then decide (t.n ≥ -1000000) && decide (t.n ≤ 1000000)
  else if t.k == 3 then t.n == 0 || t.n == 1
  else t.n == 0
/-- What is asked of a term without its parts. -/
def Tm.fit (t : Tm) (around own : Int) : Bool :=
  !(decide (t.k < 1)) && !(decide (t.k > 9)) && ((t.l.length : Int) == arity t.k) && t.f.same .any && (if t.k == 7 || t.k == 9 then t.t.good 4 else t.t.same .any) && t.num around own
mutual
def Tm.good : Tm → Int → Int → Bool
  | .mk k n t f l, ar, ow => (Tm.mk k n t f l).fit ar ow && goodL l ar (if k == 7 then ow + 1 else ow)
def goodL : List Tm → Int → Int → Bool
  | [], _, _ => true
  | a :: l, ar, ow => Tm.good a ar ow && goodL l ar ow
end
theorem goodT_eta (t : Tm) (ar ow : Int) : t.good ar ow = (t.fit ar ow && goodL t.l ar (if t.k == 7 then ow + 1 else ow)) := by cases t; simp [Tm.good]
theorem goodL_drop {l : List Tm} {i : Nat} (h : i < l.length) (ar ow : Int) : goodL (l.drop i) ar ow = (l[i].good ar ow && goodL (l.drop (i + 1)) ar ow) := by
  rw [List.drop_eq_getElem_cons h]; simp [goodL]
/-- Is it a term, within so many functions? -/
def Tm.Good (t : Tm) (around : Int) : Bool := decide ((t.nodes : Int) ≤ 40) && t.good around 0
/-- The numbers are ints; the types' lists are not too long. -/
inductive TmOk : Tm → Prop
  | mk {t : Tm} (hn : t.n ≤ 9223372036854775807) (ht : Thin t.t) (hf : Thin t.f) (hl : ∀ x ∈ t.l, TmOk x) : TmOk t
theorem TmOk.n {t : Tm} (h : TmOk t) : t.n ≤ 9223372036854775807 := by cases h; assumption
theorem TmOk.t {t : Tm} (h : TmOk t) : Thin t.t := by cases h; assumption
theorem TmOk.f {t : Tm} (h : TmOk t) : Thin t.f := by cases h; assumption
theorem TmOk.l {t : Tm} (h : TmOk t) : ∀ x ∈ t.l, TmOk x := by cases h; assumption
theorem arity_at {k : Int} (h1 : decide (k < 1) = false) (h9 : decide (k > 9) = false) : arityC[k.toNat * 1]? = some (.int .i64 (arity k)) := by
  simp at h1 h9
  obtain ⟨n, rfl⟩ : ∃ n : Nat, k = n := ⟨k.toNat, by omega⟩
  have : n < 10 := by omega
  match n, this with
  | 0, _ | 1, _ | 2, _ | 3, _ | 4, _ | 5, _ | 6, _ | 7, _ | 8, _ | 9, _ => rfl
end Go.Proofs.YtnflnbdlgdjfmaaDoor
namespace Go.Proofs.YtnflnbdlgdjfmaaDoor
set_option linter.unusedVariables false
def inB (n : Int) : Bool := decide (-1000000 ≤ n) && decide (n ≤ 1000000)
theorem inB_iff {n : Int} : inB n = true ↔ -1000000 ≤ n ∧ n ≤ 1000000 := by simp [inB]
def Ty.num : Ty := .mk 1 []
def Ty.truth : Ty := .mk 2 []
/-- The term of nothing: what errors come with. -/
def Tm.zero : Tm := .mk 0 0 .any .any []
/-- A term of some type, as of another one. -/
def asT (t : Tm) (frm to : Ty) (at' : Int) : Tm := if frm.same to then t else .mk 10 at' to frm [t]
/-- A part that has been checked. -/
structure Kid where
  t : Tm
  k : Ty
  at' : Int
def Kid.c (x : Kid) : List C := x.t.c ++ x.k.c ++ [.int .i64 x.at']
def Kid.u (x : Kid) : U := .agg x.c
def kidRows (l : List Kid) : List (List C) := l.map Kid.c
/-- A part as of a type, if it fits. -/
def Kid.to (x : Kid) (w : Ty) : Option Tm := if x.k.fits w then some (asT x.t x.k w x.at') else none
/-- What is wanted of the parts, and what comes of them. -/
def wants (t : Tm) (ks : List Kid) : Option (List Ty × Ty) :=
  if t.k == 4 then some ([.num, .num], .num)
  else if t.k == 5 then some ([.num, .num], .truth)
  else if t.k == 6 then
    match ks with
    | [_, a, b] => if a.k.fits b.k then some ([.truth, a.k.join b.k, a.k.join b.k], a.k.join b.k) else none
    | _ => none
  else if t.k == 7 then
    match ks with
    | [a] => some ([a.k], .to t.t a.k)
    | _ => none
  else if t.k == 8 then
    match ks with
    | [f, _] =>
      let g := if f.k.k == 0 then (Ty.mk 3 []).ground else f.k
      if g.k == 3 then match g.l with | [a, b] => some ([g, a], b) | _ => none else none
    | _ => none
  else if t.k == 9 then some ([t.t], t.t)
  else none
/-- The parts, each as what is wanted. -/
def casts : List Kid → List Ty → Option (List Tm)
  | [], _ => some []
  | x :: xs, w :: ws => match x.to w with | none => none | some y => (casts xs ws).map (y :: ·)
  | _ :: _, [] => none
mutual
/-- A term with its casts, and its type; env: what functions around it take, the inmost last; n: how many terms came before. -/
def walkT : Tm → List Ty → Int → Option (Tm × Ty)
  | .mk k n t f l, env, at' =>
    if k == 1 then some (.mk k n t f l, env.getD (env.length - 1 - n.toNat) .any)
    else if k == 2 then some (.mk k n t f l, .num)
    else if k == 3 then some (.mk k n t f l, .truth)
    else
      match walkL l (if k == 7 then env ++ [t] else env) (at' + 1) with
      | none => none
      | some ks =>
        match wants (.mk k n t f l) ks with
        | none => none
        | some (ws, out) => (casts ks ws).map fun l' => (.mk k n t f l', out)
def walkL : List Tm → List Ty → Int → Option (List Kid)
  | [], _, _ => some []
  | a :: l, env, at' =>
    match walkT a env at' with
    | none => none
    | some (x, k) => (walkL l env (at' + a.nodes)).map (⟨x, k, at'⟩ :: ·)
end
mutual
/-- What has been counted when a term has been walked, or refused. -/
def walkM : Tm → List Ty → Int → Int
  | .mk k n t f l, env, at' => if k == 1 || k == 2 || k == 3 then at' + 1 else walkML l (if k == 7 then env ++ [t] else env) (at' + 1)
def walkML : List Tm → List Ty → Int → Int
  | [], _, at' => at'
  | a :: l, env, at' => match walkT a env at' with | none => walkM a env at' | some _ => walkML l env (at' + a.nodes)
end
/-- What the walk answers. -/
def errU (e : Int) : U := .tup [Tm.zero.u, Ty.any.u, .one (.int .i64 e)]
def walkU : Option (Tm × Ty) → U
  | none => errU 2
  | some (x, k) => .tup [x.u, k.u, .one (.int .i64 0)]
def kidU (n : Int) : Option (Tm × Ty) → U
  | none => .tup [(Kid.mk Tm.zero .any n).u, .one (.int .i64 2)]
  | some (x, k) => .tup [(Kid.mk x k n).u, .one (.int .i64 0)]
def tmU : Option Tm → U
  | none => .tup [Tm.zero.u, .one (.int .i64 2)]
  | some x => .tup [x.u, .one (.int .i64 0)]
end Go.Proofs.YtnflnbdlgdjfmaaDoor
namespace Go.Proofs.YtnflnbdlgdjfmaaDoor
set_option linter.unusedVariables false
set_option linter.unusedSimpArgs false
/-- A type of the four kinds; a function's has two parts, no other has any. -/
inductive Right : Ty → Prop
  | base {k : Int} (h : k = 0 ∨ k = 1 ∨ k = 2) : Right (.mk k [])
  | fn {a b : Ty} (ha : Right a) (hb : Right b) : Right (.mk 3 [a, b])
theorem Right.two {a : Ty} (h : Right a) (hk : a.k = 3) : a.l.length = 2 := by
  cases h with
  | base h => simp at hk; omega
  | fn _ _ => rfl
theorem Right.len {a : Ty} (h : Right a) : a.l.length ≤ 2 := by cases h <;> simp
theorem Right.part {a : Ty} (h : Right a) : ∀ t ∈ a.l, Right t := by
  cases h with
  | base h => intro t ht; cases ht
  | fn ha hb =>
    intro t ht
    rcases List.mem_cons.1 ht with rfl | ht
    · exact ha
    · rcases List.mem_cons.1 ht with rfl | ht
      · exact hb
      · cases ht
theorem Right.thin {a : Ty} (h : Right a) : Thin a := by
  induction h with
  | base h => exact .mk _ _ (by simp) fun t ht => by cases ht
  | fn ha hb iha ihb =>
    exact .mk _ _ (by simp) fun t ht => by
      rcases List.mem_cons.1 ht with rfl | ht
      · exact iha
      · rcases List.mem_cons.1 ht with rfl | ht
        · exact ihb
        · cases ht
theorem Right.any : Right .any := .base (.inl rfl)
theorem Right.num : Right .num := .base (.inr (.inl rfl))
theorem Right.truth : Right .truth := .base (.inr (.inr rfl))
theorem Right.to {a b : Ty} (ha : Right a) (hb : Right b) : Right (.to a b) := .fn ha hb
theorem Right.ground {a : Ty} (h : Right a) : Right a.ground := by
  cases h with
  | base h => rcases h with rfl | rfl | rfl <;> exact .base (by simp)
  | fn _ _ => exact .to .any .any
theorem good_right : ∀ {d : Nat} {a : Ty}, a.good d = true → Right a
  | 0, a, h => by simp [Ty.good] at h
  | d + 1, .mk k l, h => by
    simp only [Ty.good, Bool.and_eq_true, decide_eq_true_eq] at h
    obtain ⟨⟨h1, h2⟩, h⟩ := h
    split at h
    · rename_i hk
      have : l = [] := by simpa using h
      subst this
      have hk : k ≠ 3 := by simpa using hk
      exact .base (by omega)
    · rename_i hk
      have hk : k = 3 := by simpa using hk
      subst hk
      split at h
      · simp only [Bool.and_eq_true] at h
        exact .to (good_right h.1) (good_right h.2)
      · cases h
theorem right_join {a b : Ty} (ha : Right a) (hb : Right b) : Right (a.join b) := by
  induction ha generalizing b with
  | base h =>
    cases hb with
    | base h' =>
      simp only [Ty.join]
      split
      · simp only [joinL]; exact .base h
      · exact .any
    | fn _ _ => simp [Ty.join]; exact .any
  | fn h1 h2 ih1 ih2 =>
    cases hb with
    | base h' => simp [Ty.join]; exact .any
    | fn h1' h2' => simp only [Ty.join, joinL]; exact .fn (ih1 h1') (ih2 h2')
theorem same_eq : ∀ {a b : Ty}, a.same b = true → a = b := fun {a} => Ty.ind (p := fun a => ∀ {b : Ty}, a.same b = true → a = b) (fun k l ih b h => by
  obtain ⟨k', l'⟩ := b
  simp only [Ty.same, Bool.and_eq_true, beq_iff_eq] at h
  obtain ⟨rfl, h⟩ := h
  congr 1
  induction l generalizing l' with
  | nil => cases l' with
    | nil => rfl
    | cons b m => simp [sameL] at h
  | cons a l ihl => cases l' with
    | nil => simp [sameL] at h
    | cons b m =>
      simp only [sameL, Bool.and_eq_true] at h
      rw [ih a (List.mem_cons_self ..) h.1, ihl (fun t ht => ih t (List.mem_cons_of_mem _ ht)) m h.2]) a
theorem walkL_drop {l : List Tm} {i : Nat} (h : i < l.length) (env : List Ty) (m : Int) :
    walkL (l.drop i) env m = match walkT l[i] env m with | none => none | some (x, k) => (walkL (l.drop (i + 1)) env (m + l[i].nodes)).map (⟨x, k, m⟩ :: ·) := by
  rw [List.drop_eq_getElem_cons h]; simp only [walkL] <;> rfl
theorem walkML_drop {l : List Tm} {i : Nat} (h : i < l.length) (env : List Ty) (m : Int) :
    walkML (l.drop i) env m = match walkT l[i] env m with | none => walkM l[i] env m | some _ => walkML (l.drop (i + 1)) env (m + l[i].nodes) := by
  rw [List.drop_eq_getElem_cons h]; simp only [walkML] <;> rfl
theorem walkT_eta (a : Tm) (env : List Ty) (m : Int) : walkT a env m =
    if a.k == 1 then some (a, env.getD (env.length - 1 - a.n.toNat) .any)
    else if a.k == 2 then some (a, .num)
    else if a.k == 3 then some (a, .truth)
    else match walkL a.l (if a.k == 7 then env ++ [a.t] else env) (m + 1) with
      | none => none
      | some ks => match wants a ks with
        | none => none
        | some (ws, out) => (casts ks ws).map fun l' => (.mk a.k a.n a.t a.f l', out) := by cases a; simp only [walkT, Tm.k, Tm.n, Tm.t, Tm.f, Tm.l]; rfl
theorem walkM_eta (a : Tm) (env : List Ty) (m : Int) : walkM a env m = if a.k == 1 || a.k == 2 || a.k == 3 then m + 1 else walkML a.l (if a.k == 7 then env ++ [a.t] else env) (m + 1) := by cases a; simp only [walkM, Tm.k, Tm.n, Tm.t, Tm.f, Tm.l]; rfl
theorem walkL_length : ∀ {l : List Tm} {env : List Ty} {m : Int} {ks : List Kid}, walkL l env m = some ks → ks.length = l.length
  | [], env, m, ks, h => by simp only [walkL] at h; cases h; rfl
  | a :: l, env, m, ks, h => by
    simp only [walkL] at h
    split at h
    · cases h
    · cases hl : walkL l env (m + a.nodes) with
      | none => rw [hl] at h; cases h
      | some q => rw [hl] at h; cases h; simp [walkL_length hl]
/-- All has been counted, if it is not refused. -/
theorem walkML_some : ∀ {l : List Tm} {env : List Ty} {m : Int} {ks : List Kid}, walkL l env m = some ks → walkML l env m = m + nodesL l
  | [], env, m, ks, h => by simp [walkML, nodesL]
  | a :: l, env, m, ks, h => by
    simp only [walkL] at h
    simp only [walkML]
    split at h
    · cases h
    · rename_i x k hx
      rw [hx]
      cases hl : walkL l env (m + a.nodes) with
      | none => rw [hl] at h; cases h
      | some q => simp only [walkML_some hl, nodesL]; omega
theorem fit_leaf {a : Tm} {ar ow : Int} (hf : a.fit ar ow = true) (hk : a.k = 1 ∨ a.k = 2 ∨ a.k = 3) : a.l = [] := by
  simp only [Tm.fit, Bool.and_eq_true, beq_iff_eq] at hf
  have := hf.1.1.1.2
  rcases hk with h | h | h <;> (rw [h] at this; simpa [arity] using this)
theorem walkM_some {a : Tm} {env : List Ty} {m : Int} {q : Tm × Ty} {ar ow : Int} (hf : a.fit ar ow = true) (h : walkT a env m = some q) : walkM a env m = m + a.nodes := by
  rw [walkT_eta] at h
  rw [walkM_eta, nodes_eta]
  by_cases h1 : a.k = 1
  · rw [fit_leaf hf (.inl h1)]; simp [h1, nodesL]
  by_cases h2 : a.k = 2
  · rw [fit_leaf hf (.inr (.inl h2))]; simp [h2, nodesL]
  by_cases h3 : a.k = 3
  · rw [fit_leaf hf (.inr (.inr h3))]; simp [h3, nodesL]
  rw [if_neg (by simpa using h1), if_neg (by simpa using h2), if_neg (by simpa using h3)] at h
  rw [if_neg (by simp [h1, h2, h3])]
  split at h
  · cases h
  · rename_i ks hk
    rw [walkML_some hk]; omega
theorem wants_right {t : Tm} {ks : List Kid} {ws : List Ty} {out : Ty} (ht : t.k = 7 ∨ t.k = 9 → Right t.t) (hk : ∀ x ∈ ks, Right x.k) (h : wants t ks = some (ws, out)) : Right out := by
  unfold wants at h
  split at h
  · cases h; exact .num
  split at h
  · cases h; exact .truth
  split at h
  · split at h
    · split at h
      · cases h; exact right_join (hk _ (by simp)) (hk _ (by simp))
      · cases h
    · cases h
  split at h
  · rename_i h7
    split at h
    · cases h; exact .to (ht (.inl (by simpa using h7))) (hk _ (by simp))
    · cases h
  split at h
  · split at h
    · rename_i f _
      dsimp only at h
      have hg : Right (if f.k.k == 0 then (Ty.mk 3 []).ground else f.k) := by
        split
        · exact .to .any .any
        · exact hk _ (by simp)
      generalize (if f.k.k == 0 then (Ty.mk 3 []).ground else f.k) = g at h hg
      split at h
      · split at h
        · rename_i a b hl
          cases h
          exact hg.part _ (by rw [hl]; simp)
        · cases h
      · cases h
    · cases h
  split at h
  · rename_i h9; cases h; exact ht (.inr (by simpa using h9))
  · cases h
theorem goodL_mem : ∀ {l : List Tm} {ar ow : Int}, goodL l ar ow = true → ∀ t ∈ l, t.good ar ow = true
  | [], _, _, _, _, h => by cases h
  | a :: l, ar, ow, h, t, ht => by
    simp only [goodL, Bool.and_eq_true] at h
    rcases List.mem_cons.1 ht with rfl | ht
    · exact h.1
    · exact goodL_mem h.2 t ht
theorem fit_right {t : Tm} {ar ow : Int} (h : t.fit ar ow = true) : t.k = 7 ∨ t.k = 9 → Right t.t := fun hk => by
  simp only [Tm.fit, Bool.and_eq_true] at h
  have h := h.1.2
  rw [if_pos (by simpa using hk)] at h
  exact good_right h
theorem walkL_right : ∀ {l : List Tm} {env : List Ty} {m : Int} {ks : List Kid}, (∀ t ∈ l, ∀ m x k, walkT t env m = some (x, k) → Right k) → walkL l env m = some ks → ∀ x ∈ ks, Right x.k
  | [], env, m, ks, ih, h => by simp only [walkL] at h; cases h; intro x hx; cases hx
  | a :: l, env, m, ks, ih, h => by
    simp only [walkL] at h
    split at h
    · cases h
    · rename_i x k hx
      cases hl : walkL l env (m + a.nodes) with
      | none => rw [hl] at h; cases h
      | some q =>
        rw [hl] at h; cases h
        intro y hy
        rcases List.mem_cons.1 hy with rfl | hy
        · exact ih a (List.mem_cons_self ..) _ _ _ hx
        · exact walkL_right (fun t ht => ih t (List.mem_cons_of_mem _ ht)) hl y hy
theorem env_right {a : Tm} {env : List Ty} (hf : a.k = 7 ∨ a.k = 9 → Right a.t) (he : ∀ t ∈ env, Right t) : ∀ t ∈ (if a.k == 7 then env ++ [a.t] else env), Right t := by
  split
  · rename_i h7
    intro t ht
    rcases List.mem_append.1 ht with ht | ht
    · exact he t ht
    · rw [List.mem_singleton.1 ht]; exact hf (.inl (by simpa using h7))
  · exact he
theorem env_len (a : Tm) (env : List Ty) : (((if a.k == 7 then env ++ [a.t] else env).length : Nat) : Int) = if a.k == 7 then (env.length : Int) + 1 else env.length := by
  split <;> simp
/-- What a term's type is, is right. -/
theorem walk_right : ∀ (a : Tm) (env : List Ty) (m : Int) (x : Tm) (k : Ty), a.good 0 env.length = true → (∀ t ∈ env, Right t) → walkT a env m = some (x, k) → Right k := fun a => by
  induction a using Tm.ind' with
  | h a ih =>
  intro env m x k hg he h
  rw [goodT_eta, Bool.and_eq_true] at hg
  rw [walkT_eta] at h
  split at h
  · cases h
    rw [List.getD_eq_getElem?_getD]
    cases hx : env[env.length - 1 - a.n.toNat]? with
    | none => exact .any
    | some t => exact he _ (List.mem_of_getElem? hx)
  split at h
  · cases h; exact .num
  split at h
  · cases h; exact .truth
  split at h
  · cases h
  · rename_i ks hk
    have hr := walkL_right (fun t ht m x k hw => ih t ht _ m x k (by rw [env_len]; exact goodL_mem hg.2 t ht) (env_right (fit_right hg.1) he) hw) hk
    split at h
    · cases h
    · rename_i ws out hw
      cases hc : casts ks ws with
      | none => rw [hc] at h; cases h
      | some l' => rw [hc] at h; cases h; exact wants_right (fit_right hg.1) hr hw
theorem casts1 {x : Kid} {w : Ty} {ws : List Ty} {l' : List Tm} (h : casts [x] (w :: ws) = some l') : ∃ y, l' = [y] ∧ x.to w = some y := by
  simp only [casts] at h
  split at h
  · cases h
  · rename_i y hy; simp only [Option.map_some] at h; cases h; exact ⟨y, rfl, hy⟩
theorem casts_cons {x : Kid} {xs : List Kid} {w : Ty} {ws : List Ty} {l' : List Tm} (h : casts (x :: xs) (w :: ws) = some l') : ∃ y l, l' = y :: l ∧ x.to w = some y ∧ casts xs ws = some l := by
  simp only [casts] at h
  split at h
  · cases h
  · rename_i y hy
    cases hc : casts xs ws with
    | none => rw [hc] at h; cases h
    | some l => rw [hc] at h; cases h; exact ⟨y, l, rfl, hy, rfl⟩
theorem walkL_cons {a : Tm} {l : List Tm} {env : List Ty} {m : Int} {ks : List Kid} (h : walkL (a :: l) env m = some ks) : ∃ x k ks', ks = ⟨x, k, m⟩ :: ks' ∧ walkT a env m = some (x, k) ∧ walkL l env (m + a.nodes) = some ks' := by
  simp only [walkL] at h
  split at h
  · cases h
  · rename_i x k hx
    cases hl : walkL l env (m + a.nodes) with
    | none => rw [hl] at h; cases h
    | some q => rw [hl] at h; cases h; exact ⟨x, k, q, rfl, hx, rfl⟩
theorem walkL_nil {env : List Ty} {m : Int} {ks : List Kid} (h : walkL [] env m = some ks) : ks = [] := by simp only [walkL] at h; cases h; rfl
theorem len1 {α : Type} {l : List α} (h : l.length = 1) : ∃ x, l = [x] := by
  match l, h with
  | [x], _ => exact ⟨x, rfl⟩
theorem len2 {α : Type} {l : List α} (h : l.length = 2) : ∃ x y, l = [x, y] := by
  match l, h with
  | [x, y], _ => exact ⟨x, y, rfl⟩
theorem len3 {α : Type} {l : List α} (h : l.length = 3) : ∃ x y z, l = [x, y, z] := by
  match l, h with
  | [x, y, z], _ => exact ⟨x, y, z, rfl⟩
/-- What is good, by its kind. -/
theorem good_cases {a : Tm} {ar ow : Int} (h : a.good ar ow = true) :
    (a.k = 1 ∧ a.l = [] ∧ 0 ≤ a.n ∧ a.n - ow < ar ∧ a.t = .any) ∨ (a.k = 2 ∧ a.l = [] ∧ inB a.n = true ∧ a.t = .any) ∨ (a.k = 3 ∧ a.l = [] ∧ (a.n = 0 ∨ a.n = 1) ∧ a.t = .any) ∨
    ((a.k = 4 ∨ a.k = 5 ∨ a.k = 8) ∧ a.n = 0 ∧ a.t = .any ∧ ∃ x y, a.l = [x, y] ∧ x.good ar ow = true ∧ y.good ar ow = true) ∨
    (a.k = 6 ∧ a.n = 0 ∧ a.t = .any ∧ ∃ x y z, a.l = [x, y, z] ∧ x.good ar ow = true ∧ y.good ar ow = true ∧ z.good ar ow = true) ∨
    (a.k = 7 ∧ a.n = 0 ∧ a.t.good 4 = true ∧ ∃ x, a.l = [x] ∧ x.good ar (ow + 1) = true) ∨ (a.k = 9 ∧ a.n = 0 ∧ a.t.good 4 = true ∧ ∃ x, a.l = [x] ∧ x.good ar ow = true) := by
  rw [goodT_eta, Bool.and_eq_true] at h
  obtain ⟨hf, hl⟩ := h
  simp only [Tm.fit, Bool.and_eq_true, Bool.not_eq_true', decide_eq_false_iff_not] at hf
  obtain ⟨⟨⟨⟨⟨h1, h9⟩, har⟩, hff⟩, ht⟩, hn⟩ := hf
  have hL : ∀ n : Nat, ((a.l.length : Int) == n) = true → a.l.length = n := fun n h => by rw [beq_iff_eq] at h; omega
  have any : ∀ {t : Ty}, t.same .any = true → t = .any := fun h => same_eq h
  have cases9 : a.k = 1 ∨ a.k = 2 ∨ a.k = 3 ∨ a.k = 4 ∨ a.k = 5 ∨ a.k = 6 ∨ a.k = 7 ∨ a.k = 8 ∨ a.k = 9 := by omega
  rcases cases9 with e | e | e | e | e | e | e | e | e <;> simp only [e, Tm.num] at har ht hn hl
  · exact .inl ⟨e, List.eq_nil_of_length_eq_zero (hL 0 har), by simpa using (And.left (by simpa using hn)), by simpa using (And.right (by simpa using hn)), any ht⟩
  · exact .inr (.inl ⟨e, List.eq_nil_of_length_eq_zero (hL 0 har), by rw [inB_iff]; simpa using hn, any ht⟩)
  · exact .inr (.inr (.inl ⟨e, List.eq_nil_of_length_eq_zero (hL 0 har), by simpa using hn, any ht⟩))
  · obtain ⟨x, y, e2⟩ := len2 (hL 2 har)
    rw [e2] at hl; simp [goodL] at hl
    exact .inr (.inr (.inr (.inl ⟨.inl e, by simpa using hn, any ht, x, y, e2, hl.1, hl.2⟩)))
  · obtain ⟨x, y, e2⟩ := len2 (hL 2 har)
    rw [e2] at hl; simp [goodL] at hl
    exact .inr (.inr (.inr (.inl ⟨.inr (.inl e), by simpa using hn, any ht, x, y, e2, hl.1, hl.2⟩)))
  · obtain ⟨x, y, z, e2⟩ := len3 (hL 3 har)
    rw [e2] at hl; simp [goodL] at hl
    exact .inr (.inr (.inr (.inr (.inl ⟨e, by simpa using hn, any ht, x, y, z, e2, hl.1, hl.2.1, hl.2.2⟩))))
  · obtain ⟨x, e2⟩ := len1 (hL 1 har)
    rw [e2] at hl; simp [goodL] at hl
    exact .inr (.inr (.inr (.inr (.inr (.inl ⟨e, by simpa using hn, ht, x, e2, hl⟩)))))
  · obtain ⟨x, y, e2⟩ := len2 (hL 2 har)
    rw [e2] at hl; simp [goodL] at hl
    exact .inr (.inr (.inr (.inl ⟨.inr (.inr e), by simpa using hn, any ht, x, y, e2, hl.1, hl.2⟩)))
  · obtain ⟨x, e2⟩ := len1 (hL 1 har)
    rw [e2] at hl; simp [goodL] at hl
    exact .inr (.inr (.inr (.inr (.inr (.inr ⟨e, by simpa using hn, ht, x, e2, hl⟩)))))
theorem walkT_node {a : Tm} {env : List Ty} {m : Int} {x : Tm} {k : Ty} (h1 : a.k ≠ 1) (h2 : a.k ≠ 2) (h3 : a.k ≠ 3) (h : walkT a env m = some (x, k)) :
    ∃ ks ws l', walkL a.l (if a.k == 7 then env ++ [a.t] else env) (m + 1) = some ks ∧ wants a ks = some (ws, k) ∧ casts ks ws = some l' ∧ x = .mk a.k a.n a.t a.f l' := by
  rw [walkT_eta, if_neg (by simpa using h1), if_neg (by simpa using h2), if_neg (by simpa using h3)] at h
  split at h
  · cases h
  rename_i ks hks
  split at h
  · cases h
  rename_i ws out hw
  cases hc : casts ks ws with
  | none => rw [hc] at h; cases h
  | some l' =>
    rw [hc] at h; simp only [Option.map_some, Option.some.injEq, Prod.mk.injEq] at h
    obtain ⟨rfl, rfl⟩ := h
    exact ⟨ks, ws, l', hks, hw, hc, rfl⟩
theorem same_refl : ∀ a : Ty, a.same a = true := Ty.ind fun k l ih => by
  simp only [Ty.same, beq_self_eq_true, Bool.true_and]
  induction l with
  | nil => rfl
  | cons a l ihl => simp only [sameL, ih a (List.mem_cons_self ..), ihl fun t ht => ih t (List.mem_cons_of_mem _ ht), Bool.and_self]
end Go.Proofs.YtnflnbdlgdjfmaaDoor
namespace Go.Proofs.YtnflnbdlgdjfmaaDoor
set_option linter.unusedVariables false
set_option linter.unusedSimpArgs false
mutual
/-- A term without casts and types. -/
def eraseT : Tm → Tm
  | .mk k n t f l => if (k == 10 || k == 9) && l.length == 1 then eraseH l else .mk k n .any .any (eraseL l)
def eraseL : List Tm → List Tm
  | [] => []
  | a :: l => eraseT a :: eraseL l
def eraseH : List Tm → Tm
  | [] => .zero
  | a :: _ => eraseT a
end
/-- Where something is cast: which term it is, from which type, to which. -/
structure Site where
  n : Int
  f : Ty
  t : Ty
def Site.c (s : Site) : List C := [.int .i64 s.n, .int .i64 s.f.k, slOf 2 (tyRows s.f.l), .int .i64 s.t.k, slOf 2 (tyRows s.t.l)]
mutual
/-- The casts of a term, as one reads it. -/
def sitesT : Tm → List Site
  | .mk k n t f l => (if k == 10 then [⟨n, f, t⟩] else []) ++ sitesL l
def sitesL : List Tm → List Site
  | [] => []
  | a :: l => sitesT a ++ sitesL l
end
def ownSite (a : Tm) : List Site := if a.k == 10 then [⟨a.n, a.f, a.t⟩] else []
theorem sitesT_eta (a : Tm) : sitesT a = ownSite a ++ sitesL a.l := by cases a; simp [sitesT, ownSite]
/-- What Check answers. -/
def checkU (a : Tm) : U := if a.Good 0 then walkU (walkT a [] 0) else errU 1
end Go.Proofs.YtnflnbdlgdjfmaaDoor
namespace Go.Proofs.YtnflnbdlgdjfmaaDoor
set_option linter.unusedVariables false
set_option linter.unusedSimpArgs false
mutual
def Ty.right : Ty → Bool
  | .mk k l => ((decide (0 ≤ k) && decide (k ≤ 2) && l.length == 0) || (k == 3 && l.length == 2)) && rightL l
def rightL : List Ty → Bool
  | [] => true
  | a :: l => Ty.right a && rightL l
end
mutual
def Ty.deep : Ty → Nat
  | .mk _ l => deepL l + 1
def deepL : List Ty → Nat
  | [] => 0
  | a :: l => max (Ty.deep a) (deepL l)
end
theorem deep_eta (a : Ty) : a.deep = deepL a.l + 1 := by cases a; simp [Ty.deep]
theorem deepL_mem {l : List Ty} {a : Ty} (h : a ∈ l) : a.deep ≤ deepL l := by
  induction l with
  | nil => cases h
  | cons b l ih =>
    simp only [deepL]
    rcases List.mem_cons.1 h with rfl | h
    · omega
    · have := ih h; omega
/-- No list in it is long, nor is it deep. -/
inductive Sz : Ty → Prop
  | mk {a : Ty} (ht : Thin a) (hd : a.deep ≤ 1048576) : Sz a
theorem Sz.part {a b : Ty} (h : Sz a) (hb : b ∈ a.l) : Sz b := by
  obtain ⟨ht, hd⟩ := h
  refine ⟨?_, ?_⟩
  · cases a; exact ht.part b hb
  · rw [deep_eta] at hd; have := deepL_mem hb; omega
theorem good_rd : ∀ (d : Nat) (a : Ty), a.good d = (a.right && decide (a.deep ≤ d)) := by
  intro d
  induction d with
  | zero => intro a; rw [deep_eta]; simp [Ty.good]
  | succ d ih =>
    intro a
    obtain ⟨k, l⟩ := a
    simp only [Ty.good, Ty.right, Ty.deep]
    by_cases h3 : k = 3
    · subst h3
      match l with
      | [a, b] =>
        simp only [ih, rightL, deepL, List.length_cons, List.length_nil]
        rw [Bool.eq_iff_iff]
        simp
        constructor
        · rintro ⟨⟨h1, h2⟩, h3, h4⟩; exact ⟨⟨h1, h3⟩, by omega⟩
        · rintro ⟨⟨h1, h3⟩, h⟩; exact ⟨⟨h1, by omega⟩, h3, by omega⟩
      | [] | [_] | _ :: _ :: _ :: _ => simp
    · rw [if_pos (by simpa using h3)]
      cases l with
      | nil =>
        rw [Bool.eq_iff_iff]
        simp [rightL, deepL, h3]
        omega
      | cons a l => simp [h3]
theorem Right.leaf {a : Ty} (h : Right a) (hk : a.k ≠ 3) : a = .mk a.k [] := by
  cases h with
  | base h => rfl
  | fn _ _ => exact absurd rfl hk
def within (a : Tm) (env : List Ty) : List Ty := if a.k == 7 then a.t :: env else env
theorem join_commR : ∀ a b : Ty, a.join b = b.join a := Ty.ind fun k l ih b => by
  obtain ⟨k', l'⟩ := b
  have : l.length = l'.length → joinL l l' = joinL l' l := by
    intro hl
    induction l generalizing l' with
    | nil => cases l' <;> simp_all [joinL]
    | cons a l ihl => cases l' with
      | nil => simp at hl
      | cons b l' => simp only [joinL]; rw [ih a (by simp), ihl (fun t ht => ih t (by simp [ht])) l' (by simpa using hl)]
  simp only [Ty.join]
  by_cases h : k = k' ∧ l.length = l'.length
  · obtain ⟨rfl, h2⟩ := h
    simp [h2, this h2]
  · rw [if_neg (by simpa using h), if_neg (by simp; intro h1 h2; exact h ⟨h1.symm, h2.symm⟩)]
end Go.Proofs.YtnflnbdlgdjfmaaDoor
namespace Go.Proofs.YtnflnbdlgdjfmaaDoor
set_option linter.unusedVariables false
/-- A value. -/
inductive V where
  | num (n : Int)
  | tru (n : Int)
  | clo (b : Tm) (env : List V)
  | wrap (v : V) (f t : Ty) (at' : Int) (back : Bool)
  | tag (v : V) (g : Ty)
/-- An outcome. -/
structure Out where
  kind : Int
  n : Int
  back : Bool
def Out.c (o : Out) : List C := [.int .i64 o.kind, .int .i64 o.n, .bool o.back]
def Out.u (o : Out) : U := .agg o.c
def Out.zero : Out := ⟨0, 0, false⟩
def Out.fuel : Out := ⟨5, 0, false⟩
def Out.stuck : Out := ⟨6, 0, false⟩
def Out.blame (n : Int) (b : Bool) : Out := ⟨4, n, b⟩
/-- What is seen of a value. -/
def V.seen : V → Out
  | .num n => ⟨1, n, false⟩
  | .tru n => ⟨2, n, false⟩
  | .clo _ _ => ⟨3, 0, false⟩
  | .wrap _ _ _ _ _ => ⟨3, 0, false⟩
  | .tag v _ => v.seen
mutual
def V.cells : V → List C
  | .num n => [.int .i64 1, .int .i64 n, .int .i64 0, .int .i64 0, .int .i64 0, slOf 2 [], .int .i64 0, slOf 2 [], slOf 7 [], .nilp, .nilp, .int .i64 0, slOf 2 [], .int .i64 0, slOf 2 [], .int .i64 0, .bool false]
  | .tru n => [.int .i64 2, .int .i64 n, .int .i64 0, .int .i64 0, .int .i64 0, slOf 2 [], .int .i64 0, slOf 2 [], slOf 7 [], .nilp, .nilp, .int .i64 0, slOf 2 [], .int .i64 0, slOf 2 [], .int .i64 0, .bool false]
  | .clo b env => [.int .i64 3, .int .i64 0, .int .i64 b.k, .int .i64 b.n, .int .i64 b.t.k, slOf 2 (tyRows b.t.l), .int .i64 b.f.k, slOf 2 (tyRows b.f.l), slOf 7 (tmRows b.l), envC env, .nilp, .int .i64 0, slOf 2 [], .int .i64 0, slOf 2 [], .int .i64 0, .bool false]
  | .wrap v f t at' back => [.int .i64 7, .int .i64 0, .int .i64 0, .int .i64 0, .int .i64 0, slOf 2 [], .int .i64 0, slOf 2 [], slOf 7 [], .nilp, fpo (V.cells v) 0, .int .i64 f.k, slOf 2 (tyRows f.l), .int .i64 t.k, slOf 2 (tyRows t.l), .int .i64 at', .bool back]
  | .tag v g => [.int .i64 8, .int .i64 0, .int .i64 0, .int .i64 0, .int .i64 0, slOf 2 [], .int .i64 0, slOf 2 [], slOf 7 [], .nilp, fpo (V.cells v) 0, .int .i64 g.k, slOf 2 (tyRows g.l), .int .i64 0, slOf 2 [], .int .i64 0, .bool false]
/-- A scope: a chain of what functions were given. -/
def envC : List V → C
  | [] => .nilp
  | v :: l => fpo [fpo (V.cells v) 0, envC l] 0
end
/-- A pointer to a value. -/
def V.p (v : V) : C := fpo v.cells 0
/-- What is to be done with a value that comes. -/
inductive Fr where
  | term (t : Tm) (env : List V)
  | second (t : Tm) (v : V)
  | given (v : V)
  | casts (f t : Ty) (at' : Int) (back : Bool)
/-- A frame's cells: kind, t, env, v, from, to, at, back. -/
def Fr.c : Fr → List C
  | .term t env => [.int .i64 t.k, .int .i64 t.k, .int .i64 t.n, .int .i64 t.t.k, slOf 2 (tyRows t.t.l), .int .i64 t.f.k, slOf 2 (tyRows t.f.l), slOf 7 (tmRows t.l), envC env, .nilp, .int .i64 0, slOf 2 [], .int .i64 0, slOf 2 [], .int .i64 0, .bool false]
  | .second t v => [.int .i64 20, .int .i64 t.k, .int .i64 t.n, .int .i64 t.t.k, slOf 2 (tyRows t.t.l), .int .i64 t.f.k, slOf 2 (tyRows t.f.l), slOf 7 (tmRows t.l), .nilp, v.p, .int .i64 0, slOf 2 [], .int .i64 0, slOf 2 [], .int .i64 0, .bool false]
  | .given v => [.int .i64 21, .int .i64 0, .int .i64 0, .int .i64 0, slOf 2 [], .int .i64 0, slOf 2 [], slOf 7 [], .nilp, v.p, .int .i64 0, slOf 2 [], .int .i64 0, slOf 2 [], .int .i64 0, .bool false]
  | .casts f t at' back => [.int .i64 22, .int .i64 0, .int .i64 0, .int .i64 0, slOf 2 [], .int .i64 0, slOf 2 [], slOf 7 [], .nilp, .nilp, .int .i64 f.k, slOf 2 (tyRows f.l), .int .i64 t.k, slOf 2 (tyRows t.l), .int .i64 at', .bool back]
/-- The stack's rows: the top is the last. -/
def frRows (s : List Fr) : List (List C) := (s.map Fr.c).reverse
/-- What comes next: a term in a scope, or a value. -/
inductive Ctl where
  | ent (t : Tm) (env : List V)
  | val (v : V)
structure Mch where
  ctl : Ctl
  stk : List Fr
  fuel : Nat
/-- A value is cast. -/
def castV (v : V) (f t : Ty) (at' : Int) (back : Bool) : V ⊕ Out :=
  if f.same t then .inl v
  else if f.k == 3 && t.k == 3 then .inl (.wrap v f t at' back)
  else if t.k == 0 then .inl (.tag (if f.same f.ground then v else .wrap v f f.ground at' back) f.ground)
  else if f.k == 0 then
    match v with
    | .tag u g =>
      if g.same t.ground then
        if t.ground.same t then .inl u
        else if t.k == 3 then .inl (.wrap u t.ground t at' back)
        else .inr .stuck
      else .inr (.blame at' back)
    | _ => .inr .stuck
  else .inr .stuck
def clamp (n : Int) : Int := max (-1000000) (min n 1000000)
/-- Two numbers; none: they are out of their bounds. -/
def twoV (k : Int) : V → V → Option (V ⊕ Out)
  | .num a, .num b => if inB a && inB b then some (.inl (if k == 5 then .tru (if a < b then 1 else 0) else .num (clamp (a + b)))) else none
  | .num a, _ => some (.inr .stuck)
  | _, _ => some (.inr .stuck)
/-- What a call begins; none: not of the form. -/
def callM (f x : V) (s : List Fr) (F : Nat) : Option (Mch ⊕ Out) :=
  match f with
  | .clo b env => match F with
    | 0 => some (.inr .fuel)
    | F + 1 => some (.inl ⟨.ent b (x :: env), s, F⟩)
  | .wrap u f t at' back =>
    match f.l, t.l with
    | [f0, f1], [t0, t1] =>
      match castV x t0 f0 at' (!back) with
      | .inl y => some (.inl ⟨.val y, .given u :: .casts f1 t1 at' back :: s, F⟩)
      | .inr o => some (.inr o)
    | _, _ => none
  | _ => some (.inr .stuck)
/-- A step into a term. -/
def enterM (t : Tm) (env : List V) (s : List Fr) (F : Nat) : Option (Mch ⊕ Out) :=
  if t.k == 1 then match env[t.n.toNat]? with | some v => some (.inl ⟨.val v, s, F⟩) | none => some (.inr .stuck)
  else if t.k == 2 then some (.inl ⟨.val (.num t.n), s, F⟩)
  else if t.k == 3 then some (.inl ⟨.val (.tru t.n), s, F⟩)
  else match t.l with
    | [] => none
    | b :: _ =>
      if t.k == 7 then some (.inl ⟨.val (.clo b env), s, F⟩)
      else if t.k == 10 then some (.inl ⟨.ent b env, .casts t.f t.t t.n false :: s, F⟩)
      else if t.k == 9 then some (.inl ⟨.ent b env, s, F⟩)
      else some (.inl ⟨.ent b env, .term t env :: s, F⟩)
/-- A step with a value that has come. -/
def leaveM (v : V) (f : Fr) (s : List Fr) (F : Nat) : Option (Mch ⊕ Out) :=
  match f with
  | .term t env =>
    if t.k == 6 then
      match v with
      | .tru n => match t.l with
        | [_, a, b] => if n == 1 then some (.inl ⟨.ent a env, s, F⟩) else if n == 0 then some (.inl ⟨.ent b env, s, F⟩) else none
        | _ => none
      | _ => some (.inr .stuck)
    else if t.k == 4 || t.k == 5 || t.k == 8 then
      match t.l with
      | _ :: b :: _ => some (.inl ⟨.ent b env, .second t v :: s, F⟩)
      | _ => none
    else none
  | .second t f =>
    if t.k == 8 then callM f v s F
    else match twoV t.k f v with
      | some (.inl u) => some (.inl ⟨.val u, s, F⟩)
      | some (.inr o) => some (.inr o)
      | none => none
  | .given f => callM f v s F
  | .casts f t at' back => match castV v f t at' back with
    | .inl u => some (.inl ⟨.val u, s, F⟩)
    | .inr o => some (.inr o)
def step (m : Mch) : Option (Mch ⊕ Out) :=
  match m.ctl with
  | .ent t env => enterM t env m.stk m.fuel
  | .val v => match m.stk with
    | [] => some (.inr v.seen)
    | f :: s => leaveM v f s m.fuel
/-- In so many steps it comes to this. -/
inductive Runs : Nat → Mch → Out → Prop
  | fin {m : Mch} {o : Out} : step m = some (.inr o) → Runs 0 m o
  | go {k : Nat} {m m' : Mch} {o : Out} : step m = some (.inl m') → Runs k m' o → Runs (k + 1) m o
/-- A term in a scope; a function of a value. -/
inductive Cmd where
  | tm (t : Tm) (env : List V)
  | ap (f x : V)
/-- A value, and how many calls are left; or how it ended. -/
inductive Res where
  | ok (v : V) (F : Nat)
  | out (o : Out)
/-- A cast's result. -/
def castR (v : V) (f t : Ty) (at' : Int) (back : Bool) (F : Nat) : Res :=
  match castV v f t at' back with
  | .inl u => .ok u F
  | .inr o => .out o
inductive Ev : Cmd → Nat → Res → Prop
  | ref {n : Int} {t f : Ty} {l : List Tm} {env : List V} {F : Nat} {v : V} : env[n.toNat]? = some v → Ev (.tm (.mk 1 n t f l) env) F (.ok v F)
  | refS {n : Int} {t f : Ty} {l : List Tm} {env : List V} {F : Nat} : env[n.toNat]? = none → Ev (.tm (.mk 1 n t f l) env) F (.out .stuck)
  | lit {n : Int} {t f : Ty} {l : List Tm} {env : List V} {F : Nat} : Ev (.tm (.mk 2 n t f l) env) F (.ok (.num n) F)
  | says {n : Int} {t f : Ty} {l : List Tm} {env : List V} {F : Nat} : Ev (.tm (.mk 3 n t f l) env) F (.ok (.tru n) F)
  | fn {n : Int} {t f : Ty} {b : Tm} {l : List Tm} {env : List V} {F : Nat} : Ev (.tm (.mk 7 n t f (b :: l)) env) F (.ok (.clo b env) F)
  | as {n : Int} {t f : Ty} {b : Tm} {l : List Tm} {env : List V} {F : Nat} {r : Res} : Ev (.tm b env) F r → Ev (.tm (.mk 9 n t f (b :: l)) env) F r
  | castO {n : Int} {t f : Ty} {b : Tm} {l : List Tm} {env : List V} {F : Nat} {o : Out} : Ev (.tm b env) F (.out o) → Ev (.tm (.mk 10 n t f (b :: l)) env) F (.out o)
  | cast {n : Int} {t f : Ty} {b : Tm} {l : List Tm} {env : List V} {F F' : Nat} {v : V} : Ev (.tm b env) F (.ok v F') → Ev (.tm (.mk 10 n t f (b :: l)) env) F (castR v f t n false F')
  | ifO {n : Int} {t f : Ty} {a b c : Tm} {env : List V} {F : Nat} {o : Out} : Ev (.tm a env) F (.out o) → Ev (.tm (.mk 6 n t f [a, b, c]) env) F (.out o)
  | ifS {n : Int} {t f : Ty} {a b c : Tm} {env : List V} {F F' : Nat} {v : V} : Ev (.tm a env) F (.ok v F') → (∀ n, v ≠ .tru n) → Ev (.tm (.mk 6 n t f [a, b, c]) env) F (.out .stuck)
  | ifT {n : Int} {t f : Ty} {a b c : Tm} {env : List V} {F F' : Nat} {r : Res} : Ev (.tm a env) F (.ok (.tru 1) F') → Ev (.tm b env) F' r → Ev (.tm (.mk 6 n t f [a, b, c]) env) F r
  | ifF {n : Int} {t f : Ty} {a b c : Tm} {env : List V} {F F' : Nat} {r : Res} : Ev (.tm a env) F (.ok (.tru 0) F') → Ev (.tm c env) F' r → Ev (.tm (.mk 6 n t f [a, b, c]) env) F r
  | binO {k n : Int} {t f : Ty} {a b : Tm} {env : List V} {F : Nat} {o : Out} : k = 4 ∨ k = 5 ∨ k = 8 → Ev (.tm a env) F (.out o) → Ev (.tm (.mk k n t f [a, b]) env) F (.out o)
  | binP {k n : Int} {t f : Ty} {a b : Tm} {env : List V} {F F' : Nat} {v : V} {o : Out} : k = 4 ∨ k = 5 ∨ k = 8 → Ev (.tm a env) F (.ok v F') → Ev (.tm b env) F' (.out o) → Ev (.tm (.mk k n t f [a, b]) env) F (.out o)
  | twoV {k n : Int} {t f : Ty} {a b : Tm} {env : List V} {F F' F'' : Nat} {v w u : V} : k = 4 ∨ k = 5 → Ev (.tm a env) F (.ok v F') → Ev (.tm b env) F' (.ok w F'') → twoV k v w = some (.inl u) → Ev (.tm (.mk k n t f [a, b]) env) F (.ok u F'')
  | twoO {k n : Int} {t f : Ty} {a b : Tm} {env : List V} {F F' F'' : Nat} {v w : V} {o : Out} : k = 4 ∨ k = 5 → Ev (.tm a env) F (.ok v F') → Ev (.tm b env) F' (.ok w F'') → twoV k v w = some (.inr o) → Ev (.tm (.mk k n t f [a, b]) env) F (.out o)
  | call {n : Int} {t f : Ty} {a b : Tm} {env : List V} {F F' F'' : Nat} {v w : V} {r : Res} : Ev (.tm a env) F (.ok v F') → Ev (.tm b env) F' (.ok w F'') → Ev (.ap v w) F'' r → Ev (.tm (.mk 8 n t f [a, b]) env) F r
  | clo0 {b : Tm} {env : List V} {x : V} : Ev (.ap (.clo b env) x) 0 (.out .fuel)
  | clo {b : Tm} {env : List V} {x : V} {F : Nat} {r : Res} : Ev (.tm b (x :: env)) F r → Ev (.ap (.clo b env) x) (F + 1) r
  | wrapO {u x : V} {kf kt : Int} {f0 f1 t0 t1 : Ty} {at' : Int} {back : Bool} {F : Nat} {o : Out} : castV x t0 f0 at' (!back) = .inr o → Ev (.ap (.wrap u (.mk kf [f0, f1]) (.mk kt [t0, t1]) at' back) x) F (.out o)
  | wrapP {u x y : V} {kf kt : Int} {f0 f1 t0 t1 : Ty} {at' : Int} {back : Bool} {F : Nat} {o : Out} : castV x t0 f0 at' (!back) = .inl y → Ev (.ap u y) F (.out o) → Ev (.ap (.wrap u (.mk kf [f0, f1]) (.mk kt [t0, t1]) at' back) x) F (.out o)
  | wrap {u x y v : V} {kf kt : Int} {f0 f1 t0 t1 : Ty} {at' : Int} {back : Bool} {F F' : Nat} : castV x t0 f0 at' (!back) = .inl y → Ev (.ap u y) F (.ok v F') → Ev (.ap (.wrap u (.mk kf [f0, f1]) (.mk kt [t0, t1]) at' back) x) F (castR v f1 t1 at' back F')
  | apN {n : Int} {x : V} {F : Nat} : Ev (.ap (.num n) x) F (.out .stuck)
  | apT {n : Int} {x : V} {F : Nat} : Ev (.ap (.tru n) x) F (.out .stuck)
  | apG {v x : V} {g : Ty} {F : Nat} : Ev (.ap (.tag v g) x) F (.out .stuck)
/-- What is told of it. -/
def Res.told : Res → Out
  | .ok v _ => v.seen
  | .out o => o
end Go.Proofs.YtnflnbdlgdjfmaaDoor
namespace Go.Proofs.YtnflnbdlgdjfmaaDoor
set_option linter.unusedVariables false
set_option linter.unusedSimpArgs false
/-- What comes of the rest, once something has come. -/
def After (r : Res) (s : List Fr) (o : Out) : Prop :=
  match r with
  | .ok v F => ∃ k, Runs k ⟨.val v, s, F⟩ o
  | .out o' => o = o'
/-- What comes of a step. -/
def StepTo (x : Option (Mch ⊕ Out)) (o : Out) : Prop := (∃ k m, x = some (.inl m) ∧ Runs k m o) ∨ x = some (.inr o)
def Begun (c : Cmd) (F : Nat) (s : List Fr) (o : Out) : Prop :=
  match c with
  | .tm t env => StepTo (enterM t env s F) o
  | .ap f x => StepTo (callM f x s F) o
theorem StepTo.runs {m : Mch} {o : Out} (h : StepTo (step m) o) : ∃ k, Runs k m o := by
  rcases h with ⟨k, m', h1, h2⟩ | h
  · exact ⟨k + 1, .go h1 h2⟩
  · exact ⟨0, .fin h⟩
theorem stepTo_inl {m : Mch} {o : Out} (h : ∃ k, Runs k m o) : StepTo (some (.inl m)) o := by
  obtain ⟨k, h⟩ := h
  exact Or.inl ⟨k, m, rfl, h⟩
theorem Begun.runs {t : Tm} {env : List V} {F : Nat} {s : List Fr} {o : Out} (h : Begun (.tm t env) F s o) : ∃ k, Runs k ⟨.ent t env, s, F⟩ o := StepTo.runs (m := ⟨.ent t env, s, F⟩) h
theorem After.cast {v : V} {f t : Ty} {at' : Int} {back : Bool} {F : Nat} {s : List Fr} {o : Out} (h : After (castR v f t at' back F) s o) : ∃ k, Runs k ⟨.val v, .casts f t at' back :: s, F⟩ o := by
  refine StepTo.runs ?_
  show StepTo (match castV v f t at' back with | .inl u => some (.inl ⟨.val u, s, F⟩) | .inr o => some (.inr o)) o
  unfold castR at h
  cases hc : castV v f t at' back with
  | inl u => rw [hc] at h; exact stepTo_inl h
  | inr o' => rw [hc] at h; have h : o = o' := h; subst h; exact .inr rfl
theorem bin_enter {k n : Int} {t f : Ty} {a b : Tm} {env : List V} {s : List Fr} {F : Nat} (hk : k = 4 ∨ k = 5 ∨ k = 8) : enterM (.mk k n t f [a, b]) env s F = some (.inl ⟨.ent a env, .term (.mk k n t f [a, b]) env :: s, F⟩) := by
  rcases hk with rfl | rfl | rfl <;> rfl
theorem bin_leave {k n : Int} {t f : Ty} {a b : Tm} {env : List V} {s : List Fr} {F : Nat} {v : V} (hk : k = 4 ∨ k = 5 ∨ k = 8) : leaveM v (.term (.mk k n t f [a, b]) env) s F = some (.inl ⟨.ent b env, .second (.mk k n t f [a, b]) v :: s, F⟩) := by
  rcases hk with rfl | rfl | rfl <;> rfl
def Res.more (r : Res) (d : Nat) : Res := match r with | .ok v F => .ok v (F + d) | .out o => .out o
theorem castR_more (v : V) (f t : Ty) (at' : Int) (back : Bool) (F d : Nat) : (castR v f t at' back F).more d = castR v f t at' back (F + d) := by
  unfold castR; cases castV v f t at' back <;> rfl
theorem castV_out {v : V} {f t : Ty} {at' : Int} {back : Bool} {o : Out} (h : castV v f t at' back = .inr o) : o = .stuck ∨ o = .blame at' back := by
  unfold castV at h
  split at h; · cases h
  split at h; · cases h
  split at h; · cases h
  split at h
  · split at h
    · split at h
      · split at h; · cases h
        split at h; · cases h
        cases h; exact .inl rfl
      · cases h; exact .inr rfl
    · cases h; exact .inl rfl
  · cases h; exact .inl rfl
theorem castV_fuel {v : V} {f t : Ty} {at' : Int} {back : Bool} : castV v f t at' back ≠ .inr .fuel := fun h => by
  rcases castV_out h with h | h <;> simp [Out.fuel, Out.stuck, Out.blame] at h
theorem twoV_out {k : Int} {v w : V} {o : Out} (h : twoV k v w = some (.inr o)) : o = .stuck := by
  unfold twoV at h
  split at h
  · split at h <;> cases h
  · cases h; rfl
  · cases h; rfl
theorem ev_more {c : Cmd} {F : Nat} {r : Res} (h : Ev c F r) (d : Nat) (hr : r ≠ .out .fuel) : Ev c (F + d) (r.more d) := by
  induction h with
  | ref hv => exact .ref hv
  | refS hv => exact .refS hv
  | lit => exact .lit
  | says => exact .says
  | fn => exact .fn
  | as _ ih => exact .as (ih hr)
  | castO _ ih => exact .castO (ih hr)
  | cast _ ih => rw [castR_more]; exact .cast (ih (by simp))
  | ifO _ ih => exact .ifO (ih hr)
  | ifS _ hv ih => exact .ifS (ih (by simp)) hv
  | ifT _ _ ih1 ih2 => exact .ifT (ih1 (by simp)) (ih2 hr)
  | ifF _ _ ih1 ih2 => exact .ifF (ih1 (by simp)) (ih2 hr)
  | binO hk _ ih => exact .binO hk (ih hr)
  | binP hk _ _ ih1 ih2 => exact .binP hk (ih1 (by simp)) (ih2 hr)
  | twoV hk _ _ h2 ih1 ih2 => exact .twoV hk (ih1 (by simp)) (ih2 (by simp)) h2
  | twoO hk _ _ h2 ih1 ih2 => exact .twoO hk (ih1 (by simp)) (ih2 (by simp)) h2
  | call _ _ _ ih1 ih2 ih3 => exact .call (ih1 (by simp)) (ih2 (by simp)) (ih3 hr)
  | clo0 => exact absurd rfl hr
  | clo _ ih => rename_i F r _; have := Ev.clo (ih hr); rwa [show F + d + 1 = F + 1 + d by omega] at this
  | wrapO hc => exact .wrapO hc
  | wrapP hc _ ih => exact .wrapP hc (ih hr)
  | wrap hc _ ih => rw [castR_more]; exact .wrap hc (ih (by simp))
  | apN => exact .apN
  | apT => exact .apT
  | apG => exact .apG
/-- What has come comes with more fuel, too. -/
theorem more_told {t : Tm} {F : Nat} {r : Res} (h : Ev (.tm t []) F r) (d : Nat) (hr : r.told ≠ .fuel) : ∃ r', Ev (.tm t []) (F + d) r' ∧ r'.told = r.told :=
  ⟨_, ev_more h d (fun e => hr (by rw [e]; rfl)), by cases r <;> rfl⟩
end Go.Proofs.YtnflnbdlgdjfmaaDoor
namespace Go.Proofs.YtnflnbdlgdjfmaaDoor
set_option linter.unusedVariables false
set_option linter.unusedSimpArgs false
/-- A term of the right form. -/
inductive WfT : Tm → Prop
  | ref {n : Int} {t f : Ty} (h : 0 ≤ n) : WfT (.mk 1 n t f [])
  | lit {n : Int} {t f : Ty} (h : inB n = true) : WfT (.mk 2 n t f [])
  | says {n : Int} {t f : Ty} (h : n = 0 ∨ n = 1) : WfT (.mk 3 n t f [])
  | fn {n : Int} {t f : Ty} {b : Tm} (h : WfT b) : WfT (.mk 7 n t f [b])
  | as {n : Int} {t f : Ty} {b : Tm} (h : WfT b) : WfT (.mk 9 n t f [b])
  | cast {n : Int} {t f : Ty} {b : Tm} (ht : Right t) (hf : Right f) (h : WfT b) : WfT (.mk 10 n t f [b])
  | ife {n : Int} {t f : Ty} {a b c : Tm} (ha : WfT a) (hb : WfT b) (hc : WfT c) : WfT (.mk 6 n t f [a, b, c])
  | bin {k n : Int} {t f : Ty} {a b : Tm} (hk : k = 4 ∨ k = 5 ∨ k = 8) (ha : WfT a) (hb : WfT b) : WfT (.mk k n t f [a, b])
/-- A value of the right form. -/
inductive WfV : V → Prop
  | num {n : Int} (h : inB n = true) : WfV (.num n)
  | tru {n : Int} (h : n = 0 ∨ n = 1) : WfV (.tru n)
  | clo {b : Tm} {env : List V} (hb : WfT b) (he : ∀ v ∈ env, WfV v) : WfV (.clo b env)
  | wrap {v : V} {f0 f1 t0 t1 : Ty} {at' : Int} {back : Bool} (h0 : Right f0) (h1 : Right f1) (h2 : Right t0) (h3 : Right t1) (hv : WfV v) : WfV (.wrap v (.mk 3 [f0, f1]) (.mk 3 [t0, t1]) at' back)
  | tag {v : V} {g : Ty} (hg : Right g) (hv : WfV v) : WfV (.tag v g)
def WfR (F : Nat) : Res → Prop
  | .ok v F' => WfV v ∧ F' ≤ F
  | .out _ => True
theorem clamp_in (n : Int) : inB (clamp n) = true := by rw [inB_iff]; unfold clamp; omega
theorem wf_wrap {v : V} {f t : Ty} {at' : Int} {back : Bool} (hv : WfV v) (hf : Right f) (ht : Right t) (h1 : f.k = 3) (h2 : t.k = 3) : WfV (.wrap v f t at' back) := by
  cases hf with
  | base h => simp at h1; omega
  | fn a b =>
    cases ht with
    | base h => simp at h2; omega
    | fn c d => exact .wrap a b c d hv
theorem right_base {f : Ty} (hf : Right f) (h : f.k ≠ 3) : f.ground = f := by
  cases hf with
  | base _ => simp at h; simp [Ty.ground, h]
  | fn _ _ => exact absurd rfl h
theorem castV_wf {v u : V} {f t : Ty} {at' : Int} {back : Bool} (hv : WfV v) (hf : Right f) (ht : Right t) (h : castV v f t at' back = .inl u) : WfV u := by
  unfold castV at h
  split at h
  · cases h; exact hv
  split at h
  · rename_i hk
    cases h
    simp only [Bool.and_eq_true, beq_iff_eq] at hk
    exact wf_wrap hv hf ht hk.1 hk.2
  split at h
  · cases h
    refine .tag hf.ground ?_
    split
    · exact hv
    · rename_i hs
      have h3 : f.k = 3 := Decidable.byContradiction fun h3 => hs (by rw [right_base hf h3]; exact same_refl f)
      exact wf_wrap hv hf hf.ground h3 (by unfold Ty.ground; rw [if_pos (by simpa using h3)]; rfl)
  split at h
  · split at h
    · cases hv with
      | tag hg hv =>
      split at h
      · split at h
        · cases h; exact hv
        · split at h
          · rename_i h3
            cases h
            have h3 : t.k = 3 := by simpa using h3
            exact wf_wrap hv ht.ground ht (by unfold Ty.ground; rw [if_pos (by simpa using h3)]; rfl) h3
          · cases h
      · cases h
    · cases h
  · cases h
theorem castR_wf {v : V} {f t : Ty} {at' : Int} {back : Bool} {F F' : Nat} (hv : WfV v) (hf : Right f) (ht : Right t) (hF : F' ≤ F) : WfR F (castR v f t at' back F') := by
  unfold castR
  cases h : castV v f t at' back with
  | inl u => exact ⟨castV_wf hv hf ht h, hF⟩
  | inr o => trivial
theorem WfR.le {F F' : Nat} {r : Res} (h : WfR F r) (hF : F ≤ F') : WfR F' r := by
  cases r with
  | ok v G => exact ⟨h.1, Nat.le_trans h.2 hF⟩
  | out o => trivial
def TmEx (F : Nat) : Prop := ∀ t env, WfT t → (∀ v ∈ env, WfV v) → ∃ r, Ev (.tm t env) F r ∧ WfR F r
theorem ap_ex {F : Nat} (ih : ∀ F', F' < F → TmEx F') {f : V} (hf : WfV f) : ∀ x, WfV x → ∃ r, Ev (.ap f x) F r ∧ WfR F r := by
  induction hf with
  | num h => exact fun x _ => ⟨_, .apN, trivial⟩
  | tru h => exact fun x _ => ⟨_, .apT, trivial⟩
  | tag _ _ _ => exact fun x _ => ⟨_, .apG, trivial⟩
  | clo hb he _ =>
    intro x hx
    cases F with
    | zero => exact ⟨_, .clo0, trivial⟩
    | succ F =>
      obtain ⟨r, hr, hw⟩ := ih F (by omega) _ (x :: _) hb fun v hv => by
        rcases List.mem_cons.1 hv with rfl | hv
        · exact hx
        · exact he v hv
      exact ⟨r, .clo hr, hw.le (by omega)⟩
  | wrap h0 h1 h2 h3 hv ihv =>
    rename_i u f0 f1 t0 t1 at' back
    intro x hx
    cases hc : castV x t0 f0 at' (!back) with
    | inr o => exact ⟨_, .wrapO hc, trivial⟩
    | inl y =>
      obtain ⟨r, hr, hw⟩ := ihv y (castV_wf hx h2 h0 hc)
      cases r with
      | out o => exact ⟨_, .wrapP hc hr, trivial⟩
      | ok v F' => exact ⟨_, .wrap hc hr, castR_wf hw.1 h1 h3 hw.2⟩
theorem twoV_ex {k : Int} {v w : V} (hv : WfV v) (hw : WfV w) : (∃ u, twoV k v w = some (.inl u) ∧ WfV u) ∨ ∃ o, twoV k v w = some (.inr o) := by
  cases hv with
  | num h =>
    cases hw with
    | num h' =>
      refine .inl ⟨_, by simp only [twoV, h, h']; rfl, ?_⟩
      split
      · split
        · exact .tru (.inr rfl)
        · exact .tru (.inl rfl)
      · exact .num (clamp_in _)
    | _ => exact .inr ⟨_, rfl⟩
  | _ => exact .inr ⟨_, rfl⟩
/-- SOMETHING ALWAYS COMES. -/
theorem tm_ex (F : Nat) : TmEx F := by
  induction F using Nat.strongRecOn with
  | ind F ih =>
  intro t env ht he
  have sub : ∀ {a : Tm}, (∃ r, Ev (.tm a env) F r ∧ WfR F r) → WfT a → ∀ F', F' ≤ F → ∃ r, Ev (.tm a env) F' r ∧ WfR F' r := fun h hw F' hF => by
    rcases Nat.lt_or_ge F' F with hlt | hge
    · exact ih F' hlt _ _ hw he
    · obtain rfl : F' = F := by omega
      exact h
  induction ht with
  | ref h =>
    rename_i n _ _
    cases hv : env[n.toNat]? with
    | none => exact ⟨_, .refS hv, trivial⟩
    | some v => exact ⟨_, .ref hv, he v (List.mem_of_getElem? hv), Nat.le_refl _⟩
  | lit h => exact ⟨_, .lit, .num h, Nat.le_refl _⟩
  | says h => exact ⟨_, .says, .tru h, Nat.le_refl _⟩
  | fn h _ => exact ⟨_, .fn, .clo h he, Nat.le_refl _⟩
  | as h iha =>
    obtain ⟨r, hr, hw⟩ := iha
    exact ⟨r, .as hr, hw⟩
  | cast ht hf h iha =>
    obtain ⟨r, hr, hw⟩ := iha
    cases r with
    | out o => exact ⟨_, .castO hr, trivial⟩
    | ok v F' => exact ⟨_, .cast hr, castR_wf hw.1 hf ht hw.2⟩
  | ife ha hb hc iha ihb ihc =>
    obtain ⟨r, hr, hw⟩ := iha
    cases r with
    | out o => exact ⟨_, .ifO hr, trivial⟩
    | ok v F' =>
      obtain ⟨hv, hF⟩ := hw
      cases hv with
      | tru h =>
        rcases h with rfl | rfl
        · obtain ⟨r, h1, h2⟩ := sub ihc hc F' hF
          exact ⟨r, .ifF hr h1, h2.le hF⟩
        · obtain ⟨r, h1, h2⟩ := sub ihb hb F' hF
          exact ⟨r, .ifT hr h1, h2.le hF⟩
      | _ => exact ⟨_, .ifS hr (by simp), trivial⟩
  | bin hk ha hb iha ihb =>
    obtain ⟨r, hr, hw⟩ := iha
    cases r with
    | out o => exact ⟨_, .binO hk hr, trivial⟩
    | ok v F' =>
      obtain ⟨hv, hF⟩ := hw
      obtain ⟨r, h1, h2⟩ := sub ihb hb F' hF
      cases r with
      | out o => exact ⟨_, .binP hk hr h1, trivial⟩
      | ok w F'' =>
        obtain ⟨hw, hF2⟩ := h2
        have key : ∀ {k n : Int} {t f : Ty}, k = 4 ∨ k = 5 → ∃ r, Ev (.tm (.mk k n t f [_, _]) env) F r ∧ WfR F r := fun {k n t f} hk => by
          rcases twoV_ex (k := k) hv hw with ⟨u, h3, h4⟩ | ⟨o, h3⟩
          · exact ⟨_, .twoV hk hr h1 h3, h4, by omega⟩
          · exact ⟨_, .twoO hk hr h1 h3, trivial⟩
        rcases hk with rfl | rfl | rfl
        · exact key (.inl rfl)
        · exact key (.inr rfl)
        · obtain ⟨r, h3, h4⟩ := ap_ex (F := F'') (fun F' h => ih F' (by omega)) hv w hw
          exact ⟨r, .call hr h1 h3, h4.le (by omega)⟩
end Go.Proofs.YtnflnbdlgdjfmaaDoor
namespace Go.Proofs.YtnflnbdlgdjfmaaDoor
set_option linter.unusedVariables false
set_option linter.unusedSimpArgs false
/-- A term with its casts, and its type; the inmost first. -/
inductive HT : List Ty → Tm → Ty → Prop
  | ref {Γ : List Ty} {n : Int} {t f τ : Ty} (h0 : 0 ≤ n) (h : Γ[n.toNat]? = some τ) : HT Γ (.mk 1 n t f []) τ
  | lit {Γ : List Ty} {n : Int} {t f : Ty} (h : inB n = true) : HT Γ (.mk 2 n t f []) .num
  | says {Γ : List Ty} {n : Int} {t f : Ty} (h : n = 0 ∨ n = 1) : HT Γ (.mk 3 n t f []) .truth
  | add {Γ : List Ty} {n : Int} {t f : Ty} {a b : Tm} (ha : HT Γ a .num) (hb : HT Γ b .num) : HT Γ (.mk 4 n t f [a, b]) .num
  | less {Γ : List Ty} {n : Int} {t f : Ty} {a b : Tm} (ha : HT Γ a .num) (hb : HT Γ b .num) : HT Γ (.mk 5 n t f [a, b]) .truth
  | ife {Γ : List Ty} {n : Int} {t f τ : Ty} {a b c : Tm} (ha : HT Γ a .truth) (hb : HT Γ b τ) (hc : HT Γ c τ) : HT Γ (.mk 6 n t f [a, b, c]) τ
  | fn {Γ : List Ty} {n : Int} {t f τ : Ty} {b : Tm} (h : HT (t :: Γ) b τ) : HT Γ (.mk 7 n t f [b]) (.to t τ)
  | call {Γ : List Ty} {n : Int} {t f σ τ : Ty} {a b : Tm} (ha : HT Γ a (.to σ τ)) (hb : HT Γ b σ) : HT Γ (.mk 8 n t f [a, b]) τ
  | as {Γ : List Ty} {n : Int} {t f : Ty} {b : Tm} (h : HT Γ b t) : HT Γ (.mk 9 n t f [b]) t
  | cast {Γ : List Ty} {n : Int} {t f : Ty} {b : Tm} (ht : Right t) (hf : Right f) (hs : f.fits t = true) (h : HT Γ b f) : HT Γ (.mk 10 n t f [b]) t
theorem HT.wf {Γ : List Ty} {t : Tm} {τ : Ty} (h : HT Γ t τ) : WfT t := by
  induction h with
  | ref h0 h => exact .ref h0
  | lit h => exact .lit h
  | says h => exact .says h
  | add _ _ iha ihb => exact .bin (.inl rfl) iha ihb
  | less _ _ iha ihb => exact .bin (.inr (.inl rfl)) iha ihb
  | ife _ _ _ iha ihb ihc => exact .ife iha ihb ihc
  | fn _ ih => exact .fn ih
  | call _ _ iha ihb => exact .bin (.inr (.inr rfl)) iha ihb
  | as _ ih => exact .as ih
  | cast ht hf _ _ ih => exact .cast ht hf ih
/-- A type that says nothing of parts. -/
def Plain (g : Ty) : Prop := g = .num ∨ g = .truth ∨ g = .to .any .any
/-- A value of a type. -/
inductive VT : V → Ty → Prop
  | num {n : Int} : VT (.num n) .num
  | tru {n : Int} : VT (.tru n) .truth
  | clo {b : Tm} {env : List V} {Γ : List Ty} {σ τ : Ty} (hl : Γ.length ≤ env.length) (he : ∀ (i : Nat) (v : V) (ρ : Ty), env[i]? = some v → Γ[i]? = some ρ → VT v ρ) (hb : HT (σ :: Γ) b τ) : VT (.clo b env) (.to σ τ)
  | wrap {v : V} {f0 f1 t0 t1 : Ty} {at' : Int} {back : Bool} (h0 : Right f0) (h1 : Right f1) (h2 : Right t0) (h3 : Right t1) (g0 : f0.fits t0 = true) (g1 : f1.fits t1 = true) (hv : VT v (.to f0 f1)) : VT (.wrap v (.mk 3 [f0, f1]) (.mk 3 [t0, t1]) at' back) (.to t0 t1)
  | tag {v : V} {g : Ty} (hg : Plain g) (hv : VT v g) : VT (.tag v g) .any
theorem vt_any {v : V} (h : VT v .any) : ∃ u g, v = .tag u g ∧ Plain g ∧ VT u g := by
  cases h with
  | tag hg hv => exact ⟨_, _, rfl, hg, hv⟩
theorem vt_num {v : V} (h : VT v .num) : ∃ n, v = .num n := by
  cases h with
  | num => exact ⟨_, rfl⟩
theorem vt_truth {v : V} (h : VT v .truth) : ∃ n, v = .tru n := by
  cases h with
  | tru => exact ⟨_, rfl⟩
theorem fits_comm : ∀ {a b : Ty}, a.fits b = b.fits a := fun {a} => Ty.ind (p := fun a => ∀ {b : Ty}, a.fits b = b.fits a) (fun k l ih b => by
  obtain ⟨k', l'⟩ := b
  have hL : ∀ (l m : List Ty), (∀ t ∈ l, ∀ {b : Ty}, t.fits b = b.fits t) → fitsL l m = fitsL m l := by
    intro l
    induction l with
    | nil => intro m _; cases m <;> simp [fitsL]
    | cons a l ihl =>
      intro m h
      cases m with
      | nil => simp [fitsL]
      | cons b m => simp only [fitsL]; rw [h a (List.mem_cons_self ..), ihl m fun t ht => h t (List.mem_cons_of_mem _ ht)]
  simp only [Ty.fits]
  rw [hL l l' ih, show (k == k') = (k' == k) from Bool.beq_comm]
  cases (k == 0) <;> cases (k' == 0) <;> rfl) a
theorem fits_to {a b c d : Ty} : (Ty.mk 3 [a, b]).fits (.mk 3 [c, d]) = (a.fits c && b.fits d) := by simp [Ty.fits, fitsL]
theorem fits_any (a : Ty) : a.fits .any = true := by cases a; simp [Ty.any, Ty.fits]
theorem any_fits (a : Ty) : Ty.any.fits a = true := by rw [fits_comm]; exact fits_any a
theorem ground_fn {a b : Ty} : (Ty.mk 3 [a, b]).ground = .mk 3 [.any, .any] := rfl
theorem castV_vt {v : V} {f t : Ty} {at' : Int} {back : Bool} (hv : VT v f) (hf : Right f) (ht : Right t) (hs : f.fits t = true) :
    (∃ u, castV v f t at' back = .inl u ∧ VT u t) ∨ castV v f t at' back = .inr (.blame at' back) := by
  unfold castV
  by_cases h1 : f.same t = true
  · rw [if_pos h1]; have := same_eq h1; subst this; exact .inl ⟨v, rfl, hv⟩
  rw [if_neg h1]
  cases hf with
  | fn ha hb =>
    rename_i f0 f1
    cases ht with
    | fn hc hd =>
      rw [if_pos (by rfl)]
      rw [fits_to, Bool.and_eq_true] at hs
      exact .inl ⟨_, rfl, .wrap ha hb hc hd hs.1 hs.2 hv⟩
    | base hk =>
      rcases hk with rfl | rfl | rfl
      · rw [if_neg (by simp), if_pos (by rfl)]
        refine .inl ⟨_, rfl, .tag (.inr (.inr rfl)) ?_⟩
        rw [ground_fn]
        split
        · rename_i h; have := same_eq h; rw [← this]; exact hv
        · exact .wrap ha hb .any .any (fits_any _) (fits_any _) hv
      · simp [Ty.fits] at hs
      · simp [Ty.fits] at hs
  | base hk =>
    cases ht with
    | fn hc hd =>
      rcases hk with rfl | rfl | rfl
      · rw [if_neg (by simp), if_neg (by simp), if_pos (by rfl)]
        obtain ⟨u, g, rfl, hg, hu⟩ := vt_any hv
        dsimp only
        rw [ground_fn]
        split
        · rename_i h
          have := same_eq h
          subst this
          split
          · rename_i h; have := same_eq h; rw [← this]; exact .inl ⟨_, rfl, hu⟩
          · rw [if_pos (by rfl)]
            exact .inl ⟨_, rfl, .wrap .any .any hc hd (any_fits _) (any_fits _) hu⟩
        · exact .inr rfl
      · simp [Ty.fits] at hs
      · simp [Ty.fits] at hs
    | base hk' =>
      rename_i k k'
      by_cases h0 : k' = 0
      · subst h0
        rcases hk with rfl | rfl | rfl
        · exact absurd rfl h1
        · rw [if_neg (by simp), if_pos (by rfl)]
          refine .inl ⟨_, rfl, .tag (.inl rfl) ?_⟩
          rw [if_pos (by decide)]; exact hv
        · rw [if_neg (by simp), if_pos (by rfl)]
          refine .inl ⟨_, rfl, .tag (.inr (.inl rfl)) ?_⟩
          rw [if_pos (by decide)]; exact hv
      · rw [if_neg (by simp; omega), if_neg (by simpa using h0)]
        by_cases hk0 : k = 0
        · subst hk0
          rw [if_pos (by rfl)]
          obtain ⟨u, g, rfl, hg, hu⟩ := vt_any hv
          dsimp only
          have e : (Ty.mk k' []).ground = .mk k' [] := right_base (.base hk') (by simp; omega)
          rw [e]
          split
          · rename_i h
            have := same_eq h
            subst this
            rw [if_pos (same_refl _)]
            exact .inl ⟨_, rfl, hu⟩
          · exact .inr rfl
        · exfalso
          simp [Ty.fits, fitsL, h0, hk0] at hs
          subst hs
          exact h1 (same_refl _)
/-- What has a type, in a scope of such. -/
def EnvT (env : List V) (Γ : List Ty) : Prop := Γ.length ≤ env.length ∧ ∀ (i : Nat) (v : V) (ρ : Ty), env[i]? = some v → Γ[i]? = some ρ → VT v ρ
theorem EnvT.cons {env : List V} {Γ : List Ty} {v : V} {τ : Ty} (h : EnvT env Γ) (hv : VT v τ) : EnvT (v :: env) (τ :: Γ) :=
  ⟨by simpa using h.1, fun i u ρ h1 h2 => by
    cases i with
    | zero => simp at h1 h2; subst h1; subst h2; exact hv
    | succ i => exact h.2 i u ρ (by simpa using h1) (by simpa using h2)⟩
def CT : Cmd → Ty → Prop
  | .tm t env, τ => ∃ Γ, EnvT env Γ ∧ HT Γ t τ
  | .ap f x, τ => ∃ σ, VT f (.to σ τ) ∧ VT x σ
def RT : Res → Ty → Prop
  | .ok v _, τ => VT v τ
  | .out o, _ => o = .fuel ∨ ∃ n b, o = .blame n b
theorem castR_rt {v : V} {f t : Ty} {at' : Int} {back : Bool} {F : Nat} (hv : VT v f) (hf : Right f) (ht : Right t) (hs : f.fits t = true) : RT (castR v f t at' back F) t := by
  unfold castR
  rcases castV_vt (at' := at') (back := back) hv hf ht hs with ⟨u, h1, h2⟩ | h1
  · rw [h1]; exact h2
  · rw [h1]; exact .inr ⟨_, _, rfl⟩
theorem ev_rt {c : Cmd} {F : Nat} {r : Res} (h : Ev c F r) : ∀ τ, CT c τ → RT r τ := by
  induction h with
  | ref hv => rintro τ ⟨Γ, he, ht⟩; cases ht with | ref h0 h => exact he.2 _ _ _ hv h
  | refS hv =>
    rintro τ ⟨Γ, he, ht⟩
    cases ht with
    | ref h0 h =>
      have h1 := (List.getElem?_eq_some_iff.1 h).1
      have h2 := List.getElem?_eq_none_iff.1 hv
      have := he.1
      omega
  | lit => rintro τ ⟨Γ, he, ht⟩; cases ht; exact .num
  | says => rintro τ ⟨Γ, he, ht⟩; cases ht; exact .tru
  | fn => rintro τ ⟨Γ, he, ht⟩; cases ht with | fn h => exact .clo he.1 he.2 h
  | as _ ih => rintro τ ⟨Γ, he, ht⟩; cases ht with | as h => exact ih _ ⟨Γ, he, h⟩
  | castO _ ih => rintro τ ⟨Γ, he, ht⟩; cases ht with | cast _ _ _ h => (have := ih _ ⟨Γ, he, h⟩; exact this)
  | cast _ ih => rintro τ ⟨Γ, he, ht⟩; cases ht with | cast ht hf hs h => exact castR_rt (ih _ ⟨Γ, he, h⟩) hf ht hs
  | ifO _ ih =>
    rintro τ ⟨Γ, he, ht⟩
    cases ht with
    | ife ha _ _ => exact ih .truth ⟨Γ, he, ha⟩
  | ifS _ hv ih =>
    rintro τ ⟨Γ, he, ht⟩
    cases ht with
    | ife ha _ _ =>
      obtain ⟨n, rfl⟩ := vt_truth (ih .truth ⟨Γ, he, ha⟩)
      exact absurd rfl (hv n)
  | ifT _ _ ih1 ih2 => rintro τ ⟨Γ, he, ht⟩; cases ht with | ife _ hb _ => exact ih2 _ ⟨Γ, he, hb⟩
  | ifF _ _ ih1 ih2 => rintro τ ⟨Γ, he, ht⟩; cases ht with | ife _ _ hc => exact ih2 _ ⟨Γ, he, hc⟩
  | binO hk _ ih =>
    rintro τ ⟨Γ, he, ht⟩
    cases ht with
    | add ha _ => exact ih .num ⟨Γ, he, ha⟩
    | less ha _ => exact ih .num ⟨Γ, he, ha⟩
    | call ha _ => (have := ih _ ⟨Γ, he, ha⟩; exact this)
  | binP hk _ _ ih1 ih2 =>
    rintro τ ⟨Γ, he, ht⟩
    cases ht with
    | add _ hb => exact ih2 .num ⟨Γ, he, hb⟩
    | less _ hb => exact ih2 .num ⟨Γ, he, hb⟩
    | call _ hb => (have := ih2 _ ⟨Γ, he, hb⟩; exact this)
  | twoV hk _ _ h2 ih1 ih2 =>
    rintro τ ⟨Γ, he, ht⟩
    cases ht with
    | add ha hb =>
      obtain ⟨n, rfl⟩ := vt_num (ih1 .num ⟨Γ, he, ha⟩)
      obtain ⟨m, rfl⟩ := vt_num (ih2 .num ⟨Γ, he, hb⟩)
      simp only [twoV] at h2
      split at h2
      · cases h2; exact .num
      · cases h2
    | less ha hb =>
      obtain ⟨n, rfl⟩ := vt_num (ih1 .num ⟨Γ, he, ha⟩)
      obtain ⟨m, rfl⟩ := vt_num (ih2 .num ⟨Γ, he, hb⟩)
      simp only [twoV] at h2
      split at h2
      · cases h2; exact .tru
      · cases h2
    | call _ _ => omega
  | twoO hk _ _ h2 ih1 ih2 =>
    rintro τ ⟨Γ, he, ht⟩
    cases ht with
    | add ha hb =>
      obtain ⟨n, rfl⟩ := vt_num (ih1 .num ⟨Γ, he, ha⟩)
      obtain ⟨m, rfl⟩ := vt_num (ih2 .num ⟨Γ, he, hb⟩)
      simp only [twoV] at h2
      split at h2 <;> cases h2
    | less ha hb =>
      obtain ⟨n, rfl⟩ := vt_num (ih1 .num ⟨Γ, he, ha⟩)
      obtain ⟨m, rfl⟩ := vt_num (ih2 .num ⟨Γ, he, hb⟩)
      simp only [twoV] at h2
      split at h2 <;> cases h2
    | call _ _ => omega
  | call _ _ _ ih1 ih2 ih3 => rintro τ ⟨Γ, he, ht⟩; cases ht with | call ha hb => exact ih3 τ ⟨_, ih1 _ ⟨Γ, he, ha⟩, ih2 _ ⟨Γ, he, hb⟩⟩
  | clo0 => rintro τ _; exact .inl rfl
  | clo _ ih => rintro τ ⟨σ, hf, hx⟩; cases hf with | clo hl he hb => exact ih _ ⟨_, EnvT.cons ⟨hl, he⟩ hx, hb⟩
  | wrapO hc =>
    rintro τ ⟨σ, hf, hx⟩
    cases hf with
    | wrap h0 h1 h2 h3 g0 g1 hv =>
      rcases castV_vt hx h2 h0 (fits_comm ▸ g0) with ⟨u, h4, _⟩ | h4
      · rw [hc] at h4; cases h4
      · rw [hc] at h4; cases h4; exact .inr ⟨_, _, rfl⟩
  | wrapP hc _ ih =>
    rintro τ ⟨σ, hf, hx⟩
    cases hf with
    | wrap h0 h1 h2 h3 g0 g1 hv =>
      rcases castV_vt hx h2 h0 (fits_comm ▸ g0) with ⟨u, h4, h5⟩ | h4
      · rw [hc] at h4; cases h4; (have := ih _ ⟨_, hv, h5⟩; exact this)
      · rw [hc] at h4; cases h4
  | wrap hc _ ih =>
    rintro τ ⟨σ, hf, hx⟩
    cases hf with
    | wrap h0 h1 h2 h3 g0 g1 hv =>
      rcases castV_vt hx h2 h0 (fits_comm ▸ g0) with ⟨u, h4, h5⟩ | h4
      · rw [hc] at h4; cases h4; exact castR_rt (ih _ ⟨_, hv, h5⟩) h1 h3 g1
      · rw [hc] at h4; cases h4
  | apN => rintro τ ⟨σ, hf, hx⟩; cases hf
  | apT => rintro τ ⟨σ, hf, hx⟩; cases hf
  | apG => rintro τ ⟨σ, hf, hx⟩; cases hf
theorem seen_kind {v : V} {τ : Ty} (h : VT v τ) : 1 ≤ v.seen.kind ∧ v.seen.kind ≤ 3 ∧ (τ.k ≠ 0 → v.seen.kind = τ.k) := by
  induction h with
  | num => exact ⟨by simp [V.seen], by simp [V.seen], fun _ => rfl⟩
  | tru => exact ⟨by simp [V.seen], by simp [V.seen], fun _ => rfl⟩
  | clo _ _ _ _ => exact ⟨by simp [V.seen], by simp [V.seen], fun _ => rfl⟩
  | wrap _ _ _ _ _ _ _ _ => exact ⟨by simp [V.seen], by simp [V.seen], fun _ => rfl⟩
  | tag _ _ ih => exact ⟨ih.1, ih.2.1, fun h => absurd rfl h⟩
/-- WHAT HAS A TYPE NEVER GETS STUCK. -/
theorem never {t : Tm} {τ : Ty} {F : Nat} {r : Res} (ht : HT [] t τ) (h : Ev (.tm t []) F r) : 1 ≤ r.told.kind ∧ r.told.kind < 6 ∧ (τ.k = 0 ∨ 3 < r.told.kind ∨ r.told.kind = τ.k) := by
  have := ev_rt h τ ⟨[], ⟨Nat.le_refl _, fun i v ρ h => by simp at h⟩, ht⟩
  cases r with
  | ok v F =>
    obtain ⟨h1, h2, h3⟩ := seen_kind this
    refine ⟨h1, Int.lt_of_le_of_lt h2 (by decide), ?_⟩
    by_cases hk : τ.k = 0
    · exact .inl hk
    · exact .inr (.inr (h3 hk))
  | out o =>
    rcases this with rfl | ⟨n, b, rfl⟩ <;> exact ⟨by simp [Res.told, Out.fuel, Out.blame], by simp [Res.told, Out.fuel, Out.blame], .inr (.inl (by simp [Res.told, Out.fuel, Out.blame]))⟩
end Go.Proofs.YtnflnbdlgdjfmaaDoor
namespace Go.Proofs.YtnflnbdlgdjfmaaDoor
set_option linter.unusedVariables false
set_option linter.unusedSimpArgs false
/-- In so many steps it comes to this, and the stack never holds more than so much. -/
inductive RunsB (L : Nat) : Nat → Mch → Out → Prop
  | fin {m : Mch} {o : Out} : m.stk.length ≤ L → step m = some (.inr o) → RunsB L 0 m o
  | go {k : Nat} {m m' : Mch} {o : Out} : m.stk.length ≤ L → step m = some (.inl m') → RunsB L k m' o → RunsB L (k + 1) m o
theorem RunsB.hi {L k : Nat} {m : Mch} {o : Out} (h : RunsB L k m o) : m.stk.length ≤ L := by cases h <;> assumption
/-- As Ev; and how much higher the stack grows. -/
inductive EvN : Cmd → Nat → Res → Nat → Prop
  | ref {n : Int} {t f : Ty} {l : List Tm} {env : List V} {F : Nat} {v : V} : env[n.toNat]? = some v → EvN (.tm (.mk 1 n t f l) env) F (.ok v F) 0
  | refS {n : Int} {t f : Ty} {l : List Tm} {env : List V} {F : Nat} : env[n.toNat]? = none → EvN (.tm (.mk 1 n t f l) env) F (.out .stuck) 0
  | lit {n : Int} {t f : Ty} {l : List Tm} {env : List V} {F : Nat} : EvN (.tm (.mk 2 n t f l) env) F (.ok (.num n) F) 0
  | says {n : Int} {t f : Ty} {l : List Tm} {env : List V} {F : Nat} : EvN (.tm (.mk 3 n t f l) env) F (.ok (.tru n) F) 0
  | fn {n : Int} {t f : Ty} {b : Tm} {l : List Tm} {env : List V} {F : Nat} : EvN (.tm (.mk 7 n t f (b :: l)) env) F (.ok (.clo b env) F) 0
  | as {n : Int} {t f : Ty} {b : Tm} {l : List Tm} {env : List V} {F h : Nat} {r : Res} : EvN (.tm b env) F r h → EvN (.tm (.mk 9 n t f (b :: l)) env) F r h
  | castO {n : Int} {t f : Ty} {b : Tm} {l : List Tm} {env : List V} {F h : Nat} {o : Out} : EvN (.tm b env) F (.out o) h → EvN (.tm (.mk 10 n t f (b :: l)) env) F (.out o) (h + 1)
  | cast {n : Int} {t f : Ty} {b : Tm} {l : List Tm} {env : List V} {F F' h : Nat} {v : V} : EvN (.tm b env) F (.ok v F') h → EvN (.tm (.mk 10 n t f (b :: l)) env) F (castR v f t n false F') (h + 1)
  | ifO {n : Int} {t f : Ty} {a b c : Tm} {env : List V} {F h : Nat} {o : Out} : EvN (.tm a env) F (.out o) h → EvN (.tm (.mk 6 n t f [a, b, c]) env) F (.out o) (h + 1)
  | ifS {n : Int} {t f : Ty} {a b c : Tm} {env : List V} {F F' h : Nat} {v : V} : EvN (.tm a env) F (.ok v F') h → (∀ n, v ≠ .tru n) → EvN (.tm (.mk 6 n t f [a, b, c]) env) F (.out .stuck) (h + 1)
  | ifT {n : Int} {t f : Ty} {a b c : Tm} {env : List V} {F F' h h' : Nat} {r : Res} : EvN (.tm a env) F (.ok (.tru 1) F') h → EvN (.tm b env) F' r h' → EvN (.tm (.mk 6 n t f [a, b, c]) env) F r (max (h + 1) h')
  | ifF {n : Int} {t f : Ty} {a b c : Tm} {env : List V} {F F' h h' : Nat} {r : Res} : EvN (.tm a env) F (.ok (.tru 0) F') h → EvN (.tm c env) F' r h' → EvN (.tm (.mk 6 n t f [a, b, c]) env) F r (max (h + 1) h')
  | binO {k n : Int} {t f : Ty} {a b : Tm} {env : List V} {F h : Nat} {o : Out} : k = 4 ∨ k = 5 ∨ k = 8 → EvN (.tm a env) F (.out o) h → EvN (.tm (.mk k n t f [a, b]) env) F (.out o) (h + 1)
  | binP {k n : Int} {t f : Ty} {a b : Tm} {env : List V} {F F' h h' : Nat} {v : V} {o : Out} : k = 4 ∨ k = 5 ∨ k = 8 → EvN (.tm a env) F (.ok v F') h → EvN (.tm b env) F' (.out o) h' → EvN (.tm (.mk k n t f [a, b]) env) F (.out o) (max (h + 1) (h' + 1))
  | twoV {k n : Int} {t f : Ty} {a b : Tm} {env : List V} {F F' F'' h h' : Nat} {v w u : V} : k = 4 ∨ k = 5 → EvN (.tm a env) F (.ok v F') h → EvN (.tm b env) F' (.ok w F'') h' → twoV k v w = some (.inl u) → EvN (.tm (.mk k n t f [a, b]) env) F (.ok u F'') (max (h + 1) (h' + 1))
  | twoO {k n : Int} {t f : Ty} {a b : Tm} {env : List V} {F F' F'' h h' : Nat} {v w : V} {o : Out} : k = 4 ∨ k = 5 → EvN (.tm a env) F (.ok v F') h → EvN (.tm b env) F' (.ok w F'') h' → twoV k v w = some (.inr o) → EvN (.tm (.mk k n t f [a, b]) env) F (.out o) (max (h + 1) (h' + 1))
  | call {n : Int} {t f : Ty} {a b : Tm} {env : List V} {F F' F'' h h' h'' : Nat} {v w : V} {r : Res} : EvN (.tm a env) F (.ok v F') h → EvN (.tm b env) F' (.ok w F'') h' → EvN (.ap v w) F'' r h'' → EvN (.tm (.mk 8 n t f [a, b]) env) F r (max (max (h + 1) (h' + 1)) h'')
  | clo0 {b : Tm} {env : List V} {x : V} : EvN (.ap (.clo b env) x) 0 (.out .fuel) 0
  | clo {b : Tm} {env : List V} {x : V} {F h : Nat} {r : Res} : EvN (.tm b (x :: env)) F r h → EvN (.ap (.clo b env) x) (F + 1) r h
  | wrapO {u x : V} {kf kt : Int} {f0 f1 t0 t1 : Ty} {at' : Int} {back : Bool} {F : Nat} {o : Out} : castV x t0 f0 at' (!back) = .inr o → EvN (.ap (.wrap u (.mk kf [f0, f1]) (.mk kt [t0, t1]) at' back) x) F (.out o) 2
  | wrapP {u x y : V} {kf kt : Int} {f0 f1 t0 t1 : Ty} {at' : Int} {back : Bool} {F h : Nat} {o : Out} : castV x t0 f0 at' (!back) = .inl y → EvN (.ap u y) F (.out o) h → EvN (.ap (.wrap u (.mk kf [f0, f1]) (.mk kt [t0, t1]) at' back) x) F (.out o) (max 2 (h + 1))
  | wrap {u x y v : V} {kf kt : Int} {f0 f1 t0 t1 : Ty} {at' : Int} {back : Bool} {F F' h : Nat} : castV x t0 f0 at' (!back) = .inl y → EvN (.ap u y) F (.ok v F') h → EvN (.ap (.wrap u (.mk kf [f0, f1]) (.mk kt [t0, t1]) at' back) x) F (castR v f1 t1 at' back F') (max 2 (h + 1))
  | apN {n : Int} {x : V} {F : Nat} : EvN (.ap (.num n) x) F (.out .stuck) 0
  | apT {n : Int} {x : V} {F : Nat} : EvN (.ap (.tru n) x) F (.out .stuck) 0
  | apG {v x : V} {g : Ty} {F : Nat} : EvN (.ap (.tag v g) x) F (.out .stuck) 0
theorem ev_n {c : Cmd} {F : Nat} {r : Res} (h : Ev c F r) : ∃ n, EvN c F r n := by
  induction h with
  | ref hv => exact ⟨_, .ref hv⟩
  | refS hv => exact ⟨_, .refS hv⟩
  | lit => exact ⟨_, .lit⟩
  | says => exact ⟨_, .says⟩
  | fn => exact ⟨_, .fn⟩
  | as _ ih => obtain ⟨n, ih⟩ := ih; exact ⟨_, .as ih⟩
  | castO _ ih => obtain ⟨n, ih⟩ := ih; exact ⟨_, .castO ih⟩
  | cast _ ih => obtain ⟨n, ih⟩ := ih; exact ⟨_, .cast ih⟩
  | ifO _ ih => obtain ⟨n, ih⟩ := ih; exact ⟨_, .ifO ih⟩
  | ifS _ hv ih => obtain ⟨n, ih⟩ := ih; exact ⟨_, .ifS ih hv⟩
  | ifT _ _ ih1 ih2 => obtain ⟨n, ih1⟩ := ih1; obtain ⟨m, ih2⟩ := ih2; exact ⟨_, .ifT ih1 ih2⟩
  | ifF _ _ ih1 ih2 => obtain ⟨n, ih1⟩ := ih1; obtain ⟨m, ih2⟩ := ih2; exact ⟨_, .ifF ih1 ih2⟩
  | binO hk _ ih => obtain ⟨n, ih⟩ := ih; exact ⟨_, .binO hk ih⟩
  | binP hk _ _ ih1 ih2 => obtain ⟨n, ih1⟩ := ih1; obtain ⟨m, ih2⟩ := ih2; exact ⟨_, .binP hk ih1 ih2⟩
  | twoV hk _ _ h2 ih1 ih2 => obtain ⟨n, ih1⟩ := ih1; obtain ⟨m, ih2⟩ := ih2; exact ⟨_, .twoV hk ih1 ih2 h2⟩
  | twoO hk _ _ h2 ih1 ih2 => obtain ⟨n, ih1⟩ := ih1; obtain ⟨m, ih2⟩ := ih2; exact ⟨_, .twoO hk ih1 ih2 h2⟩
  | call _ _ _ ih1 ih2 ih3 => obtain ⟨n, ih1⟩ := ih1; obtain ⟨m, ih2⟩ := ih2; obtain ⟨p, ih3⟩ := ih3; exact ⟨_, .call ih1 ih2 ih3⟩
  | clo0 => exact ⟨_, .clo0⟩
  | clo _ ih => obtain ⟨n, ih⟩ := ih; exact ⟨_, .clo ih⟩
  | wrapO hc => exact ⟨_, .wrapO hc⟩
  | wrapP hc _ ih => obtain ⟨n, ih⟩ := ih; exact ⟨_, .wrapP hc ih⟩
  | wrap hc _ ih => obtain ⟨n, ih⟩ := ih; exact ⟨_, .wrap hc ih⟩
  | apN => exact ⟨_, .apN⟩
  | apT => exact ⟨_, .apT⟩
  | apG => exact ⟨_, .apG⟩
/-- What comes of the rest, once something has come. -/
def AfterB (L : Nat) (r : Res) (s : List Fr) (o : Out) : Prop :=
  match r with
  | .ok v F => ∃ k, RunsB L k ⟨.val v, s, F⟩ o
  | .out o' => o = o'
/-- What comes of a step. -/
def StepToB (L : Nat) (x : Option (Mch ⊕ Out)) (o : Out) : Prop := (∃ k m, x = some (.inl m) ∧ RunsB L k m o) ∨ x = some (.inr o)
def BegunB (L : Nat) (c : Cmd) (F : Nat) (s : List Fr) (o : Out) : Prop :=
  match c with
  | .tm t env => StepToB L (enterM t env s F) o
  | .ap f x => StepToB L (callM f x s F) o
variable {L : Nat}
theorem StepToB.runs {m : Mch} {o : Out} (h : StepToB L (step m) o) (hl : m.stk.length ≤ L) : ∃ k, RunsB L k m o := by
  rcases h with ⟨k, m', h1, h2⟩ | h
  · exact ⟨k + 1, .go hl h1 h2⟩
  · exact ⟨0, .fin hl h⟩
theorem stepToB_inl {m : Mch} {o : Out} (h : ∃ k, RunsB L k m o) : StepToB L (some (.inl m)) o := by
  obtain ⟨k, h⟩ := h
  exact Or.inl ⟨k, m, rfl, h⟩
theorem BegunB.runs {t : Tm} {env : List V} {F : Nat} {s : List Fr} {o : Out} (h : BegunB L (.tm t env) F s o) (hl : s.length ≤ L) : ∃ k, RunsB L k ⟨.ent t env, s, F⟩ o := StepToB.runs (m := ⟨.ent t env, s, F⟩) h hl
theorem runsB_leave {v : V} {f : Fr} {s : List Fr} {F : Nat} {o : Out} (h : StepToB L (leaveM v f s F) o) (hl : s.length + 1 ≤ L) : ∃ k, RunsB L k ⟨.val v, f :: s, F⟩ o := StepToB.runs (m := ⟨.val v, f :: s, F⟩) h hl
theorem AfterB.cast {v : V} {f t : Ty} {at' : Int} {back : Bool} {F : Nat} {s : List Fr} {o : Out} (h : AfterB L (castR v f t at' back F) s o) (hl : s.length + 1 ≤ L) : ∃ k, RunsB L k ⟨.val v, .casts f t at' back :: s, F⟩ o := by
  refine StepToB.runs ?_ hl
  show StepToB L (match castV v f t at' back with | .inl u => some (.inl ⟨.val u, s, F⟩) | .inr o => some (.inr o)) o
  unfold castR at h
  cases hc : castV v f t at' back with
  | inl u => rw [hc] at h; exact stepToB_inl h
  | inr o' => rw [hc] at h; have h : o = o' := h; subst h; exact .inr rfl
theorem ev_begunB {c : Cmd} {F : Nat} {r : Res} {n : Nat} (h : EvN c F r n) : ∀ (s : List Fr) (o : Out), s.length + n ≤ L → AfterB L r s o → BegunB L c F s o := by
  induction h with
  | ref hv => intro s o hl ha; refine (?_ : StepToB L (enterM _ _ _ _) o); simp only [enterM, Tm.k_mk, Tm.n_mk, hv]; exact stepToB_inl ha
  | refS hv => intro s o hl ha; refine (?_ : StepToB L (enterM _ _ _ _) o); simp only [enterM, Tm.k_mk, Tm.n_mk, hv]; have ha : o = _ := ha; subst ha; exact .inr rfl
  | lit => intro s o hl ha; exact stepToB_inl ha
  | says => intro s o hl ha; exact stepToB_inl ha
  | fn => intro s o hl ha; exact stepToB_inl ha
  | as _ ih => intro s o hl ha; exact stepToB_inl ((ih s o hl ha).runs (by omega))
  | castO _ ih => intro s o hl ha; exact stepToB_inl ((ih (.casts _ _ _ false :: s) o (by simp only [List.length_cons]; omega) ha).runs (by simp only [List.length_cons]; omega))
  | cast _ ih => intro s o hl ha; exact stepToB_inl ((ih (.casts _ _ _ false :: s) o (by simp only [List.length_cons]; omega) (ha.cast (by omega))).runs (by simp only [List.length_cons]; omega))
  | ifO _ ih => intro s o hl ha; exact stepToB_inl ((ih (.term _ _ :: s) o (by simp only [List.length_cons]; omega) ha).runs (by simp only [List.length_cons]; omega))
  | ifS _ hv ih =>
    rename_i v _
    intro s o hl ha
    refine stepToB_inl ((ih (.term _ _ :: s) o (by simp only [List.length_cons]; omega) ?_).runs (by simp only [List.length_cons]; omega))
    have ha : o = _ := ha
    subst ha
    refine ⟨0, .fin (by simp only [List.length_cons]; omega) ?_⟩
    cases v with
    | tru n => exact absurd rfl (hv n)
    | _ => rfl
  | ifT _ _ ih1 ih2 => intro s o hl ha; refine stepToB_inl ((ih1 (.term _ _ :: s) o (by simp only [List.length_cons]; omega) ?_).runs (by simp only [List.length_cons]; omega)); exact runsB_leave (stepToB_inl ((ih2 s o (by omega) ha).runs (by omega))) (by omega)
  | ifF _ _ ih1 ih2 => intro s o hl ha; refine stepToB_inl ((ih1 (.term _ _ :: s) o (by simp only [List.length_cons]; omega) ?_).runs (by simp only [List.length_cons]; omega)); exact runsB_leave (stepToB_inl ((ih2 s o (by omega) ha).runs (by omega))) (by omega)
  | binO hk _ ih => intro s o hl ha; refine (?_ : StepToB L (enterM _ _ _ _) o); rw [bin_enter hk]; exact stepToB_inl ((ih (.term _ _ :: s) o (by simp only [List.length_cons]; omega) ha).runs (by simp only [List.length_cons]; omega))
  | binP hk _ _ ih1 ih2 =>
    intro s o hl ha; refine (?_ : StepToB L (enterM _ _ _ _) o); rw [bin_enter hk]
    refine stepToB_inl ((ih1 (.term _ _ :: s) o (by simp only [List.length_cons]; omega) ?_).runs (by simp only [List.length_cons]; omega))
    refine runsB_leave ?_ (by omega); rw [bin_leave hk]
    exact stepToB_inl ((ih2 (.second _ _ :: s) o (by simp only [List.length_cons]; omega) ha).runs (by simp only [List.length_cons]; omega))
  | twoV hk _ _ h2 ih1 ih2 =>
    have hk' := hk
    intro s o hl ha; refine (?_ : StepToB L (enterM _ _ _ _) o); rw [bin_enter (hk.imp id .inl)]
    refine stepToB_inl ((ih1 (.term _ _ :: s) o (by simp only [List.length_cons]; omega) ?_).runs (by simp only [List.length_cons]; omega))
    refine runsB_leave ?_ (by omega); rw [bin_leave (hk'.imp id .inl)]
    refine stepToB_inl ((ih2 (.second _ _ :: s) o (by simp only [List.length_cons]; omega) ?_).runs (by simp only [List.length_cons]; omega))
    refine runsB_leave ?_ (by omega)
    rcases hk' with rfl | rfl <;> (simp only [leaveM, Tm.k_mk, h2]; exact stepToB_inl ha)
  | twoO hk _ _ h2 ih1 ih2 =>
    have hk' := hk
    intro s o hl ha; refine (?_ : StepToB L (enterM _ _ _ _) o); rw [bin_enter (hk.imp id .inl)]
    refine stepToB_inl ((ih1 (.term _ _ :: s) o (by simp only [List.length_cons]; omega) ?_).runs (by simp only [List.length_cons]; omega))
    refine runsB_leave ?_ (by omega); rw [bin_leave (hk'.imp id .inl)]
    refine stepToB_inl ((ih2 (.second _ _ :: s) o (by simp only [List.length_cons]; omega) ?_).runs (by simp only [List.length_cons]; omega))
    refine runsB_leave ?_ (by omega)
    have ha : o = _ := ha
    subst ha
    rcases hk' with rfl | rfl <;> (simp only [leaveM, Tm.k_mk, h2]; exact .inr rfl)
  | call _ _ _ ih1 ih2 ih3 =>
    intro s o hl ha; refine (?_ : StepToB L (enterM _ _ _ _) o); rw [bin_enter (.inr (.inr rfl))]
    refine stepToB_inl ((ih1 (.term _ _ :: s) o (by simp only [List.length_cons]; omega) ?_).runs (by simp only [List.length_cons]; omega))
    refine runsB_leave ?_ (by omega); rw [bin_leave (.inr (.inr rfl))]
    refine stepToB_inl ((ih2 (.second _ _ :: s) o (by simp only [List.length_cons]; omega) ?_).runs (by simp only [List.length_cons]; omega))
    exact runsB_leave (ih3 s o (by omega) ha) (by omega)
  | clo0 => intro s o hl ha; have ha : o = _ := ha; subst ha; exact .inr rfl
  | clo _ ih => intro s o hl ha; exact stepToB_inl ((ih s o hl ha).runs (by omega))
  | wrapO hc => intro s o hl ha; have ha : o = _ := ha; subst ha; refine (?_ : StepToB L (callM _ _ _ _) _); simp only [callM, Ty.l_mk, hc]; exact .inr rfl
  | wrapP hc _ ih => intro s o hl ha; refine (?_ : StepToB L (callM _ _ _ _) _); simp only [callM, Ty.l_mk, hc]; exact stepToB_inl (StepToB.runs (ih (.casts _ _ _ _ :: s) o (by simp only [List.length_cons]; omega) ha) (by simp only [List.length_cons]; omega))
  | wrap hc _ ih => intro s o hl ha; refine (?_ : StepToB L (callM _ _ _ _) _); simp only [callM, Ty.l_mk, hc]; exact stepToB_inl (StepToB.runs (ih (.casts _ _ _ _ :: s) o (by simp only [List.length_cons]; omega) (ha.cast (by omega))) (by simp only [List.length_cons]; omega))
  | apN => intro s o hl ha; have ha : o = _ := ha; subst ha; exact .inr rfl
  | apT => intro s o hl ha; have ha : o = _ := ha; subst ha; exact .inr rfl
  | apG => intro s o hl ha; have ha : o = _ := ha; subst ha; exact .inr rfl
/-- THE MACHINE COMES TO WHAT COMES AT ONE GO, and its stack is never higher than so much. -/
theorem ev_runsB {t : Tm} {F n : Nat} {r : Res} (h : EvN (.tm t []) F r n) (hn : n ≤ L) : ∃ k, RunsB L k ⟨.ent t [], [], F⟩ r.told :=
  (ev_begunB h [] r.told (by simpa using hn) (by cases r with
    | ok v F => exact ⟨0, .fin (Nat.zero_le _) rfl⟩
    | out o => exact rfl)).runs (Nat.zero_le _)
end Go.Proofs.YtnflnbdlgdjfmaaDoor
namespace Go.Proofs.YtnflnbdlgdjfmaaDoor
set_option linter.unusedVariables false
set_option linter.unusedSimpArgs false
theorem asT_ht {Γ : List Ty} {x : Tm} {k w : Ty} {n : Int} (h : HT Γ x k) (hk : Right k) (hw : Right w) (hs : k.fits w = true) : HT Γ (asT x k w n) w := by
  unfold asT
  split
  · rename_i h1; have := same_eq h1; subst this; exact h
  · exact .cast hw hk hs h
theorem kid_to_ht {Γ : List Ty} {x : Kid} {w : Ty} {y : Tm} (h : HT Γ x.t x.k) (hk : Right x.k) (hw : Right w) (hy : x.to w = some y) : HT Γ y w := by
  unfold Kid.to at hy
  split at hy
  · rename_i hs; cases hy; exact asT_ht h hk hw hs
  · cases hy
/-- What the checker answers has the type that it tells. -/
theorem walk_ht : ∀ (a : Tm) (env : List Ty) (m : Int) (x : Tm) (k : Ty), a.good 0 env.length = true → (∀ t ∈ env, Right t) → walkT a env m = some (x, k) → HT env.reverse x k ∧ Right k := fun a => by
  induction a using Tm.ind' with
  | h a ih =>
  intro env m x k hg he h
  obtain ⟨ak, an, at', af, al⟩ := a
  have h0 : ((0 : Int) - (env.length : Int)) = -(env.length : Int) := by omega
  rcases good_cases hg with ⟨e, el, hn, hn2, _⟩ | ⟨e, el, hn, _⟩ | ⟨e, el, hn, _⟩ | ⟨e, _, _, p, q, el, gp, gq⟩ | ⟨e, _, _, p, q, s, el, gp, gq, gs⟩ | ⟨e, _, ht, p, el, gp⟩ | ⟨e, _, ht, p, el, gp⟩ <;> simp only [Tm.k_mk, Tm.n_mk, Tm.t_mk, Tm.f_mk, Tm.l_mk] at *
  · subst e el
    rw [walkT_eta] at h; simp at h
    obtain ⟨rfl, rfl⟩ := h
    have hlt : env.length - 1 - an.toNat < env.length := by omega
    have hget : env[env.length - 1 - an.toNat]? = some env[env.length - 1 - an.toNat] := List.getElem?_eq_getElem hlt
    rw [hget]
    refine ⟨.ref hn ?_, he _ (List.getElem_mem hlt)⟩
    rw [List.getElem?_reverse (by omega), hget]; rfl
  · subst e el; rw [walkT_eta] at h; simp at h; obtain ⟨rfl, rfl⟩ := h; exact ⟨.lit hn, .num⟩
  · subst e el; rw [walkT_eta] at h; simp at h; obtain ⟨rfl, rfl⟩ := h; exact ⟨.says hn, .truth⟩
  · obtain ⟨ks, ws, l', hks, hw, hc, rfl⟩ := walkT_node (by simp; omega) (by simp; omega) (by simp; omega) h
    rw [if_neg (by simp; omega)] at hks
    subst el
    simp only [Tm.k_mk, Tm.n_mk, Tm.t_mk, Tm.f_mk, Tm.l_mk] at *
    obtain ⟨x1, k1, ks1, rfl, w1, hks⟩ := walkL_cons hks
    obtain ⟨x2, k2, ks2, rfl, w2, hks⟩ := walkL_cons hks
    obtain rfl := walkL_nil hks
    obtain ⟨t1, r1⟩ := ih p (by simp) env _ x1 k1 gp he w1
    obtain ⟨t2, r2⟩ := ih q (by simp) env _ x2 k2 gq he w2
    rcases e with rfl | rfl | rfl <;> simp [wants] at hw
    · obtain ⟨rfl, rfl⟩ := hw
      obtain ⟨y1, l1, rfl, c1, hc⟩ := casts_cons hc
      obtain ⟨y2, rfl, c2⟩ := casts1 hc
      exact ⟨.add (kid_to_ht t1 r1 .num c1) (kid_to_ht t2 r2 .num c2), .num⟩
    · obtain ⟨rfl, rfl⟩ := hw
      obtain ⟨y1, l1, rfl, c1, hc⟩ := casts_cons hc
      obtain ⟨y2, rfl, c2⟩ := casts1 hc
      exact ⟨.less (kid_to_ht t1 r1 .num c1) (kid_to_ht t2 r2 .num c2), .truth⟩
    · have hg : Right (if k1.k = 0 then (Ty.mk 3 []).ground else k1) := by
        split
        · exact .to .any .any
        · exact r1
      generalize (if k1.k = 0 then (Ty.mk 3 []).ground else k1) = g at hw hg
      obtain ⟨h3, hw⟩ := hw
      cases hg with
      | base hb => simp at h3; omega
      | fn ra rb =>
        simp at hw
        obtain ⟨rfl, rfl⟩ := hw
        obtain ⟨y1, l1, rfl, c1, hc⟩ := casts_cons hc
        obtain ⟨y2, rfl, c2⟩ := casts1 hc
        exact ⟨.call (kid_to_ht t1 r1 (.to ra rb) c1) (kid_to_ht t2 r2 ra c2), rb⟩
  · subst e
    obtain ⟨ks, ws, l', hks, hw, hc, rfl⟩ := walkT_node (by simp) (by simp) (by simp) h
    subst el
    simp at hks
    simp only [Tm.k_mk, Tm.n_mk, Tm.t_mk, Tm.f_mk, Tm.l_mk] at *
    obtain ⟨x1, k1, ks1, rfl, w1, hks⟩ := walkL_cons hks
    obtain ⟨x2, k2, ks2, rfl, w2, hks⟩ := walkL_cons hks
    obtain ⟨x3, k3, ks3, rfl, w3, hks⟩ := walkL_cons hks
    obtain rfl := walkL_nil hks
    obtain ⟨t1, r1⟩ := ih p (by simp) env _ x1 k1 gp he w1
    obtain ⟨t2, r2⟩ := ih q (by simp) env _ x2 k2 gq he w2
    obtain ⟨t3, r3⟩ := ih s (by simp) env _ x3 k3 gs he w3
    simp [wants] at hw
    obtain ⟨hf, rfl, rfl⟩ := hw
    obtain ⟨y1, l1, rfl, c1, hc⟩ := casts_cons hc
    obtain ⟨y2, l2, rfl, c2, hc⟩ := casts_cons hc
    obtain ⟨y3, rfl, c3⟩ := casts1 hc
    have rj := right_join r2 r3
    exact ⟨.ife (kid_to_ht t1 r1 .truth c1) (kid_to_ht t2 r2 rj c2) (kid_to_ht t3 r3 rj c3), rj⟩
  · subst e
    obtain ⟨ks, ws, l', hks, hw, hc, rfl⟩ := walkT_node (by simp) (by simp) (by simp) h
    subst el
    simp at hks
    simp only [Tm.k_mk, Tm.n_mk, Tm.t_mk, Tm.f_mk, Tm.l_mk] at *
    obtain ⟨x1, k1, ks1, rfl, w1, hks⟩ := walkL_cons hks
    obtain rfl := walkL_nil hks
    have rt := good_right ht
    obtain ⟨t1, r1⟩ := ih p (by simp) (env ++ [at']) _ x1 k1 (by simpa using gp) (fun t ht => by
      rcases List.mem_append.1 ht with ht | ht
      · exact he t ht
      · rw [List.mem_singleton.1 ht]; exact rt) w1
    simp [wants] at hw
    obtain ⟨rfl, rfl⟩ := hw
    obtain ⟨y1, rfl, c1⟩ := casts1 hc
    rw [List.reverse_append, List.reverse_singleton, List.singleton_append] at t1
    exact ⟨.fn (kid_to_ht t1 r1 r1 c1), .to rt r1⟩
  · subst e
    obtain ⟨ks, ws, l', hks, hw, hc, rfl⟩ := walkT_node (by simp) (by simp) (by simp) h
    subst el
    simp at hks
    simp only [Tm.k_mk, Tm.n_mk, Tm.t_mk, Tm.f_mk, Tm.l_mk] at *
    obtain ⟨x1, k1, ks1, rfl, w1, hks⟩ := walkL_cons hks
    obtain rfl := walkL_nil hks
    have rt := good_right ht
    obtain ⟨t1, r1⟩ := ih p (by simp) env _ x1 k1 gp he w1
    simp [wants] at hw
    obtain ⟨rfl, rfl⟩ := hw
    obtain ⟨y1, rfl, c1⟩ := casts1 hc
    exact ⟨.as (kid_to_ht t1 r1 rt c1), rt⟩
end Go.Proofs.YtnflnbdlgdjfmaaDoor
namespace Go.Proofs.YtnflnbdlgdjfmaaDoor
set_option linter.unusedVariables false
set_option linter.unusedSimpArgs false
/-- A leaf is answered as it is. -/
theorem walkT_leaf {a : Tm} {env : List Ty} {m : Int} {x : Tm} {k : Ty} (hk : a.k = 1 ∨ a.k = 2 ∨ a.k = 3) (h : walkT a env m = some (x, k)) : x = a := by
  rw [walkT_eta] at h
  split at h
  · cases h; rfl
  split at h
  · cases h; rfl
  split at h
  · cases h; rfl
  · rename_i h1 h2 h3; simp at h1 h2 h3; omega
/-- Casts between types that fit and are not alike, of terms within bounds, each once. -/
structure SitesOk (S : List Site) (lo hi : Int) : Prop where
  b : ∀ s ∈ S, lo ≤ s.n ∧ s.n < hi ∧ s.f.fits s.t = true ∧ s.f.same s.t = false
  nd : (S.map Site.n).Nodup
theorem SitesOk.nil {lo hi : Int} : SitesOk [] lo hi := ⟨fun s h => (by cases h), List.nodup_nil⟩
theorem SitesOk.mono {S : List Site} {lo hi lo' hi' : Int} (h : SitesOk S lo hi) (h1 : lo' ≤ lo) (h2 : hi ≤ hi') : SitesOk S lo' hi' :=
  ⟨fun s hs => by obtain ⟨a, b, c⟩ := h.b s hs; exact ⟨by omega, by omega, c⟩, h.nd⟩
theorem SitesOk.append {S T : List Site} {lo mid hi : Int} (h : SitesOk S lo mid) (h' : SitesOk T mid hi) (h1 : lo ≤ mid) (h2 : mid ≤ hi) : SitesOk (S ++ T) lo hi where
  b := fun s hs => by
    rcases List.mem_append.1 hs with hs | hs
    · obtain ⟨a, b, c⟩ := h.b s hs; exact ⟨a, by omega, c⟩
    · obtain ⟨a, b, c⟩ := h'.b s hs; exact ⟨by omega, b, c⟩
  nd := by
    rw [List.map_append, List.nodup_append]
    refine ⟨h.nd, h'.nd, fun n hn n' hn' e => ?_⟩
    obtain ⟨s, hs, rfl⟩ := List.mem_map.1 hn
    obtain ⟨s', hs', rfl⟩ := List.mem_map.1 hn'
    have := (h.b s hs).2.1
    have := (h'.b s' hs').1
    omega
theorem kid_sites {x : Kid} {w : Ty} {y : Tm} {hi : Int} (h : x.to w = some y) (hs : SitesOk (sitesT x.t) (x.at' + 1) hi) (hh : x.at' + 1 ≤ hi) : SitesOk (sitesT y) x.at' hi ∧ y.nodes = x.t.nodes + ((sitesT y).length - (sitesT x.t).length) ∧ (sitesT x.t).length ≤ (sitesT y).length := by
  unfold Kid.to at h
  split at h
  · rename_i hf
    cases h
    unfold asT
    split
    · exact ⟨hs.mono (by omega) (Int.le_refl _), by omega, Nat.le_refl _⟩
    · rename_i hn
      have e : sitesT (.mk 10 x.at' w x.k [x.t]) = [⟨x.at', x.k, w⟩] ++ sitesT x.t := by simp [sitesT, sitesL]
      rw [e]
      refine ⟨SitesOk.append (mid := x.at' + 1) ⟨fun s h => ?_, by simp⟩ hs (by omega) hh, ?_, by simp⟩
      · rw [List.mem_singleton] at h; subst h; exact ⟨Int.le_refl _, by show x.at' < x.at' + 1; omega, hf, by simpa using hn⟩
      · simp [Tm.nodes, nodesL]; omega
  · cases h
theorem sitesL_leaf {a : Tm} (h : a.l = []) (hk : a.k ≠ 10) : sitesT a = [] := by
  rw [sitesT_eta, h]; simp [ownSite, hk, sitesL]
/-- What is known of the casts of a term that was walked. -/
def WalkS (a : Tm) (env : List Ty) : Prop := ∀ (m : Int) (x : Tm) (k : Ty), walkT a env m = some (x, k) → SitesOk (sitesT x) (m + 1) (m + a.nodes) ∧ x.nodes = a.nodes + (sitesT x).length
theorem casts_sites : ∀ {l : List Tm} {env : List Ty} {m : Int} {ks : List Kid} {ws : List Ty} {l' : List Tm}, (∀ a ∈ l, WalkS a env) → walkL l env m = some ks → casts ks ws = some l' → SitesOk (sitesL l') m (m + nodesL l) ∧ nodesL l' = nodesL l + (sitesL l').length
  | [], env, m, ks, ws, l', _, h1, h2 => by
    rw [walkL_nil h1] at h2
    have : l' = [] := by cases ws <;> (simp only [casts] at h2; cases h2; rfl)
    subst this
    exact ⟨.nil, by simp [nodesL, sitesL]⟩
  | a :: l, env, m, ks, [], l', _, h1, h2 => by
    obtain ⟨x, k, ks', rfl, _, _⟩ := walkL_cons h1
    simp [casts] at h2
  | a :: l, env, m, ks, w :: ws, l', ih, h1, h2 => by
    obtain ⟨x, k, ks', rfl, w1, w2⟩ := walkL_cons h1
    obtain ⟨y, l2, rfl, c1, c2⟩ := casts_cons h2
    obtain ⟨s1, n1⟩ := ih a (List.mem_cons_self ..) m x k w1
    obtain ⟨s2, n2⟩ := casts_sites (fun b hb => ih b (List.mem_cons_of_mem _ hb)) w2 c2
    have hp := nodes_pos a
    obtain ⟨s3, n3, n4⟩ := kid_sites c1 s1 (by show m + 1 ≤ _; omega)
    simp only [sitesL, nodesL, List.length_append]
    refine ⟨?_, ?_⟩
    · have := SitesOk.append s3 s2 (by show m ≤ _; omega) (by omega)
      exact this.mono (Int.le_refl _) (by omega)
    · simp only at n3 n4
      omega
/-- EACH TERM IS CAST ONCE AT MOST. -/
theorem walk_sites : ∀ (a : Tm) (env : List Ty) (ar ow : Int), a.good ar ow = true → WalkS a env := fun a => by
  induction a using Tm.ind' with
  | h a ih =>
  intro env ar ow hg m x k h
  by_cases hk : a.k = 1 ∨ a.k = 2 ∨ a.k = 3
  · rw [walkT_leaf hk h]
    have hl : a.l = [] := by rw [goodT_eta, Bool.and_eq_true] at hg; exact fit_leaf hg.1 hk
    rw [sitesL_leaf hl (by omega)]
    exact ⟨.nil, by simp⟩
  obtain ⟨ks, ws, l', hks, hw, hc, rfl⟩ := walkT_node (by omega) (by omega) (by omega) h
  have hgl : goodL a.l ar (if a.k == 7 then ow + 1 else ow) = true := by rw [goodT_eta, Bool.and_eq_true] at hg; exact hg.2
  obtain ⟨s, n⟩ := casts_sites (fun b hb => ih b hb _ _ _ (goodL_mem hgl b hb)) hks hc
  have h10 : a.k ≠ 10 := fun e => by
    rcases good_cases hg with ⟨e', _⟩ | ⟨e', _⟩ | ⟨e', _⟩ | ⟨e', _⟩ | ⟨e', _⟩ | ⟨e', _⟩ | ⟨e', _⟩ <;> omega
  have e : sitesT (.mk a.k a.n a.t a.f l') = sitesL l' := by simp [sitesT, h10]
  rw [e, nodes_eta a]
  refine ⟨s.mono (Int.le_refl _) (by omega), ?_⟩
  simp only [Tm.nodes]; omega
mutual
/-- The k-th type that is told is Any. -/
def looseT : Tm → Int → Tm × Int
  | .mk k n t f l, j => ((.mk k n (if (k == 7 || k == 9) && j == 0 then .any else t) f (looseL l j (if k == 7 || k == 9 then 1 else 0)).1), (looseL l j (if k == 7 || k == 9 then 1 else 0)).2)
def looseL : List Tm → Int → Int → List Tm × Int
  | [], _, n => ([], n)
  | a :: l, j, n => ((looseT a (IntKind.i64.wrap (j - n))).1 :: (looseL l j (IntKind.i64.wrap (n + (looseT a (IntKind.i64.wrap (j - n))).2))).1, (looseL l j (IntKind.i64.wrap (n + (looseT a (IntKind.i64.wrap (j - n))).2))).2)
end
theorem looseL_length : ∀ (l : List Tm) (j n : Int), (looseL l j n).1.length = l.length
  | [], _, _ => rfl
  | a :: l, j, n => by simp only [looseL, List.length_cons, looseL_length l]
theorem looseT_eta (a : Tm) (j : Int) : looseT a j = ((.mk a.k a.n (if (a.k == 7 || a.k == 9) && j == 0 then .any else a.t) a.f (looseL a.l j (if a.k == 7 || a.k == 9 then 1 else 0)).1), (looseL a.l j (if a.k == 7 || a.k == 9 then 1 else 0)).2) := by cases a; simp [looseT]
theorem looseL_drop {l : List Tm} {i : Nat} (h : i < l.length) (j n : Int) : looseL (l.drop i) j n = ((looseT l[i] (IntKind.i64.wrap (j - n))).1 :: (looseL (l.drop (i + 1)) j (IntKind.i64.wrap (n + (looseT l[i] (IntKind.i64.wrap (j - n))).2))).1, (looseL (l.drop (i + 1)) j (IntKind.i64.wrap (n + (looseT l[i] (IntKind.i64.wrap (j - n))).2))).2) := by
  rw [List.drop_eq_getElem_cons h]; simp only [looseL]
end Go.Proofs.YtnflnbdlgdjfmaaDoor
namespace Go.Proofs.YtnflnbdlgdjfmaaDoor
set_option linter.unusedVariables false
set_option linter.unusedSimpArgs false
theorem deep_to (a b : Ty) : (Ty.to a b).deep = max a.deep b.deep + 1 := by simp [Ty.to, Ty.deep, deepL]
theorem deep_mk3 (a b : Ty) : (Ty.mk 3 [a, b]).deep = max a.deep b.deep + 1 := deep_to a b
theorem deep_leaf (k : Int) : (Ty.mk k []).deep = 1 := by simp [Ty.deep, deepL]
theorem deep_pos (a : Ty) : 1 ≤ a.deep := by rw [deep_eta]; omega
/-- What it takes is shallow. -/
inductive Dom : Ty → Prop
  | sh {τ : Ty} (h : τ.deep ≤ 4) : Dom τ
  | to {σ τ : Ty} (hs : σ.deep ≤ 4) (h : Dom τ) : Dom (.mk 3 [σ, τ])
theorem Dom.inv {σ τ : Ty} (h : Dom (.mk 3 [σ, τ])) : σ.deep ≤ 4 ∧ Dom τ := by
  cases h with
  | sh h => rw [deep_mk3] at h; exact ⟨by omega, .sh (by omega)⟩
  | to hs h => exact ⟨hs, h⟩
/-- What may be cast to what: who is shallow stays so. -/
inductive Qc : Ty → Ty → Prop
  | sh {f t : Ty} (hf : Dom f) (ht : t.deep ≤ 4) : Qc f t
  | to {f0 f1 t0 t1 : Ty} (hd : 4 < (Ty.mk 3 [f0, f1]).deep) (h0 : f0.deep ≤ 4) (h0' : t0.deep ≤ 4) (h : Qc f1 t1) : Qc (.mk 3 [f0, f1]) (.mk 3 [t0, t1])
theorem Qc.shallow {f t : Ty} (h : Qc f t) (hf : f.deep ≤ 4) : t.deep ≤ 4 := by
  cases h with
  | sh _ ht => exact ht
  | to hd _ _ _ => omega
theorem Qc.inv {f0 f1 t0 t1 : Ty} (h : Qc (.mk 3 [f0, f1]) (.mk 3 [t0, t1])) : f0.deep ≤ 4 ∧ t0.deep ≤ 4 ∧ Qc f1 t1 := by
  cases h with
  | sh hf ht => rw [deep_mk3] at ht; exact ⟨hf.inv.1, by omega, .sh hf.inv.2 (by omega)⟩
  | to hd h0 h0' h => exact ⟨h0, h0', h⟩
theorem Qc.dom {f t : Ty} (h : Qc f t) : Dom t := by
  induction h with
  | sh _ ht => exact .sh ht
  | to _ _ h0' _ ih => exact .to h0' ih
theorem join_deep {a b : Ty} (ha : Right a) : ∀ (_ : Right b), (a.join b).deep ≤ a.deep ∧ (a.join b).deep ≤ b.deep := by
  induction ha generalizing b with
  | @base k hk =>
    intro hb
    obtain ⟨k', l'⟩ := b
    have : (Ty.join (Ty.mk k []) (.mk k' l')).deep = 1 := by
      simp only [Ty.join]; split
      · simp [joinL, Ty.deep, deepL]
      · simp [Ty.deep, deepL]
    rw [this]; exact ⟨deep_pos _, deep_pos _⟩
  | @fn x y hx hy ihx ihy =>
    intro hb
    cases hb with
    | @base k' hk' =>
      have : (Ty.join (Ty.mk 3 [x, y]) (.mk k' [])).deep = 1 := by
        simp only [Ty.join]; split
        · rename_i h; simp at h
        · simp [Ty.deep, deepL]
      rw [this]; exact ⟨deep_pos _, deep_pos _⟩
    | @fn c d hc hd =>
      have : Ty.join (Ty.mk 3 [x, y]) (.mk 3 [c, d]) = .mk 3 [x.join c, y.join d] := by simp [Ty.join, joinL]
      rw [this, deep_mk3, deep_mk3, deep_mk3]
      have h1 := ihx hc
      have h2 := ihy hd
      omega
theorem qc_joinL {a b : Ty} (ha : Right a) : ∀ (_ : Right b), Dom a → Dom b → Qc a (a.join b) := by
  induction ha generalizing b with
  | @base k hk =>
    intro hb da db
    refine .sh da ?_
    have := (join_deep (.base hk) hb).1
    rw [deep_leaf] at this; omega
  | @fn x y hx hy ihx ihy =>
    intro hb da db
    by_cases hj : (Ty.join (.mk 3 [x, y]) b).deep ≤ 4
    · exact .sh da hj
    · cases hb with
      | @base k' hk' =>
        have := (join_deep (.fn hx hy) (.base hk')).2
        rw [deep_leaf] at this; omega
      | @fn c d hc hd =>
        have e : Ty.join (Ty.mk 3 [x, y]) (.mk 3 [c, d]) = .mk 3 [x.join c, y.join d] := by simp [Ty.join, joinL]
        have h1 := (join_deep (.fn hx hy) (.fn hc hd)).1
        rw [e] at hj ⊢
        rw [e] at h1
        refine .to (by omega) da.inv.1 ?_ (ihy hd da.inv.2 db.inv.2)
        have := (join_deep hx hc).1
        have := da.inv.1
        omega
theorem qc_join {a b : Ty} (ha : Right a) (hb : Right b) (da : Dom a) (db : Dom b) : Qc a (a.join b) ∧ Qc b (a.join b) :=
  ⟨qc_joinL ha hb da db, by rw [join_commR]; exact qc_joinL hb ha db da⟩
/-- How many casts there are in it. -/
def cc (t : Tm) : Nat := (sitesT t).length
def NC : Nat := 40
/-- A term with its casts, and its type; what is taken is shallow; not many casts. -/
inductive HD : List Ty → Tm → Ty → Prop
  | ref {Γ : List Ty} {n : Int} {t f τ : Ty} (h0 : 0 ≤ n) (h : Γ[n.toNat]? = some τ) (hs : τ.deep ≤ 4) : HD Γ (.mk 1 n t f []) τ
  | lit {Γ : List Ty} {n : Int} {t f : Ty} : HD Γ (.mk 2 n t f []) .num
  | says {Γ : List Ty} {n : Int} {t f : Ty} : HD Γ (.mk 3 n t f []) .truth
  | add {Γ : List Ty} {n : Int} {t f : Ty} {a b : Tm} (ha : HD Γ a .num) (hb : HD Γ b .num) : HD Γ (.mk 4 n t f [a, b]) .num
  | less {Γ : List Ty} {n : Int} {t f : Ty} {a b : Tm} (ha : HD Γ a .num) (hb : HD Γ b .num) : HD Γ (.mk 5 n t f [a, b]) .truth
  | ife {Γ : List Ty} {n : Int} {t f τ : Ty} {a b c : Tm} (ha : HD Γ a .truth) (hb : HD Γ b τ) (hc : HD Γ c τ) : HD Γ (.mk 6 n t f [a, b, c]) τ
  | fn {Γ : List Ty} {n : Int} {t f τ : Ty} {b : Tm} (ht : t.deep ≤ 4) (hd : Dom τ) (h : HD (t :: Γ) b τ) : HD Γ (.mk 7 n t f [b]) (.mk 3 [t, τ])
  | call {Γ : List Ty} {n : Int} {t f σ τ : Ty} {a b : Tm} (hs : σ.deep ≤ 4) (ha : HD Γ a (.mk 3 [σ, τ])) (hb : HD Γ b σ) : HD Γ (.mk 8 n t f [a, b]) τ
  | as {Γ : List Ty} {n : Int} {t f : Ty} {b : Tm} (ht : t.deep ≤ 4) (h : HD Γ b t) : HD Γ (.mk 9 n t f [b]) t
  | cast {Γ : List Ty} {n : Int} {t f : Ty} {b : Tm} (ht : Right t) (hf : Right f) (hs : f.fits t = true) (hq : Qc f t) (h : HD Γ b f) : HD Γ (.mk 10 n t f [b]) t
theorem HD.dom {Γ : List Ty} {t : Tm} {τ : Ty} (h : HD Γ t τ) : Dom τ := by
  induction h with
  | ref _ _ hs => exact .sh hs
  | lit | says | add | less => exact .sh (by decide)
  | ife _ _ _ _ ih _ => exact ih
  | fn ht hd h ih => exact .to ht hd
  | call hs _ _ iha _ => exact iha.inv.2
  | as ht _ _ => exact .sh ht
  | cast _ _ _ hq _ _ => exact hq.dom
theorem asT_hd {Γ : List Ty} {x : Tm} {k w : Ty} {n : Int} (h : HD Γ x k) (hk : Right k) (hw : Right w) (hs : k.fits w = true) (hq : k ≠ w → Qc k w) : HD Γ (asT x k w n) w := by
  unfold asT
  split
  · rename_i h1; have := same_eq h1; subst this; exact h
  · rename_i h1
    exact .cast hw hk hs (hq fun e => h1 (by subst e; exact same_refl k)) h
theorem kid_to_hd {Γ : List Ty} {x : Kid} {w : Ty} {y : Tm} (h : HD Γ x.t x.k) (hk : Right x.k) (hw : Right w) (hq : x.k ≠ w → Qc x.k w) (hy : x.to w = some y) : HD Γ y w := by
  unfold Kid.to at hy
  split at hy
  · rename_i hs; cases hy; exact asT_hd h hk hw hs hq
  · cases hy
theorem good_deep {a : Ty} (h : a.good 4 = true) : a.deep ≤ 4 := by
  rw [good_rd, Bool.and_eq_true, decide_eq_true_eq] at h; exact h.2
theorem walk_hd : ∀ (a : Tm) (env : List Ty) (m : Int) (x : Tm) (k : Ty), a.good 0 env.length = true → (∀ t ∈ env, Right t ∧ t.deep ≤ 4) → walkT a env m = some (x, k) → HD env.reverse x k ∧ Right k := fun a => by
  induction a using Tm.ind' with
  | h a ih =>
  intro env m x k hg he h
  obtain ⟨ak, an, at', af, al⟩ := a
  have h0 : ((0 : Int) - (env.length : Int)) = -(env.length : Int) := by omega
  rcases good_cases hg with ⟨e, el, hn, hn2, _⟩ | ⟨e, el, hn, _⟩ | ⟨e, el, hn, _⟩ | ⟨e, _, _, p, q, el, gp, gq⟩ | ⟨e, _, _, p, q, s, el, gp, gq, gs⟩ | ⟨e, _, ht, p, el, gp⟩ | ⟨e, _, ht, p, el, gp⟩ <;> simp only [Tm.k_mk, Tm.n_mk, Tm.t_mk, Tm.f_mk, Tm.l_mk] at *
  · subst e el
    rw [walkT_eta] at h; simp at h
    obtain ⟨rfl, rfl⟩ := h
    have hlt : env.length - 1 - an.toNat < env.length := by omega
    have hget : env[env.length - 1 - an.toNat]? = some env[env.length - 1 - an.toNat] := List.getElem?_eq_getElem hlt
    rw [hget]
    refine ⟨.ref hn ?_ (he _ (List.getElem_mem hlt)).2, (he _ (List.getElem_mem hlt)).1⟩
    rw [List.getElem?_reverse (by omega), hget]; rfl
  · subst e el; rw [walkT_eta] at h; simp at h; obtain ⟨rfl, rfl⟩ := h; exact ⟨.lit, .num⟩
  · subst e el; rw [walkT_eta] at h; simp at h; obtain ⟨rfl, rfl⟩ := h; exact ⟨.says, .truth⟩
  · obtain ⟨ks, ws, l', hks, hw, hc, rfl⟩ := walkT_node (by simp; omega) (by simp; omega) (by simp; omega) h
    rw [if_neg (by simp; omega)] at hks
    subst el
    simp only [Tm.k_mk, Tm.n_mk, Tm.t_mk, Tm.f_mk, Tm.l_mk] at *
    obtain ⟨x1, k1, ks1, rfl, w1, hks⟩ := walkL_cons hks
    obtain ⟨x2, k2, ks2, rfl, w2, hks⟩ := walkL_cons hks
    obtain rfl := walkL_nil hks
    obtain ⟨t1, r1⟩ := ih p (by simp) env _ x1 k1 gp he w1
    obtain ⟨t2, r2⟩ := ih q (by simp) env _ x2 k2 gq he w2
    have d1 := t1.dom
    have d2 := t2.dom
    rcases e with rfl | rfl | rfl <;> simp [wants] at hw
    · obtain ⟨rfl, rfl⟩ := hw
      obtain ⟨y1, l1, rfl, c1, hc⟩ := casts_cons hc
      obtain ⟨y2, rfl, c2⟩ := casts1 hc
      exact ⟨.add (kid_to_hd t1 r1 .num (fun _ => .sh d1 (by decide)) c1) (kid_to_hd t2 r2 .num (fun _ => .sh d2 (by decide)) c2), .num⟩
    · obtain ⟨rfl, rfl⟩ := hw
      obtain ⟨y1, l1, rfl, c1, hc⟩ := casts_cons hc
      obtain ⟨y2, rfl, c2⟩ := casts1 hc
      exact ⟨.less (kid_to_hd t1 r1 .num (fun _ => .sh d1 (by decide)) c1) (kid_to_hd t2 r2 .num (fun _ => .sh d2 (by decide)) c2), .truth⟩
    · have hg : Right (if k1.k = 0 then (Ty.mk 3 []).ground else k1) ∧ (k1 ≠ (if k1.k = 0 then (Ty.mk 3 []).ground else k1) → Qc k1 (if k1.k = 0 then (Ty.mk 3 []).ground else k1)) ∧ Dom (if k1.k = 0 then (Ty.mk 3 []).ground else k1) := by
        split
        · exact ⟨.to .any .any, fun _ => .sh d1 (by decide), .sh (by decide)⟩
        · exact ⟨r1, fun h => absurd rfl h, d1⟩
      generalize (if k1.k = 0 then (Ty.mk 3 []).ground else k1) = g at hw hg
      obtain ⟨hg, hq, dg⟩ := hg
      obtain ⟨h3, hw⟩ := hw
      cases hg with
      | base hb => simp at h3; omega
      | fn ra rb =>
        simp at hw
        obtain ⟨rfl, rfl⟩ := hw
        obtain ⟨y1, l1, rfl, c1, hc⟩ := casts_cons hc
        obtain ⟨y2, rfl, c2⟩ := casts1 hc
        have hsa := dg.inv.1
        exact ⟨.call hsa (kid_to_hd t1 r1 (.to ra rb) hq c1) (kid_to_hd t2 r2 ra (fun _ => .sh d2 hsa) c2), rb⟩
  · subst e
    obtain ⟨ks, ws, l', hks, hw, hc, rfl⟩ := walkT_node (by simp) (by simp) (by simp) h
    subst el
    simp at hks
    simp only [Tm.k_mk, Tm.n_mk, Tm.t_mk, Tm.f_mk, Tm.l_mk] at *
    obtain ⟨x1, k1, ks1, rfl, w1, hks⟩ := walkL_cons hks
    obtain ⟨x2, k2, ks2, rfl, w2, hks⟩ := walkL_cons hks
    obtain ⟨x3, k3, ks3, rfl, w3, hks⟩ := walkL_cons hks
    obtain rfl := walkL_nil hks
    obtain ⟨t1, r1⟩ := ih p (by simp) env _ x1 k1 gp he w1
    obtain ⟨t2, r2⟩ := ih q (by simp) env _ x2 k2 gq he w2
    obtain ⟨t3, r3⟩ := ih s (by simp) env _ x3 k3 gs he w3
    simp [wants] at hw
    obtain ⟨hf, rfl, rfl⟩ := hw
    obtain ⟨y1, l1, rfl, c1, hc⟩ := casts_cons hc
    obtain ⟨y2, l2, rfl, c2, hc⟩ := casts_cons hc
    obtain ⟨y3, rfl, c3⟩ := casts1 hc
    have rj := right_join r2 r3
    have hqs := qc_join r2 r3 t2.dom t3.dom
    exact ⟨.ife (kid_to_hd t1 r1 .truth (fun _ => .sh t1.dom (by decide)) c1) (kid_to_hd t2 r2 rj (fun _ => hqs.1) c2) (kid_to_hd t3 r3 rj (fun _ => hqs.2) c3), rj⟩
  · subst e
    obtain ⟨ks, ws, l', hks, hw, hc, rfl⟩ := walkT_node (by simp) (by simp) (by simp) h
    subst el
    simp at hks
    simp only [Tm.k_mk, Tm.n_mk, Tm.t_mk, Tm.f_mk, Tm.l_mk] at *
    obtain ⟨x1, k1, ks1, rfl, w1, hks⟩ := walkL_cons hks
    obtain rfl := walkL_nil hks
    have rt := good_right ht
    obtain ⟨t1, r1⟩ := ih p (by simp) (env ++ [at']) _ x1 k1 (by simpa using gp) (fun t h' => by
      rcases List.mem_append.1 h' with h' | h'
      · exact he t h'
      · rw [List.mem_singleton.1 h']; exact ⟨rt, good_deep ht⟩) w1
    simp [wants] at hw
    obtain ⟨rfl, rfl⟩ := hw
    obtain ⟨y1, rfl, c1⟩ := casts1 hc
    rw [List.reverse_append, List.reverse_singleton, List.singleton_append] at t1
    exact ⟨.fn (good_deep ht) t1.dom (kid_to_hd t1 r1 r1 (fun h => absurd rfl h) c1), .to rt r1⟩
  · subst e
    obtain ⟨ks, ws, l', hks, hw, hc, rfl⟩ := walkT_node (by simp) (by simp) (by simp) h
    subst el
    simp at hks
    simp only [Tm.k_mk, Tm.n_mk, Tm.t_mk, Tm.f_mk, Tm.l_mk] at *
    obtain ⟨x1, k1, ks1, rfl, w1, hks⟩ := walkL_cons hks
    obtain rfl := walkL_nil hks
    have rt := good_right ht
    obtain ⟨t1, r1⟩ := ih p (by simp) env _ x1 k1 gp he w1
    simp [wants] at hw
    obtain ⟨rfl, rfl⟩ := hw
    obtain ⟨y1, rfl, c1⟩ := casts1 hc
    exact ⟨.as (good_deep ht) (kid_to_hd t1 r1 rt (fun _ => .sh t1.dom (good_deep ht)) c1), rt⟩
end Go.Proofs.YtnflnbdlgdjfmaaDoor
namespace Go.Proofs.YtnflnbdlgdjfmaaDoor
set_option linter.unusedVariables false
set_option linter.unusedSimpArgs false
def KW : Nat := 100
def wt : Nat → Nat
  | 0 => 0
  | 1 => 0
  | n + 2 => KW ^ n
def w4 : Nat := 10000
theorem wt_mono {m n : Nat} (h : m ≤ n) : wt m ≤ wt n := by
  match m, n with
  | 0, _ => simp [wt]
  | 1, _ => simp [wt]
  | m + 2, n + 2 => simp only [wt]; exact Nat.pow_le_pow_right (by decide) (by omega)
  | m + 2, 0 => omega
  | m + 2, 1 => omega
theorem wt_le4 {n : Nat} (h : n ≤ 4) : wt n ≤ w4 := Nat.le_trans (wt_mono h) (by decide)
theorem wt_step {n : Nat} : KW * wt (n - 1) ≤ wt n := by
  match n with
  | 0 => simp [wt]
  | 1 => simp [wt]
  | 2 => simp [wt]
  | n + 3 => simp only [wt, Nat.add_sub_cancel]; rw [show n + 3 - 1 = n + 2 by omega]; simp only [wt]; rw [Nat.pow_succ]; rw [Nat.mul_comm]; exact Nat.le_refl _
theorem wt_pos {n : Nat} (h : 2 ≤ n) : 1 ≤ wt n := by
  match n, h with
  | n + 2, _ => exact Nat.pow_pos (by decide)
/-- A wrap's own weight; what it puts on what is given and on what comes. -/
def wq (f t : Ty) : Nat := if f.deep ≤ 4 then wt (max f.deep t.deep) else 0
def wd (f t : Ty) : Nat := if f.deep ≤ 4 then wt (max f.deep t.deep - 1) else w4
def dq (f : Ty) : Nat := if f.deep ≤ 4 then 0 else 1
/-- The wraps between shallow types, weighed; what a call puts on what is given; the deep ones, and the casts of the body; all. -/
def V.sw : V → Nat
  | .wrap v f t _ _ => v.sw + wq f t
  | .tag v _ => v.sw
  | _ => 0
def V.da : V → Nat
  | .wrap v f t _ _ => v.da + wd f t
  | .tag v _ => v.da
  | _ => 0
def V.mm : V → Nat
  | .wrap v f _ _ _ => v.mm + dq f
  | .tag v _ => v.mm
  | .clo b _ => cc b
  | _ => 0
def V.ly : V → Nat
  | .wrap v _ _ _ _ => v.ly + 1
  | .tag v _ => v.ly
  | _ => 0
theorem da_le : ∀ v : V, KW * v.da ≤ v.sw + KW * w4 * v.mm
  | .wrap v f t _ _ => by
    have := da_le v
    simp only [V.da, V.sw, V.mm, Nat.mul_add]
    unfold wd wq dq
    split
    · have := wt_step (n := max f.deep t.deep); omega
    · omega
  | .tag v _ => da_le v
  | .clo _ _ => by simp [V.da]
  | .num _ => by simp [V.da]
  | .tru _ => by simp [V.da]
inductive VD (W : Nat) : V → Ty → Prop
  | num {n : Int} : VD W (.num n) .num
  | tru {n : Int} : VD W (.tru n) .truth
  | clo {b : Tm} {env : List V} {Γ : List Ty} {σ τ : Ty} (hl : Γ.length ≤ env.length) (hs : σ.deep ≤ 4) (hd : Dom τ) (he : ∀ (i : Nat) (v : V) (ρ : Ty), env[i]? = some v → Γ[i]? = some ρ → VD W v ρ) (hw : ∀ (i : Nat) (v : V) (ρ : Ty), env[i]? = some v → Γ[i]? = some ρ → v.sw ≤ W ∧ v.mm ≤ NC) (hb : HD (σ :: Γ) b τ) (hc : cc b ≤ NC) (hn : b.nodes ≤ 80) : VD W (.clo b env) (.mk 3 [σ, τ])
  | wrap {v : V} {f0 f1 t0 t1 : Ty} {at' : Int} {back : Bool} (h0 : Right f0) (h1 : Right f1) (h2 : Right t0) (h3 : Right t1) (g0 : f0.fits t0 = true) (g1 : f1.fits t1 = true) (hq : Qc (.mk 3 [f0, f1]) (.mk 3 [t0, t1])) (hv : VD W v (.mk 3 [f0, f1])) : VD W (.wrap v (.mk 3 [f0, f1]) (.mk 3 [t0, t1]) at' back) (.mk 3 [t0, t1])
  | tag {v : V} {g : Ty} (hg : Plain g) (hv : VD W v g) : VD W (.tag v g) .any
theorem VD.mono {W W' : Nat} {v : V} {τ : Ty} (h : VD W v τ) (hw : W ≤ W') : VD W' v τ := by
  induction h with
  | num => exact .num
  | tru => exact .tru
  | clo hl hs hd _ hv hb hc hn ih => exact .clo hl hs hd ih (fun i v ρ h1 h2 => ⟨Nat.le_trans (hv i v ρ h1 h2).1 hw, (hv i v ρ h1 h2).2⟩) hb hc hn
  | wrap h0 h1 h2 h3 g0 g1 hq _ ih => exact .wrap h0 h1 h2 h3 g0 g1 hq ih
  | tag hg _ ih => exact .tag hg ih
theorem vd_any {W : Nat} {v : V} (h : VD W v .any) : ∃ u g, v = .tag u g ∧ Plain g ∧ VD W u g := by
  cases h with
  | tag hg hv => exact ⟨_, _, rfl, hg, hv⟩
theorem vd_num {W : Nat} {v : V} (h : VD W v .num) : ∃ n, v = .num n := by
  cases h with
  | num => exact ⟨_, rfl⟩
theorem fn_deep (a b : Ty) : 2 ≤ (Ty.mk 3 [a, b]).deep := by rw [deep_mk3]; have := deep_pos a; omega
/-- How many wraps there are. -/
theorem ly_le {W : Nat} {v : V} {τ : Ty} (h : VD W v τ) : v.ly ≤ v.sw + v.mm := by
  induction h with
  | num => simp [V.ly]
  | tru => simp [V.ly]
  | clo => simp [V.ly]
  | wrap _ _ _ _ _ _ _ _ ih =>
    rename_i f0 f1 t0 t1 _ _ _ _ _ _ _ _ _ _
    simp only [V.ly, V.sw, V.mm]
    unfold wq dq
    split
    · have := wt_pos (n := max (Ty.mk 3 [f0, f1]).deep (Ty.mk 3 [t0, t1]).deep) (by have := fn_deep f0 f1; omega)
      omega
    · omega
  | tag _ _ ih => exact ih
/-- What a cast puts on a value. -/
def Put (W : Nat) (v u : V) (f t : Ty) : Prop := VD W u t ∧ u.sw ≤ v.sw + wq f t ∧ u.mm ≤ v.mm + dq f
theorem ground_deep (f : Ty) : f.ground.deep ≤ 2 := by unfold Ty.ground; split <;> simp [deep_to, deep_leaf, Ty.any]
theorem castV_vd {W : Nat} {v : V} {f t : Ty} {at' : Int} {back : Bool} (hv : VD W v f) (hf : Right f) (ht : Right t) (hs : f.fits t = true) (hq : f ≠ t → Qc f t) :
    (∃ u, castV v f t at' back = .inl u ∧ Put W v u f t) ∨ castV v f t at' back = .inr (.blame at' back) := by
  unfold castV
  by_cases h1 : f.same t = true
  · rw [if_pos h1]; have := same_eq h1; subst this; exact .inl ⟨v, rfl, hv, by omega, by omega⟩
  rw [if_neg h1]
  replace hq := hq fun e => h1 (by subst e; exact same_refl f)
  cases hf with
  | fn ha hb =>
    rename_i f0 f1
    cases ht with
    | fn hc hd =>
      rw [if_pos (by rfl)]
      rw [fits_to, Bool.and_eq_true] at hs
      exact .inl ⟨_, rfl, .wrap ha hb hc hd hs.1 hs.2 hq hv, Nat.le_refl _, Nat.le_refl _⟩
    | base hk =>
      rcases hk with rfl | rfl | rfl
      · rw [if_neg (by simp), if_pos (by rfl)]
        refine .inl ⟨_, rfl, .tag (.inr (.inr rfl)) ?_, ?_, ?_⟩
        · rw [ground_fn]
          split
          · rename_i h; have := same_eq h; rw [← this]; exact hv
          · refine .wrap ha hb .any .any (fits_any _) (fits_any _) (.sh ?_ (by decide)) hv
            cases hq with
            | sh hf _ => exact hf
        · simp only [V.sw]
          split
          · omega
          · simp only [V.sw]
            refine Nat.add_le_add_left ?_ _
            unfold wq
            have := fn_deep f0 f1
            have hg := ground_deep (Ty.mk 3 [f0, f1])
            split
            · exact wt_mono (by omega)
            · omega
        · simp only [V.mm]
          split
          · omega
          · exact Nat.le_refl _
      · simp [Ty.fits] at hs
      · simp [Ty.fits] at hs
  | base hk =>
    cases ht with
    | fn hc hd =>
      rename_i t0 t1
      rcases hk with rfl | rfl | rfl
      · rw [if_neg (by simp), if_neg (by simp), if_pos (by rfl)]
        obtain ⟨u, g, rfl, hg, hu⟩ := vd_any hv
        dsimp only
        rw [ground_fn]
        have htd := hq.shallow (by rw [deep_leaf]; omega)
        split
        · rename_i h
          have := same_eq h
          subst this
          split
          · rename_i h; have := same_eq h; rw [← this]; exact .inl ⟨_, rfl, hu, by simp only [V.sw]; omega, by simp only [V.mm]; omega⟩
          · rw [if_pos (by rfl)]
            refine .inl ⟨_, rfl, .wrap .any .any hc hd (any_fits _) (any_fits _) (.sh (.sh (by decide)) htd) hu, ?_, ?_⟩
            · simp only [V.sw]
              refine Nat.add_le_add_left ?_ _
              unfold wq
              have := fn_deep t0 t1
              have hg := ground_deep (Ty.mk 3 [t0, t1])
              rw [ground_fn] at hg
              rw [if_pos (by omega), if_pos (by rw [deep_leaf]; omega)]
              exact wt_mono (by omega)
            · simp only [V.mm]
              unfold dq
              have hg := ground_deep (Ty.mk 3 [t0, t1])
              rw [ground_fn] at hg
              rw [if_pos (by omega)]; omega
        · exact .inr rfl
      · simp [Ty.fits] at hs
      · simp [Ty.fits] at hs
    | base hk' =>
      rename_i k k'
      by_cases h0 : k' = 0
      · subst h0
        rcases hk with rfl | rfl | rfl
        · exact absurd rfl h1
        · rw [if_neg (by simp), if_pos (by rfl)]
          refine .inl ⟨_, rfl, .tag (.inl rfl) ?_, ?_, ?_⟩
          · rw [if_pos (by decide)]; exact hv
          · rw [if_pos (by decide)]; simp only [V.sw]; omega
          · rw [if_pos (by decide)]; simp only [V.mm]; omega
        · rw [if_neg (by simp), if_pos (by rfl)]
          refine .inl ⟨_, rfl, .tag (.inr (.inl rfl)) ?_, ?_, ?_⟩
          · rw [if_pos (by decide)]; exact hv
          · rw [if_pos (by decide)]; simp only [V.sw]; omega
          · rw [if_pos (by decide)]; simp only [V.mm]; omega
      · rw [if_neg (by simp; omega), if_neg (by simpa using h0)]
        by_cases hk0 : k = 0
        · subst hk0
          rw [if_pos (by rfl)]
          obtain ⟨u, g, rfl, hg, hu⟩ := vd_any hv
          dsimp only
          have e : (Ty.mk k' []).ground = .mk k' [] := right_base (.base hk') (by simp; omega)
          rw [e]
          split
          · rename_i h
            have := same_eq h
            subst this
            rw [if_pos (same_refl _)]
            exact .inl ⟨_, rfl, hu, by simp only [V.sw]; omega, by simp only [V.mm]; omega⟩
          · exact .inr rfl
        · exfalso
          simp [Ty.fits, fitsL, h0, hk0] at hs
          subst hs
          exact h1 (same_refl _)
/-- What a wrap puts on what is given, and on what comes. -/
theorem wd_arg {f0 f1 t0 t1 : Ty} (hq : Qc (.mk 3 [f0, f1]) (.mk 3 [t0, t1])) : wq t0 f0 ≤ wd (.mk 3 [f0, f1]) (.mk 3 [t0, t1]) ∧ dq t0 = 0 := by
  obtain ⟨h0, h0', _⟩ := hq.inv
  refine ⟨?_, by unfold dq; rw [if_pos h0']⟩
  unfold wq wd
  rw [if_pos h0']
  split
  · refine wt_mono ?_
    rw [deep_mk3, deep_mk3]; omega
  · exact wt_le4 (by omega)
theorem wd_res {f0 f1 t0 t1 : Ty} (hq : Qc (.mk 3 [f0, f1]) (.mk 3 [t0, t1])) : wq f1 t1 ≤ wd (.mk 3 [f0, f1]) (.mk 3 [t0, t1]) ∧ dq f1 ≤ dq (.mk 3 [f0, f1]) := by
  obtain ⟨h0, h0', h⟩ := hq.inv
  refine ⟨?_, ?_⟩
  · unfold wq wd
    split
    · rename_i h1
      have h2 := h.shallow h1
      split
      · refine wt_mono ?_
        rw [deep_mk3, deep_mk3]; omega
      · exact wt_le4 (by omega)
    · omega
  · unfold dq
    split
    · omega
    · rw [if_neg (by rw [deep_mk3]; omega)]; exact Nat.le_refl _
def grow (W : Nat) : Nat := W + 2 * (W / KW) + 3 * (NC * w4)
def gi : Nat → Nat → Nat
  | 0, W => W
  | n + 1, W => gi n (grow W)
theorem grow_add (W Y : Nat) : grow W + Y ≤ grow (W + Y) := by
  unfold grow
  have : W / KW ≤ (W + Y) / KW := Nat.div_le_div_right (by omega)
  omega
theorem grow_mono {W W' : Nat} (h : W ≤ W') : grow W ≤ grow W' := by
  unfold grow
  have : W / KW ≤ W' / KW := Nat.div_le_div_right h
  omega
theorem gi_mono : ∀ {n : Nat} {W W' : Nat}, W ≤ W' → gi n W ≤ gi n W'
  | 0, _, _, h => h
  | n + 1, _, _, h => gi_mono (n := n) (grow_mono h)
theorem gi_add : ∀ (n W Y : Nat), gi n W + Y ≤ gi n (W + Y)
  | 0, _, _ => Nat.le_refl _
  | n + 1, W, Y => Nat.le_trans (gi_add n (grow W) Y) (gi_mono (grow_add W Y))
theorem gi_gi : ∀ (n m W : Nat), gi n (gi m W) = gi (n + m) W
  | n, 0, W => rfl
  | n, m + 1, W => by show gi n (gi m (grow W)) = gi (n + m) (grow W); exact gi_gi n m (grow W)
theorem gi_ge : ∀ (n W : Nat), W ≤ gi n W
  | 0, _ => Nat.le_refl _
  | n + 1, W => Nat.le_trans (by unfold grow; omega) (gi_ge n (grow W))
theorem gi_step (a b W Y : Nat) : gi a (gi b W + Y) ≤ gi (a + b) (W + Y) := by
  rw [← gi_gi]; exact gi_mono (gi_add b W Y)
end Go.Proofs.YtnflnbdlgdjfmaaDoor
namespace Go.Proofs.YtnflnbdlgdjfmaaDoor
set_option linter.unusedVariables false
set_option linter.unusedSimpArgs false
structure EnvD (W : Nat) (env : List V) (Γ : List Ty) : Prop where
  len : Γ.length ≤ env.length
  at' : ∀ (i : Nat) (v : V) (ρ : Ty), env[i]? = some v → Γ[i]? = some ρ → VD W v ρ
  sm : ∀ (i : Nat) (v : V) (ρ : Ty), env[i]? = some v → Γ[i]? = some ρ → v.sw ≤ W ∧ v.mm ≤ NC
theorem EnvD.mono {W W' : Nat} {env : List V} {Γ : List Ty} (h : EnvD W env Γ) (hw : W ≤ W') : EnvD W' env Γ :=
  ⟨h.len, fun i v ρ h1 h2 => (h.at' i v ρ h1 h2).mono hw, fun i v ρ h1 h2 => ⟨Nat.le_trans (h.sm i v ρ h1 h2).1 hw, (h.sm i v ρ h1 h2).2⟩⟩
theorem EnvD.cons {W : Nat} {env : List V} {Γ : List Ty} {x : V} {σ : Ty} (h : EnvD W env Γ) (hx : VD W x σ) (hs : x.sw ≤ W) (hm : x.mm ≤ NC) : EnvD W (x :: env) (σ :: Γ) :=
  ⟨by simpa using h.len, fun i v ρ h1 h2 => by
    cases i with
    | zero => simp at h1 h2; subst h1; subst h2; exact hx
    | succ i => exact h.at' i v ρ (by simpa using h1) (by simpa using h2), fun i v ρ h1 h2 => by
    cases i with
    | zero => simp at h1 h2; subst h1; subst h2; exact ⟨hs, hm⟩
    | succ i => exact h.sm i v ρ (by simpa using h1) (by simpa using h2)⟩
theorem cc_node {k n : Int} {t f : Ty} {l : List Tm} (hk : k ≠ 10) : cc (.mk k n t f l) = (sitesL l).length := by
  unfold cc; rw [sitesT_eta]; simp [ownSite, hk]
theorem cc_cast {n : Int} {t f : Ty} {b : Tm} : cc (.mk 10 n t f [b]) = cc b + 1 := by
  unfold cc; rw [sitesT_eta]; simp [ownSite, sitesL]
theorem cc1 {k n : Int} {t f : Ty} {a : Tm} (hk : k ≠ 10) : cc (.mk k n t f [a]) = cc a := by rw [cc_node hk]; simp [sitesL, cc]
theorem cc2 {k n : Int} {t f : Ty} {a b : Tm} (hk : k ≠ 10) : cc (.mk k n t f [a, b]) = cc a + cc b := by rw [cc_node hk]; simp [sitesL, cc]
theorem cc3 {k n : Int} {t f : Ty} {a b c : Tm} (hk : k ≠ 10) : cc (.mk k n t f [a, b, c]) = cc a + cc b + cc c := by rw [cc_node hk]; simp [sitesL, cc]; omega
theorem nd1 {k n : Int} {t f : Ty} {a : Tm} : (Tm.mk k n t f [a]).nodes = 1 + a.nodes := by simp [Tm.nodes, nodesL]
theorem nd2 {k n : Int} {t f : Ty} {a b : Tm} : (Tm.mk k n t f [a, b]).nodes = 1 + (a.nodes + b.nodes) := by simp [Tm.nodes, nodesL]
theorem nd3 {k n : Int} {t f : Ty} {a b c : Tm} : (Tm.mk k n t f [a, b, c]).nodes = 1 + (a.nodes + (b.nodes + c.nodes)) := by simp [Tm.nodes, nodesL]
variable {G : Nat}
def SB (G : Nat) : Nat := 130 + G
/-- What comes of a term. -/
structure OkT (W' : Nat) (m : Nat) (v : V) (τ : Ty) : Prop where
  vd : VD W' v τ
  sw : v.sw ≤ W'
  nc : v.mm ≤ NC
  mm : 4 < τ.deep → v.mm ≤ m
theorem OkT.mono {W W' m m' : Nat} {v : V} {τ : Ty} (h : OkT W m v τ) (hw : W ≤ W') (hm : m ≤ m') : OkT W' m' v τ := ⟨h.vd.mono hw, Nat.le_trans h.sw hw, h.nc, fun h1 => Nat.le_trans (h.mm h1) hm⟩
def ResT (W m F : Nat) (r : Res) (τ : Ty) : Prop := ∀ v F', r = .ok v F' → F' ≤ F ∧ OkT (gi (F - F') W) m v τ
def TB (G : Nat) (t : Tm) (env : List V) (F : Nat) (r : Res) (h : Nat) : Prop :=
  ∀ Γ τ W, EnvD W env Γ → HD Γ t τ → cc t ≤ NC → t.nodes ≤ 80 → gi F (W + cc t * w4) ≤ G → h ≤ t.nodes + (G + NC + 2) + F * SB G ∧ ResT (W + cc t * w4) (cc t) F r τ
def AB (G : Nat) (f x : V) (F : Nat) (r : Res) (h : Nat) : Prop :=
  ∀ σ τ X, VD X f (.mk 3 [σ, τ]) → VD X x σ → f.mm ≤ NC → x.mm ≤ NC → x.sw + f.da ≤ X → σ.deep ≤ 4 → (∀ F0, F = F0 + 1 → gi F0 (X + NC * w4) ≤ G) →
    h ≤ f.ly + 2 + F * SB G ∧ ∀ v F', r = .ok v F' → F' < F ∧ VD (gi (F - 1 - F') (X + NC * w4)) v τ ∧ v.sw ≤ gi (F - 1 - F') (X + NC * w4) + f.da ∧ v.mm ≤ NC ∧ (4 < τ.deep → v.mm ≤ f.mm)
def CB (G : Nat) : Cmd → Nat → Res → Nat → Prop
  | .tm t env => TB G t env
  | .ap f x => AB G f x
theorem resT_out {W m F : Nat} {o : Out} {τ : Ty} : ResT W m F (.out o) τ := fun v F' h => by cases h
theorem resT_ok {W m F F' : Nat} {v : V} {τ : Ty} (hF : F' ≤ F) (h : OkT (gi (F - F') W) m v τ) : ResT W m F (.ok v F') τ := fun v' F'' e => by cases e; exact ⟨hF, h⟩
/-- One behind the other. -/
theorem gi_two {F F' W Y Z : Nat} (hF : F' ≤ F) (h : W + Y ≤ Z) (hG : gi F Z ≤ G) : gi F' (gi (F - F') W + Y) ≤ G :=
  Nat.le_trans (gi_step F' (F - F') W Y) (by rw [show F' + (F - F') = F by omega]; exact Nat.le_trans (gi_mono h) hG)
theorem resT_two {F F' W Y Z m m' : Nat} {r : Res} {τ : Ty} (hF : F' ≤ F) (h : W + Y ≤ Z) (hm : m ≤ m') (hr : ResT (gi (F - F') W + Y) m F' r τ) : ResT Z m' F r τ := fun v F'' e => by
  obtain ⟨h1, h2⟩ := hr v F'' e
  refine ⟨by omega, h2.mono ?_ hm⟩
  have := gi_step (F' - F'') (F - F') W Y
  rw [show F' - F'' + (F - F') = F - F'' by omega] at this
  exact Nat.le_trans this (gi_mono h)
theorem fuel_le {F F' : Nat} (h : F' ≤ F) : F' * SB G ≤ F * SB G := Nat.mul_le_mul_right _ h
theorem okT_num {W m : Nat} {n : Int} : OkT W m (.num n) .num := ⟨.num, Nat.zero_le _, Nat.zero_le _, fun _ => Nat.zero_le _⟩
theorem okT_tru {W m : Nat} {n : Int} : OkT W m (.tru n) .truth := ⟨.tru, Nat.zero_le _, Nat.zero_le _, fun _ => Nat.zero_le _⟩
theorem wq_le {f t : Ty} (h : Qc f t) : wq f t ≤ w4 := by
  unfold wq
  split
  · rename_i h1; exact wt_le4 (by have := h.shallow h1; omega)
  · omega
theorem castR_b {v : V} {f t : Ty} {n : Int} {back : Bool} {F F' W m : Nat} (hF : F' ≤ F) (hv : OkT (gi (F - F') W) m v f) (hf : Right f) (ht : Right t) (hs : f.fits t = true) (hq : Qc f t) (hm : m + 1 ≤ NC) : ResT (W + w4) (m + 1) F (castR v f t n back F') t := by
  unfold castR
  rcases castV_vd (at' := n) (back := back) hv.vd hf ht hs (fun _ => hq) with ⟨u, hu, h1, h2, h3⟩ | hu
  · rw [hu]
    have hge := gi_add (F - F') W w4
    have hw := wq_le hq
    refine resT_ok hF ⟨h1.mono (gi_mono (by omega)), ?_, ?_, fun hd => ?_⟩
    · have := hv.sw; omega
    · unfold dq at h3
      split at h3
      · have := hv.nc; omega
      · rename_i hd; have := hv.mm (by omega); omega
    · have hfd : 4 < f.deep := Nat.lt_of_not_le fun h => by have := hq.shallow h; omega
      have := hv.mm hfd
      unfold dq at h3
      split at h3 <;> omega
  · rw [hu]; exact resT_out
theorem env_next {W Y d m : Nat} {v : V} {τ : Ty} {env : List V} {Γ : List Ty} (hE : EnvD W env Γ) (h : OkT (gi d (W + Y)) m v τ) : EnvD (gi d (W + Y)) env Γ := hE.mono (Nat.le_trans (Nat.le_add_right W Y) (gi_ge d (W + Y)))
theorem gi_three {F F1 F2 k W Y Z : Nat} (h1 : F1 ≤ F) (h2 : F2 ≤ F1) (hk : k ≤ F2) : gi (F2 - k) (gi (F1 - F2) (gi (F - F1) (W + Y) + Z)) ≤ gi (F - k) (W + (Y + Z)) := by
  rw [gi_gi, show F2 - k + (F1 - F2) = F1 - k by omega]
  have := gi_step (F1 - k) (F - F1) (W + Y) Z
  rw [show F1 - k + (F - F1) = F - k by omega, Nat.add_assoc] at this
  exact this
theorem call_next {F F1 F2 W Y Z m m' : Nat} {v w : V} {τ τ' : Ty} (h1 : F1 ≤ F) (h2 : F2 ≤ F1) (hv : OkT (gi (F - F1) (W + Y)) m v τ) (hw : OkT (gi (F1 - F2) (gi (F - F1) (W + Y) + Z)) m' w τ') :
    VD (gi (F1 - F2) (gi (F - F1) (W + Y) + Z)) v τ ∧ VD (gi (F1 - F2) (gi (F - F1) (W + Y) + Z)) w τ' ∧ v.sw ≤ gi (F1 - F2) (gi (F - F1) (W + Y) + Z) ∧ w.sw ≤ gi (F1 - F2) (gi (F - F1) (W + Y) + Z) ∧ ∀ k, k ≤ F2 → gi (F2 - k) (gi (F1 - F2) (gi (F - F1) (W + Y) + Z)) ≤ gi (F - k) (W + (Y + Z)) := by
  have hge : gi (F - F1) (W + Y) ≤ gi (F1 - F2) (gi (F - F1) (W + Y) + Z) := Nat.le_trans (Nat.le_add_right _ _) (gi_ge _ _)
  exact ⟨hv.vd.mono hge, hw.vd, Nat.le_trans hv.sw hge, hw.sw, fun k hk => gi_three h1 h2 hk⟩
theorem da_grow {v : V} {W : Nat} (h : v.sw ≤ W) (hm : v.mm ≤ NC) : v.da ≤ W / KW + NC * w4 := by
  have h1 := da_le v
  have h2 : KW * w4 * v.mm ≤ KW * (NC * w4) := by rw [Nat.mul_assoc]; exact Nat.mul_le_mul_left _ (by rw [Nat.mul_comm]; exact Nat.mul_le_mul_right _ hm)
  have h3 : v.da ≤ (W + KW * (NC * w4)) / KW := (Nat.le_div_iff_mul_le (by decide)).2 (by rw [Nat.mul_comm]; omega)
  rwa [Nat.add_mul_div_left _ _ (by decide)] at h3
theorem gi_succ {F k : Nat} (h : k < F) (W : Nat) : gi (F - 1 - k) (grow W) = gi (F - k) W := by
  rw [show F - k = (F - 1 - k) + 1 by omega]; rfl
theorem call_end {F2 F' W2 : Nat} {v u : V} {τ : Ty} (hF : F' < F2) (hda : v.da ≤ W2 / KW + NC * w4) (g2 : VD (gi (F2 - 1 - F') (W2 + v.da + NC * w4)) u τ) (g3 : u.sw ≤ gi (F2 - 1 - F') (W2 + v.da + NC * w4) + v.da) :
    VD (gi (F2 - F') W2) u τ ∧ u.sw ≤ gi (F2 - F') W2 := by
  have h1 := gi_add (F2 - 1 - F') (W2 + v.da + NC * w4) v.da
  have h2 : gi (F2 - 1 - F') (W2 + v.da + NC * w4 + v.da) ≤ gi (F2 - F') W2 := by
    rw [← gi_succ hF]
    exact gi_mono (by unfold grow; omega)
  exact ⟨g2.mono (by omega), by omega⟩
theorem res_mm {f1 t1 : Ty} {z v u d N : Nat} (hq : Qc f1 t1) (s3 : z ≤ v + dq f1) (hv : v ≤ N) (hu : 4 < f1.deep → v ≤ u) (hN : u + d ≤ N) (hd : dq f1 ≤ d) : z ≤ N ∧ (4 < t1.deep → z ≤ u + d) := by
  refine ⟨?_, fun h => ?_⟩
  · unfold dq at s3 hd
    split at s3
    · omega
    · rename_i h1; have := hu (by omega); rw [if_neg h1] at hd; omega
  · have := hu (Nat.lt_of_not_le fun h1 => by have := hq.shallow h1; omega)
    omega
theorem ev_b {c : Cmd} {F : Nat} {r : Res} {h : Nat} (he : EvN c F r h) : CB G c F r h := by
  induction he with
  | ref hv =>
    intro Γ τ W hE ht hc hn hg
    cases ht with
    | ref h0 h hs =>
      refine ⟨by omega, resT_ok (Nat.le_refl _) ?_⟩
      rw [Nat.sub_self]
      exact ⟨(hE.at' _ _ _ hv h).mono (Nat.le_add_right _ _), Nat.le_trans (hE.sm _ _ _ hv h).1 (Nat.le_add_right _ _), (hE.sm _ _ _ hv h).2, fun h => by omega⟩
  | refS hv => intro Γ τ W hE ht hc hn hg; exact ⟨by omega, resT_out⟩
  | lit => intro Γ τ W hE ht hc hn hg; cases ht; exact ⟨by omega, resT_ok (Nat.le_refl _) okT_num⟩
  | says => intro Γ τ W hE ht hc hn hg; cases ht; exact ⟨by omega, resT_ok (Nat.le_refl _) okT_tru⟩
  | fn =>
    intro Γ τ W hE ht hc hn hg
    cases ht with
    | fn ht hd h =>
      rw [cc1 (by decide)] at *
      rw [nd1] at *
      refine ⟨by omega, resT_ok (Nat.le_refl _) ?_⟩
      rw [Nat.sub_self]
      exact ⟨.clo hE.len ht hd (fun i v ρ h1 h2 => (hE.at' i v ρ h1 h2).mono (Nat.le_add_right _ _)) (fun i v ρ h1 h2 => ⟨Nat.le_trans (hE.sm i v ρ h1 h2).1 (Nat.le_add_right _ _), (hE.sm i v ρ h1 h2).2⟩) h hc (by omega), Nat.zero_le _, hc, fun _ => Nat.le_refl _⟩
  | as _ ih =>
    intro Γ τ W hE ht hc hn hg
    cases ht with
    | as ht h =>
      rw [cc1 (by decide)] at *
      rw [nd1] at *
      obtain ⟨h1, h2⟩ := ih Γ _ W hE h hc (by omega) hg
      exact ⟨by omega, h2⟩
  | castO _ ih =>
    intro Γ τ W hE ht hc hn hg
    cases ht with
    | cast ht hf hs hq h =>
      rw [cc_cast] at *
      rw [nd1] at *
      obtain ⟨h1, h2⟩ := ih Γ _ W hE h (by omega) (by omega) (Nat.le_trans (gi_mono (by rw [Nat.add_mul]; omega)) hg)
      exact ⟨by omega, resT_out⟩
  | cast _ ih =>
    intro Γ τ W hE ht hc hn hg
    cases ht with
    | cast ht hf hs hq h =>
      rw [cc_cast] at *
      rw [nd1] at *
      obtain ⟨h1, h2⟩ := ih Γ _ W hE h (by omega) (by omega) (Nat.le_trans (gi_mono (by rw [Nat.add_mul]; omega)) hg)
      obtain ⟨h3, h4⟩ := h2 _ _ rfl
      refine ⟨by omega, ?_⟩
      rw [Nat.add_mul, Nat.one_mul, ← Nat.add_assoc]
      exact castR_b h3 h4 hf ht hs hq hc
  | ifO _ ih =>
    intro Γ τ W hE ht hc hn hg
    cases ht with
    | ife ha hb hc' =>
      rw [cc3 (by decide)] at *
      rw [nd3] at *
      obtain ⟨h1, h2⟩ := ih Γ _ W hE ha (by omega) (by omega) (Nat.le_trans (gi_mono (by rw [Nat.add_mul, Nat.add_mul]; omega)) hg)
      exact ⟨by omega, resT_out⟩
  | ifS _ hv ih =>
    intro Γ τ W hE ht hc hn hg
    cases ht with
    | ife ha hb hc' =>
      rw [cc3 (by decide)] at *
      rw [nd3] at *
      obtain ⟨h1, h2⟩ := ih Γ _ W hE ha (by omega) (by omega) (Nat.le_trans (gi_mono (by rw [Nat.add_mul, Nat.add_mul]; omega)) hg)
      exact ⟨by omega, resT_out⟩
  | ifT _ _ ih1 ih2 =>
    intro Γ τ W hE ht hc hn hg
    cases ht with
    | ife ha hb hc' =>
      rename_i a b c _ _ _ _ _ _ _ _ _ _
      rw [cc3 (by decide)] at *
      rw [nd3] at *
      rw [Nat.add_mul, Nat.add_mul] at *
      obtain ⟨h1, h2⟩ := ih1 Γ _ W hE ha (by omega) (by omega) (Nat.le_trans (gi_mono (by omega)) hg)
      obtain ⟨h3, h4⟩ := h2 _ _ rfl
      obtain ⟨h5, h6⟩ := ih2 Γ _ _ (env_next hE h4) hb (by omega) (by omega) (gi_two h3 (by omega) hg)
      have := fuel_le (G := G) h3
      exact ⟨by omega, resT_two h3 (by omega) (by omega) h6⟩
  | ifF _ _ ih1 ih2 =>
    intro Γ τ W hE ht hc hn hg
    cases ht with
    | ife ha hb hc' =>
      rename_i a b c _ _ _ _ _ _ _ _ _ _
      rw [cc3 (by decide)] at *
      rw [nd3] at *
      rw [Nat.add_mul, Nat.add_mul] at *
      obtain ⟨h1, h2⟩ := ih1 Γ _ W hE ha (by omega) (by omega) (Nat.le_trans (gi_mono (by omega)) hg)
      obtain ⟨h3, h4⟩ := h2 _ _ rfl
      obtain ⟨h5, h6⟩ := ih2 Γ _ _ (env_next hE h4) hc' (by omega) (by omega) (gi_two h3 (by omega) hg)
      have := fuel_le (G := G) h3
      exact ⟨by omega, resT_two h3 (by omega) (by omega) h6⟩
  | binO hk _ ih =>
    intro Γ τ W hE ht hc hn hg
    rw [cc2 (by omega)] at *
    rw [nd2] at *
    rw [Nat.add_mul] at *
    have key : ∀ τ', HD Γ _ τ' → _ := fun τ' ha => ih Γ τ' W hE ha (by omega) (by omega) (Nat.le_trans (gi_mono (by omega)) hg)
    cases ht with
    | add ha hb => have := (key _ ha).1; exact ⟨by omega, resT_out⟩
    | less ha hb => have := (key _ ha).1; exact ⟨by omega, resT_out⟩
    | call hs ha hb => have := (key _ ha).1; exact ⟨by omega, resT_out⟩
  | binP hk _ _ ih1 ih2 =>
    intro Γ τ W hE ht hc hn hg
    rw [cc2 (by omega)] at *
    rw [nd2] at *
    rw [Nat.add_mul] at *
    have key : ∀ τ1 τ2, HD Γ _ τ1 → HD Γ _ τ2 → _ := fun τ1 τ2 ha hb => by
      obtain ⟨h1, h2⟩ := ih1 Γ τ1 W hE ha (by omega) (by omega) (Nat.le_trans (gi_mono (by omega)) hg)
      obtain ⟨h3, h4⟩ := h2 _ _ rfl
      obtain ⟨h5, h6⟩ := ih2 Γ τ2 _ (env_next hE h4) hb (by omega) (by omega) (gi_two h3 (by omega) hg)
      have := fuel_le (G := G) h3
      exact And.intro h1 (Nat.le_trans h5 (Nat.add_le_add_left this _))
    cases ht with
    | add ha hb => have := key _ _ ha hb; exact ⟨by omega, resT_out⟩
    | less ha hb => have := key _ _ ha hb; exact ⟨by omega, resT_out⟩
    | call hs ha hb => have := key _ _ ha hb; exact ⟨by omega, resT_out⟩
  | twoV hk _ _ h2 ih1 ih2 =>
    intro Γ τ W hE ht hc hn hg
    rw [cc2 (by omega)] at *
    rw [nd2] at *
    rw [Nat.add_mul] at *
    have key : HD Γ _ .num → HD Γ _ .num → _ := fun ha hb => by
      obtain ⟨h1, h2⟩ := ih1 Γ .num W hE ha (by omega) (by omega) (Nat.le_trans (gi_mono (by omega)) hg)
      obtain ⟨h3, h4⟩ := h2 _ _ rfl
      obtain ⟨h5, h6⟩ := ih2 Γ .num _ (env_next hE h4) hb (by omega) (by omega) (gi_two h3 (by omega) hg)
      obtain ⟨h7, h8⟩ := h6 _ _ rfl
      have := fuel_le (G := G) h3
      exact And.intro (And.intro h1 (Nat.le_trans h5 (Nat.add_le_add_left this _))) (And.intro (And.intro h3 h7) (And.intro (vd_num h4.vd) (vd_num h8.vd)))
    cases ht with
    | add ha hb =>
      obtain ⟨⟨h1, h3⟩, ⟨h4, h5⟩, ⟨n, rfl⟩, ⟨m, rfl⟩⟩ := key ha hb
      simp only [twoV] at h2
      split at h2
      · cases h2; exact ⟨by omega, resT_ok (by omega) okT_num⟩
      · cases h2
    | less ha hb =>
      obtain ⟨⟨h1, h3⟩, ⟨h4, h5⟩, ⟨n, rfl⟩, ⟨m, rfl⟩⟩ := key ha hb
      simp only [twoV] at h2
      split at h2
      · cases h2; exact ⟨by omega, resT_ok (by omega) okT_tru⟩
      · cases h2
    | call hs ha hb => omega
  | twoO hk _ _ h2 ih1 ih2 =>
    intro Γ τ W hE ht hc hn hg
    rw [cc2 (by omega)] at *
    rw [nd2] at *
    rw [Nat.add_mul] at *
    have key : HD Γ _ .num → HD Γ _ .num → _ := fun ha hb => by
      obtain ⟨h1, h2⟩ := ih1 Γ .num W hE ha (by omega) (by omega) (Nat.le_trans (gi_mono (by omega)) hg)
      obtain ⟨h3, h4⟩ := h2 _ _ rfl
      obtain ⟨h5, h6⟩ := ih2 Γ .num _ (env_next hE h4) hb (by omega) (by omega) (gi_two h3 (by omega) hg)
      have := fuel_le (G := G) h3
      exact And.intro h1 (Nat.le_trans h5 (Nat.add_le_add_left this _))
    cases ht with
    | add ha hb => have := key ha hb; exact ⟨by omega, resT_out⟩
    | less ha hb => have := key ha hb; exact ⟨by omega, resT_out⟩
    | call hs ha hb => omega
  | call _ _ _ ih1 ih2 ih3 =>
    rename_i v w r _ _ _
    intro Γ τ W hE ht hc hn hg
    rw [cc2 (by omega)] at *
    rw [nd2] at *
    rw [Nat.add_mul] at *
    cases ht with
    | call hs ha hb =>
      obtain ⟨h1, h2⟩ := ih1 Γ _ W hE ha (by omega) (by omega) (Nat.le_trans (gi_mono (by omega)) hg)
      obtain ⟨h3, h4⟩ := h2 _ _ rfl
      obtain ⟨h5, h6⟩ := ih2 Γ _ _ (env_next hE h4) hb (by omega) (by omega) (gi_two h3 (by omega) hg)
      obtain ⟨h7, h8⟩ := h6 _ _ rfl
      have h43 := h4.nc
      have h44 := h4.mm
      obtain ⟨k1, k2, k3, k4, k5⟩ := call_next h3 h7 h4 h8
      have kz : _ := k5 0 (Nat.zero_le _)
      simp only [Nat.sub_zero] at kz
      have kg := Nat.le_trans kz hg
      obtain ⟨h9, h10⟩ := ih3 _ _ _ (k1.mono (Nat.le_add_right _ v.da)) (k2.mono (Nat.le_add_right _ v.da)) h4.nc h8.nc (Nat.add_le_add_right k4 v.da) hs (fun F0 e => by
        subst e
        exact Nat.le_trans (gi_mono (n := F0) (by have := da_grow k3 h43; unfold grow; omega)) kg)
      have hly := ly_le k1
      have hww := Nat.le_trans (Nat.le_trans k3 (gi_ge _ _)) kg
      have hf1 := fuel_le (G := G) h3
      have hf2 := fuel_le (G := G) h7
      refine ⟨by omega, fun u F' e => ?_⟩
      obtain ⟨g1, g2, g3, g4, g5⟩ := h10 u F' e
      have hda := da_grow k3 h43
      have kk := k5 F' (by omega)
      obtain ⟨e1, e2⟩ := call_end g1 hda g2 g3
      refine ⟨by omega, e1.mono kk, Nat.le_trans e2 kk, g4, fun hd => ?_⟩
      have := g5 hd
      have := h44 (by rw [deep_mk3]; omega)
      omega
  | clo0 => intro σ τ X hf hx hm hm' hX hs hg; exact ⟨by omega, fun v F' e => by cases e⟩
  | clo _ ih =>
    intro σ τ X hf hx hm hm' hX hs hg
    cases hf with
    | clo hl _ hd he hw hb hc hn =>
      have hg := hg _ rfl
      have hX : _ ≤ X := Nat.le_trans (Nat.le_add_right _ _) hX
      have hcm : cc _ * w4 ≤ NC * w4 := Nat.mul_le_mul_right w4 hc
      obtain ⟨h1, h2⟩ := ih _ _ X (EnvD.cons ⟨hl, he, hw⟩ hx hX hm') hb hc hn (Nat.le_trans (gi_mono (by omega)) hg)
      refine ⟨?_, fun v F' e => ?_⟩
      · rw [Nat.add_mul]; unfold SB at *; have : NC = 40 := rfl; omega
      · obtain ⟨h3, h4⟩ := h2 v F' e
        rw [Nat.add_sub_cancel]
        have h4 := h4.mono (gi_mono (show X + cc _ * w4 ≤ X + NC * w4 by omega)) (Nat.le_refl _)
        exact ⟨by omega, h4.vd, Nat.le_trans h4.sw (Nat.le_add_right _ _), h4.nc, h4.mm⟩
  | wrapO hc => intro σ τ X hf hx hm hm' hX hs hg; exact ⟨by omega, fun v F' e => by cases e⟩
  | wrapP hc _ ih =>
    intro σ τ X hf hx hm hm' hX hs hg
    cases hf with
    | wrap h0 h1 h2 h3 g0 g1 hq hv =>
      obtain ⟨hi0, hi1, hi2⟩ := hq.inv
      obtain ⟨ha1, ha2⟩ := wd_arg hq
      simp only [V.mm, V.da, V.ly] at *
      rcases castV_vd hx h2 h0 (fits_comm ▸ g0) (fun _ => .sh (.sh hi1) hi0) with ⟨y, hy, p1, p2, p3⟩ | hy
      · rw [hc] at hy; cases hy
        obtain ⟨q1, q2⟩ := ih _ _ X hv p1 (by omega) (by omega) (by omega) hi0 hg
        exact ⟨by omega, fun v F' e => by cases e⟩
      · rw [hc] at hy; cases hy
  | wrap hc _ ih =>
    intro σ τ X hf hx hm hm' hX hs hg
    cases hf with
    | wrap h0 h1 h2 h3 g0 g1 hq hv =>
      obtain ⟨hi0, hi1, hi2⟩ := hq.inv
      obtain ⟨ha1, ha2⟩ := wd_arg hq
      obtain ⟨hb1, hb2⟩ := wd_res hq
      simp only [V.mm, V.da, V.ly] at *
      rcases castV_vd hx h2 h0 (fits_comm ▸ g0) (fun _ => .sh (.sh hi1) hi0) with ⟨y, hy, p1, p2, p3⟩ | hy
      · rw [hc] at hy; cases hy
        obtain ⟨q1, q2⟩ := ih _ _ X hv p1 (by omega) (by omega) (by omega) hi0 hg
        obtain ⟨q3, q4, q5, q6, q7⟩ := q2 _ _ rfl
        refine ⟨by omega, fun v F' e => ?_⟩
        unfold castR at e
        rename_i at'' back _ _ _ _
        rcases castV_vd (at' := at'') (back := back) q4 h1 h3 g1 (fun _ => hi2) with ⟨z, hz, s1, s2, s3⟩ | hz
        · rw [hz] at e
          cases e
          obtain ⟨e1, e2⟩ := res_mm hi2 s3 q6 q7 hm hb2
          exact ⟨q3, s1, by omega, e1, e2⟩
        · rw [hz] at e; cases e
      · rw [hc] at hy; cases hy
  | apN => intro σ τ X hf; cases hf
  | apT => intro σ τ X hf; cases hf
  | apG => intro σ τ X hf; cases hf
def GM : Nat := 377576334
theorem gi_top : gi 100 (40 * w4) ≤ GM := by decide +kernel
/-- THE STACK OF A CHECKED TERM: never more than so much. -/
theorem stack_le {t : Tm} {τ : Ty} {F h : Nat} {r : Res} (ht : HD [] t τ) (hc : cc t ≤ NC) (hn : t.nodes ≤ 80) (hF : F ≤ 100) (he : EvN (.tm t []) F r h) : h ≤ 100000000000 := by
  have hk : NC = 40 := rfl
  have hg : gi F (0 + cc t * w4) ≤ GM := by
    refine Nat.le_trans ?_ gi_top
    have h1 : gi F (0 + cc t * w4) ≤ gi F (40 * w4) := gi_mono (by rw [Nat.zero_add]; exact Nat.mul_le_mul_right _ hc)
    refine Nat.le_trans h1 ?_
    rw [show 100 = (100 - F) + F by omega, ← gi_gi]
    exact gi_ge _ _
  have h1 := (ev_b (G := GM) he [] τ 0 ⟨Nat.zero_le _, fun i v ρ h => by simp at h, fun i v ρ h => by simp at h⟩ ht hc hn hg).1
  have h2 : F * SB GM ≤ 100 * SB GM := Nat.mul_le_mul_right _ hF
  have h3 : SB GM = 377576464 := rfl
  have h4 : GM = 377576334 := rfl
  omega
end Go.Proofs.YtnflnbdlgdjfmaaDoor
