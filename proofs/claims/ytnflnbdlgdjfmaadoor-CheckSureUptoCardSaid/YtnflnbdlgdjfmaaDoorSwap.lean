/-
  A region that draws its order comes to what it comes to in the order of the text, where operations that are not ordered may be swapped. Conditions: those typed in each theorem.
-/
import Derived.WalkKit
namespace Go.Proofs.YtnflnbdlgdjfmaaDoor
set_option linter.unusedVariables false

section
variable {S : Type} (stp : Nat → S → S → Prop)

/-- The operations of the list, one behind the other. -/
def Chain : List Nat → S → S → Prop
  | [], s, s' => s = s'
  | i :: l, s, s' => ∃ s1, stp i s s1 ∧ Chain l s1 s'

variable {stp}
theorem chain_front {inv : S → Prop} {ord : Nat → Nat → Prop} (hinv : ∀ i s s', inv s → stp i s s' → inv s')
    (hswap : ∀ i j s s1 s2, i < j → ¬ ord j i → inv s → stp i s s1 → stp j s1 s2 → ∃ s1', stp j s s1' ∧ stp i s1' s2) (i : Nat) :
    ∀ (l1 l2 : List Nat) (s sn : S), inv s → (∀ j ∈ l1, j < i ∧ ¬ ord i j) → Chain stp (l1 ++ i :: l2) s sn → ∃ s', stp i s s' ∧ Chain stp (l1 ++ l2) s' sn
  | [], l2, s, sn, _, _, ⟨s1, h1, h2⟩ => ⟨s1, h1, h2⟩
  | k :: l1, l2, s, sn, hi, hl, ⟨s1, h1, h2⟩ => by
    obtain ⟨s2, h3, h4⟩ := chain_front hinv hswap i l1 l2 s1 sn (hinv _ _ _ hi h1) (fun j hj => hl j (List.mem_cons_of_mem _ hj)) h2
    obtain ⟨hlt, hno⟩ := hl k (List.mem_cons_self ..)
    obtain ⟨s1', h5, h6⟩ := hswap k i s s1 s2 hlt hno hi h1 h3
    exact ⟨s1', h5, s2, h6, h4⟩
end

/-- All binding edges lead to earlier operations. -/
def edgesDown (ops : Array Oper) : Bool :=
  (List.range ops.size).all fun i => match ops[i]? with
    | none => true
    | some o => o.after.all fun e => !Region.binds .any e || decide (e.on < i)

/-- What comes ahead of an operation, as bits. -/
def maskOf (o : Oper) (acc : List Nat) : Nat := o.after.toList.foldl (fun s e => if Region.binds .any e then s ||| 2 ^ e.on ||| acc.getD e.on 0 else s) 0
def masks : List Oper → List Nat → List Nat
  | [], acc => acc
  | o :: l, acc => masks l (acc ++ [maskOf o acc])
/-- Operation j comes behind operation i, whatever is drawn. -/
def behind (ops : Array Oper) (j i : Nat) : Bool := ((masks ops.toList []).getD j 0).testBit i

/-- Listed operations have their earlier ones listed. -/
def ClosedIn (ops : Array Oper) (listed : Array Bool) : Prop :=
  ∀ (i : Nat) (o : Oper), ops[i]? = some o → listed.getD i false = true → ∀ e ∈ o.after, Region.binds .any e = true → listed.getD e.on false = true

theorem maskOf_bits {P : Nat → Prop} {acc : List Nat} {i : Nat} : ∀ (l : List Edge) (s : Nat), (s.testBit i = true → P i) →
    (∀ e ∈ l, Region.binds .any e = true → P e.on ∧ ((acc.getD e.on 0).testBit i = true → P i)) →
    (l.foldl (fun s e => if Region.binds .any e then s ||| 2 ^ e.on ||| acc.getD e.on 0 else s) s).testBit i = true → P i
  | [], s, hs, _, h => hs h
  | e :: l, s, hs, he, h => by
    rw [List.foldl_cons] at h
    refine maskOf_bits l _ ?_ (fun e' h' => he e' (List.mem_cons_of_mem _ h')) h
    intro ht
    split at ht
    · rename_i hb
      have h1 := he e (List.mem_cons_self ..) hb
      simp only [Nat.testBit_or, Bool.or_eq_true, Nat.testBit_two_pow, decide_eq_true_eq] at ht
      rcases ht with (h2 | h2) | h2
      · exact hs h2
      · subst h2; exact h1.1
      · exact h1.2 h2
    · exact hs ht

theorem masks_listed {ops : Array Oper} {listed : Array Bool} (hcl : ClosedIn ops listed) :
    ∀ (l : List Oper) (acc : List Nat), (∀ m o, l[m]? = some o → ops[acc.length + m]? = some o) →
      (∀ k o, k < acc.length → ops[k]? = some o → (∀ e ∈ o.after, Region.binds .any e = true → listed.getD e.on false = true) → ∀ i, (acc.getD k 0).testBit i = true → listed.getD i false = true) →
      ∀ k o, k < acc.length + l.length → ops[k]? = some o → (∀ e ∈ o.after, Region.binds .any e = true → listed.getD e.on false = true) →
        ∀ i, ((masks l acc).getD k 0).testBit i = true → listed.getD i false = true
  | [], acc, _, h => fun k o hk ho hall i ht => h k o (by simpa using hk) ho hall i ht
  | x :: l, acc, hl, h => by
    refine fun k o hk ho hall i ht => masks_listed hcl l (acc ++ [maskOf x acc]) ?_ ?_ k o (by simp at hk ⊢; omega) ho hall i ht
    · intro m o hm
      have := hl (m + 1) o (by simpa using hm)
      rw [List.length_append, List.length_singleton, Nat.add_assoc, Nat.add_comm 1 m]
      exact this
    · intro k o hlt ho hall i ht
      by_cases hk : k < acc.length
      · refine h k o hk ho hall i ?_
        rwa [List.getD_eq_getElem?_getD, List.getElem?_append_left hk, ← List.getD_eq_getElem?_getD] at ht
      · have hke : k = acc.length := by simp at hlt; omega
        subst hke
        rw [List.getD_eq_getElem?_getD, List.getElem?_append_right (Nat.le_refl _), Nat.sub_self] at ht
        have hox : x = o := by
          have := hl 0 x (by simp)
          rw [Nat.add_zero, ho] at this
          exact (Option.some.inj this).symm
        subst hox
        refine maskOf_bits (P := fun i => listed.getD i false = true) (acc := acc) (i := i) x.after.toList 0 (by simp) (fun e he hb => ?_) ht
        have h1 := hall e (by simpa using he) hb
        refine ⟨h1, fun h2 => ?_⟩
        by_cases hlt2 : e.on < acc.length
        · by_cases hsz : e.on < ops.size
          · exact h e.on ops[e.on] hlt2 (by simp [hsz]) (fun e' he' hb' => hcl e.on ops[e.on] (by simp [hsz]) h1 e' he' hb') i h2
          · have h3 := hl 0 x (by simp)
            have := (Array.getElem?_eq_some_iff.1 h3).1
            omega
        · rw [List.getD_eq_getElem?_getD, List.getElem?_eq_none (by omega)] at h2
          simp at h2

theorem behind_listed {ops : Array Oper} {listed : Array Bool} (hcl : ClosedIn ops listed) {j i : Nat} {o : Oper} (ho : ops[j]? = some o)
    (hall : ∀ e ∈ o.after, Region.binds .any e = true → listed.getD e.on false = true) (h : behind ops j i = true) : listed.getD i false = true := by
  have hlt : j < ops.size := (Array.getElem?_eq_some_iff.1 ho).1
  exact masks_listed hcl ops.toList [] (fun m o hm => by simpa using hm) (fun k o hk => absurd hk (Nat.not_lt_zero _)) j o (by simpa using hlt) ho hall i h

theorem wpOp_mono {P : Program} {ops : Array Oper} {Q : Exit → Act → World → Prop} {i : Nat} {K K' : Act → World → Prop} {a : Act} {w : World} (hk : ∀ a w, K a w → K' a w) (h : wpOp P ops Q i K a w) : wpOp P ops Q i K' a w := by
  unfold wpOp at *
  cases ho : ops[i]? with
  | none => rw [ho] at h; exact hk _ _ h
  | some o =>
    rw [ho] at h
    simp only at *
    split
    · rename_i hw
      rw [if_pos hw] at h
      exact h.imp (Oper.wp_mono hk) id
    · rename_i hw
      rw [if_neg hw] at h
      exact hk _ _ h

section
variable {P : Program} {ops : Array Oper} {Q : Exit → Act → World → Prop} {S : Type} {stp : Nat → S → S → Prop} {sim : S → Act → World → Prop} {inv : S → Prop}

theorem wpAny_swap (hdown : edgesDown ops = true) (hinv : ∀ i s s', inv s → stp i s s' → inv s')
    (hswap : ∀ i j s s1 s2, i < j → j < ops.size → ¬ behind ops j i = true → inv s → stp i s s1 → stp j s1 s2 → ∃ s1', stp j s s1' ∧ stp i s1' s2)
    (hsim : ∀ i s s' a w, i < ops.size → inv s → sim s a w → stp i s s' → wpOp P ops Q i (sim s') a w) {sn : S} (hQ : ∀ a w, sim sn a w → Q .normal a w) :
    ∀ (l : List Nat) (listed : Array Bool) (s : S) (a : Act) (w : World), listed.size = ops.size → ClosedIn ops listed → l.Pairwise (· < ·) → (∀ i, i ∈ l ↔ i < ops.size ∧ listed.getD i false = false) →
      inv s → sim s a w → Chain stp l s sn → wpAny P .any ops Q l.length listed a w := by
  intro l
  induction hn : l.length generalizing l with
  | zero =>
    intro listed s a w hsz hcl hp hl hi hs hc
    have : l = [] := List.eq_nil_of_length_eq_zero hn
    subst this
    cases hc
    refine ⟨?_, hQ a w hs⟩
    apply List.eq_nil_iff_forall_not_mem.2
    intro j hj
    obtain ⟨h1, o, ho, _⟩ := mem_ready.1 hj
    have hlt : j < ops.size := (Array.getElem?_eq_some_iff.1 ho).1
    have := (hl j).2 ⟨hlt, by rw [Array.getD_eq_getD_getElem?] at h1 ⊢; rw [Array.getElem?_eq_getElem (by omega)] at h1 ⊢; exact h1⟩
    cases this
  | succ n ih =>
    intro listed s a w hsz hcl hp hl hi hs hc
    have hun : ∀ j, j ∈ Region.ready .any ops listed → j ∈ l ∧ ∀ k ∈ l, ¬ behind ops j k = true := by
      intro j hj
      obtain ⟨h1, o, ho, hall⟩ := mem_ready.1 hj
      have hlt : j < ops.size := (Array.getElem?_eq_some_iff.1 ho).1
      refine ⟨(hl j).2 ⟨hlt, by rw [Array.getD_eq_getD_getElem?] at h1 ⊢; rw [Array.getElem?_eq_getElem (by omega)] at h1 ⊢; exact h1⟩, fun k hk hw => ?_⟩
      have h2 := behind_listed hcl ho hall hw
      rw [((hl k).1 hk).2] at h2
      cases h2
    refine ⟨fun hempty => ?_, fun j hj => ?_⟩
    · exfalso
      cases l with
      | nil => cases hn
      | cons m l' =>
        have hm := (hl m).1 (List.mem_cons_self ..)
        have hin : m ∈ Region.ready .any ops listed := by
          refine mem_ready.2 ⟨?_, ops[m], by simp [hm.1], fun e he hb => ?_⟩
          · have h3 := hm.2
            rw [Array.getD_eq_getD_getElem?] at h3 ⊢; rw [Array.getElem?_eq_getElem (by omega)] at h3 ⊢; exact h3
          · have h4 := List.all_eq_true.1 hdown m (List.mem_range.2 hm.1)
            have h5 : (ops[m]?) = some ops[m] := by simp [hm.1]
            rw [h5] at h4
            have h6 := Array.all_eq_true'.1 h4 e he
            simp only [hb, Bool.not_true, Bool.false_or, decide_eq_true_eq] at h6
            cases h7 : listed.getD e.on false with
            | true => rfl
            | false =>
              have h8 := (hl e.on).2 ⟨by omega, h7⟩
              rcases List.mem_cons.1 h8 with h9 | h9
              · omega
              · have := (List.pairwise_cons.1 hp).1 _ h9; omega
        rw [hempty] at hin
        cases hin
    · obtain ⟨hjl, hno⟩ := hun j hj
      obtain ⟨l1, l2, rfl⟩ := List.append_of_mem hjl
      have hlt1 : ∀ k ∈ l1, k < j := fun k hk => (List.pairwise_append.1 hp).2.2 k hk j (List.mem_cons_self ..)
      have hjlt := ((hl j).1 hjl).1
      have hmem : ∀ k, k ∈ l1 → k < ops.size := fun k hk => ((hl k).1 (List.mem_append_left _ hk)).1
      -- swaps within bounds
      have key : ∀ (l1 l2 : List Nat) (s sn : S), inv s → (∀ k ∈ l1, k < j ∧ ¬ behind ops j k = true) → Chain stp (l1 ++ j :: l2) s sn → ∃ s', stp j s s' ∧ Chain stp (l1 ++ l2) s' sn := by
        intro l1
        induction l1 with
        | nil => intro l2 s sn _ _ ⟨s1, h1, h2⟩; exact ⟨s1, h1, h2⟩
        | cons k l1 ih2 =>
          intro l2 s sn hi hl ⟨s1, h1, h2⟩
          obtain ⟨s2, h3, h4⟩ := ih2 l2 s1 sn (hinv _ _ _ hi h1) (fun j hj => hl j (List.mem_cons_of_mem _ hj)) h2
          obtain ⟨hlt, hno⟩ := hl k (List.mem_cons_self ..)
          obtain ⟨s1', h5, h6⟩ := hswap k j s s1 s2 hlt hjlt hno hi h1 h3
          exact ⟨s1', h5, s2, h6, h4⟩
      obtain ⟨s', h1, h2⟩ := key l1 l2 s sn hi (fun k hk => ⟨hlt1 k hk, hno k (List.mem_append_left _ hk)⟩) hc
      refine wpOp_mono (fun a' w' hs' => ?_) (hsim j s s' a w hjlt hi hs h1)
      have hlen : (l1 ++ l2).length = n := by simp at hn ⊢; omega
      refine ih (l1 ++ l2) hlen (listed.setIfInBounds j true) s' a' w' (by simp [hsz]) ?_ ?_ ?_ (hinv _ _ _ hi h1) hs' h2
      · intro i o ho hl' e he hb
        have hmono : ∀ m, listed.getD m false = true → (listed.setIfInBounds j true).getD m false = true := fun m hm => by
          by_cases hjm : j = m
          · subst hjm; simp [hsz, hjlt]
          · simpa only [Array.getD_eq_getD_getElem?, Array.getElem?_setIfInBounds_ne hjm] using hm
        by_cases hij : j = i
        · subst hij
          obtain ⟨_, o', ho', hall⟩ := mem_ready.1 hj
          obtain rfl : o = o' := Option.some.inj (ho.symm.trans ho')
          exact hmono _ (hall e he hb)
        · rw [Array.getD_eq_getD_getElem?, Array.getElem?_setIfInBounds_ne hij, ← Array.getD_eq_getD_getElem?] at hl'
          exact hmono _ (hcl i o ho hl' e he hb)
      · exact hp.sublist (List.Sublist.append_left (List.sublist_cons_self j l2) l1)
      · intro k
        have hnd : ¬ j ∈ l1 ++ l2 := by
          intro hin
          rcases List.mem_append.1 hin with h | h
          · exact absurd (hlt1 j h) (Nat.lt_irrefl _)
          · have := (List.pairwise_cons.1 (List.pairwise_append.1 hp).2.1).1 j h; omega
        by_cases hkj : j = k
        · subst hkj
          constructor
          · intro h; exact absurd h hnd
          · rintro ⟨_, h⟩
            simp [hsz, hjlt] at h
        · have h3 := hl k
          have h4 : (listed.setIfInBounds j true).getD k false = listed.getD k false := by
            simp only [Array.getD_eq_getD_getElem?, Array.getElem?_setIfInBounds_ne hkj]
          rw [h4, ← h3]
          simp only [List.mem_append, List.mem_cons]
          constructor
          · rintro (h | h)
            · exact .inl h
            · exact .inr (.inr h)
          · rintro (h | rfl | h)
            · exact .inl h
            · exact absurd rfl hkj
            · exact .inr h

/-- The region, drawn. -/
theorem wp_region_swap {id : Nat} {a : Act} {w : World} (hmix : P.follows .mixedOrders = true) (hdown : edgesDown ops = true) (hinv : ∀ i s s', inv s → stp i s s' → inv s')
    (hswap : ∀ i j s s1 s2, i < j → j < ops.size → ¬ behind ops j i = true → inv s → stp i s s1 → stp j s1 s2 → ∃ s1', stp j s s1' ∧ stp i s1' s2)
    (hsim : ∀ i s s' a w, i < ops.size → inv s → sim s a w → stp i s s' → wpOp P ops Q i (sim s') a w) {s sn : S} (hQ : ∀ a w, sim sn a w → Q .normal a w)
    (hi : inv s) (hs : sim s a { w with drawn := w.drawn + 1 }) (hc : Chain stp (List.range ops.size) s sn) : (Code.region id ops true).wp P Q a w := by
  refine wp_region_any hmix ?_
  have := wpAny_swap hdown hinv hswap hsim hQ (List.range ops.size) (Array.replicate ops.size false) s a { w with drawn := w.drawn + 1 } (by simp) (fun i o _ h => by simp [Array.getElem?_replicate] at h; split at h <;> simp at h) List.pairwise_lt_range (fun i => ?_) hi hs hc
  · rwa [List.length_range] at this
  · simp only [List.mem_range, Array.getD_eq_getD_getElem?]
    constructor
    · intro h; exact ⟨h, by simp [h]⟩
    · exact fun h => h.1

/-- The region in the order of the text. -/
theorem wp_region_text {id : Nat} {a : Act} {w : World} (hinv : ∀ i s s', inv s → stp i s s' → inv s')
    (hsim : ∀ i s s' a w, i < ops.size → inv s → sim s a w → stp i s s' → wpOp P ops Q i (sim s') a w) {s sn : S} (hQ : ∀ a w, sim sn a w → Q .normal a w)
    (hi : inv s) (hs : sim s a w) (hc : Chain stp (List.range ops.size) s sn) : (Code.region id ops false).wp P Q a w := by
  refine wp_region ?_
  have key : ∀ (l : List Nat) (s : S) (a : Act) (w : World), (∀ i ∈ l, i < ops.size) → inv s → sim s a w → Chain stp l s sn → wpOps P ops Q l a w := by
    intro l
    induction l with
    | nil => intro s a w _ _ hs hc; cases hc; exact hQ a w hs
    | cons i l ih =>
      intro s a w hl hi hs ⟨s1, h1, h2⟩
      rw [wpOps_cons]
      exact wpOp_mono (fun a' w' hs' => ih s1 a' w' (fun j hj => hl j (List.mem_cons_of_mem _ hj)) (hinv _ _ _ hi h1) hs' h2) (hsim i s s1 a w (hl i (List.mem_cons_self ..)) hi hs h1)
  exact key _ s a w (fun i h => List.mem_range.1 h) hi hs hc
end
end Go.Proofs.YtnflnbdlgdjfmaaDoor
