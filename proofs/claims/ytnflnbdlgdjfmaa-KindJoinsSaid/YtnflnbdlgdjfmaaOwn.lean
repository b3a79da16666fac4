/-
  Rows that a call makes: their elements; an append; a slice of one element. Conditions: those typed in each theorem.
-/
import Derived.Test.YtnflnbdlgdjfmaaKindS
namespace Go.Proofs.Ytnflnbdlgdjfmaa
open Go.RowKit
set_option linter.unusedVariables false
set_option linter.unusedSimpArgs false

/-- The cells xs are those of the elements ts, one behind the other. -/
def Reps {α : Type} (E : α → List Value → Prop) : List α → List Value → Prop
  | [], xs => xs = []
  | t :: ts, xs => ∃ c r, xs = c ++ r ∧ E t c ∧ Reps E ts r

theorem Reps.mono {α : Type} {E E' : α → List Value → Prop} (h : ∀ t c, E t c → E' t c) : ∀ {ts : List α} {xs : List Value}, Reps E ts xs → Reps E' ts xs
  | [], _, hr => hr
  | _ :: _, _, ⟨c, r, e, hc, hr⟩ => ⟨c, r, e, h _ _ hc, Reps.mono h hr⟩

theorem Reps.snoc {α : Type} {E : α → List Value → Prop} {t : α} {c : List Value} (hc : E t c) : ∀ {ts : List α} {xs : List Value}, Reps E ts xs → Reps E (ts ++ [t]) (xs ++ c)
  | [], xs, hr => by
    cases hr
    exact ⟨c, [], by simp, hc, rfl⟩
  | _ :: _, _, ⟨d, r, e, hd, hr⟩ => by
    subst e
    exact ⟨d, r ++ c, by simp, hd, Reps.snoc hc hr⟩

theorem Reps.app {α : Type} {E : α → List Value → Prop} : ∀ {ts us : List α} {xs ys : List Value}, Reps E ts xs → Reps E us ys → Reps E (ts ++ us) (xs ++ ys)
  | [], us, xs, ys, hr, hu => by
    cases hr
    exact hu
  | _ :: _, us, _, ys, ⟨d, r, e, hd, hr⟩, hu => by
    subst e
    exact ⟨d, r ++ ys, by simp, hd, Reps.app hr hu⟩

theorem Reps.get {α : Type} {E : α → List Value → Prop} {size : Nat} (hs : ∀ t c, E t c → c.length = size) : ∀ {ts : List α} {xs : List Value}, Reps E ts xs → ∀ i (h : i < ts.length),
    ∃ c, E ts[i] c ∧ ∀ j, j < size → xs[i * size + j]? = c[j]?
  | t :: ts, _, ⟨c, r, e, hc, hr⟩, 0, _ => by
    subst e
    refine ⟨c, hc, fun j hj => ?_⟩
    rw [Nat.zero_mul, Nat.zero_add, List.getElem?_append_left (by rw [hs _ _ hc]; exact hj)]
  | t :: ts, _, ⟨c, r, e, hc, hr⟩, i + 1, h => by
    subst e
    obtain ⟨d, hd, hj⟩ := Reps.get hs hr i (by simpa using h)
    refine ⟨d, hd, fun j hlt => ?_⟩
    rw [List.getElem?_append_right (by rw [hs _ _ hc, Nat.add_mul, Nat.one_mul]; omega), hs _ _ hc]
    have : (i + 1) * size + j - size = i * size + j := by rw [Nat.add_mul, Nat.one_mul]; omega
    rw [this]
    exact hj j hlt

/-- A type's two cells. -/
def TyC (G : Nat → Prop) (w : World) (t : Ty) (c : List Value) : Prop := ∃ s, c = [.int .i64 t.k, s] ∧ TyL G w t.l s
theorem TyC.len {G : Nat → Prop} {w : World} {t : Ty} {c : List Value} (h : TyC G w t c) : c.length = 2 := by obtain ⟨s, rfl, _⟩ := h; rfl
theorem TyC.mono {G G' : Nat → Prop} {w w' : World} (hG : ∀ k, G k → G' k) (hw : ∀ k, G k → k < w.heap.size → w'.heap[k]? = w.heap[k]?) {t : Ty} {c : List Value} (h : TyC G w t c) : TyC G' w' t c := by
  obtain ⟨s, hc, hs⟩ := h
  exact ⟨s, hc, hs.mono hG hw⟩

/-- A row of the call's own, as a list. -/
theorem own_TyL {G G' : Nat → Prop} {w : World} {base : Nat} {e : TypeId} {v : Value} {n : Nat} {xs : List Value} {ts : List Ty} (ho : w.ownsRow base e 2 v n xs) (hr : Reps (TyC G w) ts xs) (hn : n = ts.length)
    (hG : ∀ k, G k → G' k) (hb : ∀ k, v.ownBlock = some k → G' k) : TyL G' w ts v := by
  subst hn
  rcases ho.2 with ⟨rfl, h0⟩ | ⟨g, cap, cur, rfl, hg, hh, hle, hmax, hsz, htake⟩
  · have : ts = [] := List.eq_nil_of_length_eq_zero h0
    subst this
    exact TyL.nil _ _
  · refine TyL.of_cells rfl (Nat.le_trans hle hmax) (hb g rfl) fun i hi => ?_
    obtain ⟨c, ⟨s, rfl, hs⟩, hj⟩ := hr.get (fun _ _ h => h.len) i hi
    have hcell : ∀ j u, xs[j]? = some u → w.cell? ⟨g, j, none⟩ = some u := fun j u hu => by
      have := ho.cells (g := g) rfl j u hu
      rwa [show (⟨g, 0, none⟩ : Addr).add j = ⟨g, j, none⟩ by unfold Addr.add; split <;> simp_all] at this
    refine ⟨s, ?_, ?_, hs.weaken hG⟩
    · rw [Nat.zero_add]; exact hcell _ _ (by rw [← Nat.add_zero (i * 2), hj 0 (by decide)]; rfl)
    · rw [Nat.zero_add]; exact hcell _ _ (by rw [hj 1 (by decide)]; rfl)

/-- A later world, as growth. -/
theorem Ext.grown {a b : World} (h : Ext a b) (row : Option Nat) : a.grownBy b row := ⟨h.os, h.tape, h.output, Below.size h, fun k hk _ => Below.block h k hk⟩
theorem own_ext {w w' : World} {base : Nat} {e : TypeId} {size : Nat} {v : Value} {n : Nat} {xs : List Value} (h : w.ownsRow base e size v n xs) (hx : Ext w w') : w'.ownsRow base e size v n xs :=
  h.kept (row := none) (hx.grown none) (by cases hv : v.ownBlock <;> simp)
theorem own_set {w : World} {base : Nat} {e : TypeId} {size : Nat} {v : Value} {n : Nat} {xs : List Value} (h : w.ownsRow base e size v n xs) {p : Addr} (hp : v.ownBlock ≠ some p.block) (u : Value) : (w.setCell p u).ownsRow base e size v n xs :=
  h.kept (row := some p.block) ⟨rfl, rfl, rfl, by simp [World.setCell], fun k _ hk => Below.heap_setCell w p u k (fun e => hk (by rw [e]))⟩ (.inr hp)

section
variable {P : Program} {w : World}
/-- An append to a row of the call's own: it stays in its block, or goes to a new one. -/
theorem run_append_row (t ty e : TypeId) (i : TypeInfo) (z : Value) (size bytes : Nat) (ht : P.underlying t = some (.slice e)) (hi : P.info? e = some i) (hz : i.zero = some z)
    (hsize : i.size = size) (hby : i.bytes = bytes) (hzs : z.cells.size = size) (hsz : 0 < size) (v : Value) (n : Nat) (xs : List Value) (hown : w.ownsRow 0 e size v n xs)
    (a : Addr) (m c : Nat) (news : List Value) (hl : news.length = m * size) (hnews : ∀ j u, news[j]? = some u → w.cell? (a.add j) = some u) (h1 : ∀ u ∈ news, u.oneCell' = true)
    (h63 : n + m ≤ maxLen) (hbytes : (n + m) * bytes ≤ 140737488355328) :
    ∃ v' w', (Builtin.append_ #[t, t] ty #[v, .slice (some a) m c]).run P w = .ok v' w' ∧ w'.ownsRow 0 e size v' (n + m) (xs ++ news) ∧ w.grownBy w' v.ownBlock ∧
      (v'.ownBlock = v.ownBlock ∨ ∀ k, v'.ownBlock = some k → w.heap.size ≤ k) := by
  obtain ⟨v', w', hr, h2, h3, h4⟩ := run_append_own (P := P) w 0 t ty e i z size bytes ht hi hz hsize hby hzs hsz v n xs hown a m c news hl hnews h1 h63 hbytes (Nat.zero_le _)
  refine ⟨v', w', hr, h2, h3, ?_⟩
  subst hsize
  subst hby
  have hm : n + m ≤ 9223372036854775807 := by simp only [maxLen] at h63; omega
  have same : ∀ {v1 : Value} {w1 : World}, (Builtin.append_ #[t, t] ty #[v, .slice (some a) m c]).run P w = .ok v1 w1 → v' = v1 := fun h => by
    rw [hr] at h
    injection h
  rcases hown.2 with ⟨rfl, rfl⟩ | ⟨g, cap, cur, rfl, _, hg, hnc, hcm, hcs, htake⟩
  · by_cases hm0 : m = 0
    · rw [h4.2 ⟨rfl, hm0⟩]
      exact .inl rfl
    · have := same (run_append_nil (P := P) w t ty e i z ht hi hz a m c news hl hnews (by omega) (by omega) (by rw [Nat.zero_add] at hbytes; omega))
      subst this
      exact .inr fun k hk => by simp [Value.ownBlock] at hk; omega
  · by_cases hroom : n + m ≤ cap
    · have hfit : n * i.size + news.length ≤ cur.size := by rw [hl, hcs, ← Nat.add_mul]; exact Nat.mul_le_mul_right _ hroom
      have := same (run_append_room (P := P) w t ty e i ht hi g n cap cur hg a m c news hl hnews h1 hroom hfit)
      subst this
      exact .inl rfl
    · have := same (run_append_grow (P := P) w t ty e i z ht hi hz ⟨g, 0, none⟩ n cap xs hown.1 (hown.cells (g := g) rfl) a m c news hl hnews (by omega) (by omega) (growslice_fits (by omega) hbytes))
      subst this
      exact .inr fun k hk => by simp [Value.ownBlock] at hk; omega

/-- The same in a walk. -/
theorem wpList_append_row {ops : Array Oper} {rest : List Oper} {o : Oper} {a : Act} {Q : Exit → Act → World → Prop} (hgd : o.guard = none) (s x : Operand) (t : TypeId)
    (ho : o.op = .call { callee := .builtin .append, args := #[s, x], argTypes := #[t, t] })
    (e : TypeId) (i : TypeInfo) (z : Value) (size bytes : Nat) (ht : P.underlying t = some (.slice e)) (hi : P.info? e = some i) (hz : i.zero = some z)
    (hsize : i.size = size) (hby : i.bytes = bytes) (hzs : z.cells.size = size) (hsz : 0 < size)
    (v : Value) (n : Nat) (xs : List Value) (hs : a.eval s = v) (hown : w.ownsRow 0 e size v n xs)
    (ad : Addr) (m c : Nat) (news : List Value) (hx : a.eval x = .slice (some ad) m c) (hl : news.length = m * size) (hnews : ∀ j u, news[j]? = some u → w.cell? (ad.add j) = some u) (h1 : ∀ u ∈ news, u.oneCell' = true)
    (h63 : n + m ≤ maxLen) (hbytes : (n + m) * bytes ≤ 140737488355328)
    (h : ∀ v' w', w'.ownsRow 0 e size v' (n + m) (xs ++ news) → w.grownBy w' v.ownBlock → (v'.ownBlock = v.ownBlock ∨ ∀ k, v'.ownBlock = some k → w.heap.size ≤ k) → wpList P ops Q rest (a.put o.dst v') w') : wpList P ops Q (o :: rest) a w := by
  refine wpList_plain hgd fun _ hK => ?_
  obtain ⟨v', w', hr, h2, h3, h4⟩ := run_append_row (P := P) (w := w) t o.type e i z size bytes ht hi hz hsize hby hzs hsz v n xs hown ad m c news hl hnews h1 h63 hbytes
  unfold Oper.wp execOp
  simp only [ho, resolve, invoke, builtin, Sem.run_bind, Sem.run_pure, Result.andThen_ok, List.map_toArray, List.map_cons, List.map_nil, hs, hx, hr]
  exact hK _ _ (h v' w' h2 h3 h4)
end

/-- A row's value is a slice. -/
theorem own_form {w : World} {base : Nat} {e : TypeId} {size : Nat} {v : Value} {n : Nat} {xs : List Value} (h : w.ownsRow base e size v n xs) : ∃ a c, v = .slice a n c := by
  rcases h.2 with ⟨rfl, rfl⟩ | ⟨g, cap, cur, rfl, _⟩
  · exact ⟨_, _, rfl⟩
  · exact ⟨_, _, rfl⟩
theorem own_lt {w : World} {base : Nat} {e : TypeId} {size : Nat} {v : Value} {n : Nat} {xs : List Value} (h : w.ownsRow base e size v n xs) {k : Nat} (hk : v.ownBlock = some k) : k < w.heap.size := (h.lt k hk).2

/-- What an element's cells say, in the blocks of which G holds: kept by worlds that keep those blocks. -/
structure ElemRel {α : Type} (E : (Nat → Prop) → World → α → List Value → Prop) : Prop where
  mono : ∀ {G G' : Nat → Prop} {w w' : World} {t : α} {c : List Value}, (∀ k, G k → G' k) → (∀ k, G k → k < w.heap.size → w'.heap[k]? = w.heap[k]?) → E G w t c → E G' w' t c
  fresh : ∀ {G : Nat → Prop} {w : World} {t : α} {c : List Value}, E G w t c → E (fun k => G k ∧ k < w.heap.size) w t c

theorem tyC_rel : ElemRel TyC where
  mono := fun hG hw h => h.mono hG hw
  fresh := fun ⟨s, hc, hs⟩ => ⟨s, hc, hs.fresh⟩

/-- A row that is being built, its head held in a block 'lo': what lies below lo is as it was. -/
structure Build {α : Type} (E : (Nat → Prop) → World → α → List Value → Prop) (e : TypeId) (size : Nat) (lo : Nat) (W0 w : World) (v : Value) (ts : List α) (xs : List Value) (G : Nat → Prop) : Prop where
  below : Below lo W0 w
  lt : lo < w.heap.size
  own : w.ownsRow 0 e size v ts.length xs
  blk : ∀ k, v.ownBlock = some k → lo < k
  reps : Reps (E G w) ts xs
  reg : ∀ k, G k → lo < k ∧ v.ownBlock ≠ some k

theorem Build.start {α : Type} {E : (Nat → Prop) → World → α → List Value → Prop} {e : TypeId} {size lo : Nat} {W0 : World} (h : lo < W0.heap.size) : Build E e size lo W0 W0 (.slice none 0 0) [] [] (fun _ => False) :=
  ⟨Below.refl _ _, h, World.ownsRow_nil _ _ _ _, fun k hk => (by cases hk), rfl, fun k hk => False.elim hk⟩

/-- A later world. -/
theorem Build.ext {α : Type} {E : (Nat → Prop) → World → α → List Value → Prop} (hE : ElemRel E) {e : TypeId} {size lo : Nat} {W0 w w' : World} {v : Value} {ts : List α} {xs : List Value} {G : Nat → Prop}
    (h : Build E e size lo W0 w v ts xs G) (hx : Ext w w') : Build E e size lo W0 w' v ts xs G :=
  ⟨h.below.trans (Below.mono hx (Nat.le_of_lt h.lt)), Nat.lt_of_lt_of_le h.lt hx.size, own_ext h.own hx, h.blk, h.reps.mono fun t c hc => hE.mono (fun _ h => h) (fun k _ hk => Below.block hx k hk) hc, h.reg⟩

/-- A store into a block at or above lo that is neither the row's nor an element's. -/
theorem Build.set {α : Type} {E : (Nat → Prop) → World → α → List Value → Prop} (hE : ElemRel E) {e : TypeId} {size lo : Nat} {W0 w : World} {v : Value} {ts : List α} {xs : List Value} {G : Nat → Prop}
    (h : Build E e size lo W0 w v ts xs G) {p : Addr} (hp : lo ≤ p.block) (hv : v.ownBlock ≠ some p.block) (hG : ¬ G p.block) (u : Value) : Build E e size lo W0 (w.setCell p u) v ts xs G :=
  ⟨h.below.setCell hp u, by simpa [World.setCell] using h.lt, own_set h.own hv u, h.blk, h.reps.mono fun t c hc => hE.mono (fun _ h => h) (fun k hk _ => Below.heap_setCell w p u k (fun e => hG (e ▸ hk))) hc, h.reg⟩

/-- One element more: the row, behind an append. -/
theorem Build.snoc {α : Type} {E : (Nat → Prop) → World → α → List Value → Prop} (hE : ElemRel E) {e : TypeId} {size lo : Nat} {W0 wr w1 w2 : World} {v v' : Value} {ts : List α} {t : α} {xs c : List Value} {G G1 : Nat → Prop}
    (h : Build E e size lo W0 wr v ts xs G) (hx : Ext wr w1) (ht : E G1 w1 t c) (hG1 : ∀ k, G1 k → lo < k ∧ v.ownBlock ≠ some k)
    (hown : w2.ownsRow 0 e size v' (ts.length + 1) (xs ++ c)) (hg : w1.grownBy w2 v.ownBlock) (hv : v'.ownBlock = v.ownBlock ∨ ∀ k, v'.ownBlock = some k → w1.heap.size ≤ k) :
    Build E e size lo W0 w2 v' (ts ++ [t]) (xs ++ c) (fun k => lo < k ∧ v.ownBlock ≠ some k ∧ v'.ownBlock ≠ some k) := by
  have h1 := h.ext hE hx
  have hkeep : ∀ (k : Nat) (G : Nat → Prop), (∀ k, G k → lo < k ∧ v.ownBlock ≠ some k) → (G k ∧ k < w1.heap.size) → (lo < k ∧ v.ownBlock ≠ some k ∧ v'.ownBlock ≠ some k) := by
    intro k G hG hk
    refine ⟨(hG k hk.1).1, (hG k hk.1).2, fun e => ?_⟩
    rcases hv with hv | hv
    · exact (hG k hk.1).2 (hv ▸ e)
    · have := hv k e
      omega
  have hblock : ∀ k, v.ownBlock ≠ some k → k < w1.heap.size → w2.heap[k]? = w1.heap[k]? := fun k hk hlt => hg.block k hlt (fun e => hk e.symm)
  refine ⟨h1.below.grown hg (Nat.le_of_lt h1.lt) (fun k hk => Nat.le_of_lt (h.blk k hk)), Nat.lt_of_lt_of_le h1.lt hg.size, by rw [List.length_append]; exact hown, fun k hk => ?_, Reps.snoc ?_ ?_, fun k hk => ⟨hk.1, hk.2.2⟩⟩
  · rcases hv with hv | hv
    · exact h.blk k (hv ▸ hk)
    · exact Nat.lt_of_lt_of_le h1.lt (hv k hk)
  · exact hE.mono (fun k hk => hkeep k G1 hG1 hk) (fun k hk hlt => hblock k (hG1 k hk.1).2 hlt) (hE.fresh ht)
  · exact h1.reps.mono fun t c hc => hE.mono (fun k hk => hkeep k G h.reg hk) (fun k hk hlt => hblock k (h.reg k hk.1).2 hlt) (hE.fresh hc)
end Go.Proofs.Ytnflnbdlgdjfmaa
