/-
  What single operations do, kind by kind (7): append. Conditions: those typed in each theorem.
-/
import Derived.Test.YtnflnbdlgdjfmaaDoorOp6
namespace Go.Proofs.YtnflnbdlgdjfmaaDoor
open Go.RowKit
set_option linter.unusedVariables false
set_option linter.unusedSimpArgs false

/-- Some elements of before, and new ones behind them. -/
theorem rows_snoc {R R' : C → Value → Prop} {k n : Nat} {rows news : List (List C)} {cs cs' : Array Value} {nv : List Value} (hn : n ≤ rows.length)
    (hrows : ∀ (i : Nat) row, rows[i]? = some row → row.length = k ∧ ∀ (j : Nat) c, row[j]? = some c → ∃ u, cs[i * k + j]? = some u ∧ R c u)
    (hnews : ∀ (i : Nat) row, news[i]? = some row → ∀ (j : Nat) c, row[j]? = some c → ∃ u, nv[i * k + j]? = some u ∧ R' c u) (hk : ∀ r ∈ news, r.length = k)
    (h1 : ∀ q, q < n * k → cs'[q]? = cs[q]?) (h2 : ∀ (q : Nat) u, nv[q]? = some u → cs'[n * k + q]? = some u) :
    ∀ (i : Nat) row, (rows.take n ++ news)[i]? = some row → row.length = k ∧ ∀ (j : Nat) c, row[j]? = some c → ∃ u, cs'[i * k + j]? = some u ∧ ((row ∈ rows ∧ R c u) ∨ R' c u) := by
  intro i row hi
  have hl : (rows.take n).length = n := by rw [List.length_take]; omega
  by_cases hin : i < n
  · rw [List.getElem?_append_left (by omega), List.getElem?_take_of_lt hin] at hi
    obtain ⟨h3, h4⟩ := hrows i row hi
    refine ⟨h3, fun j c hc => ?_⟩
    obtain ⟨u, hu, hr⟩ := h4 j c hc
    have hjk : j < k := by rw [← h3]; exact (List.getElem?_eq_some_iff.1 hc).1
    have : (i + 1) * k ≤ n * k := Nat.mul_le_mul_right k hin
    rw [Nat.succ_mul] at this
    exact ⟨u, (h1 _ (by omega)).trans hu, .inl ⟨List.mem_of_getElem? hi, hr⟩⟩
  · rw [List.getElem?_append_right (by omega), hl] at hi
    refine ⟨hk row (List.mem_of_getElem? hi), fun j c hc => ?_⟩
    obtain ⟨u, hu, hr⟩ := hnews (i - n) row hi j c hc
    refine ⟨u, ?_, .inr hr⟩
    have := h2 _ u hu
    rwa [show n * k + ((i - n) * k + j) = i * k + j by rw [← Nat.add_assoc, ← Nat.add_mul]; congr 2; omega] at this

section ops
variable {P : Program} {s : St} {dst : Option Tmp} {rt : TypeId} {pos : String} {after : Array Edge} {guard : Option (Nat × Bool)}

theorem exec_append {P : Program} {o : Oper} {x y : Operand} {t : TypeId} {ev : Operand → Value} {w w' : World} {v : Value} (ho : o.op = .call ⟨.builtin .append, #[x, y], #[t, t]⟩) (h : (Builtin.append_ #[t, t] o.type #[ev x, ev y]).run P w = .ok v w') :
    (execOp ev o).run P w = .ok (.value v) w' := by
  unfold execOp
  simp only [ho, resolve, invoke, builtin, Sem.run_bind, Sem.run_pure, Result.andThen_ok, List.map_toArray, List.map_cons, List.map_nil, h]

theorem grown_cells {olds news : List Value} {z : Array Value} {k n m cap : Nat} (ho : olds.length = n * k) (hn : news.length = m * k) (hz : z.size = k) (hc : n + m ≤ cap) :
    ((olds ++ news).toArray ++ Builtin.zeroCells z (cap - (n + m))).size = cap * k ∧ (∀ q, q < n * k → ((olds ++ news).toArray ++ Builtin.zeroCells z (cap - (n + m)))[q]? = olds[q]?) ∧
      ∀ (q : Nat) u, news[q]? = some u → ((olds ++ news).toArray ++ Builtin.zeroCells z (cap - (n + m)))[n * k + q]? = some u := by
  refine ⟨?_, fun q hq => ?_, fun q u hu => ?_⟩
  · rw [Array.size_append, size_zeroCells, hz, List.size_toArray, List.length_append, ho, hn, ← Nat.add_mul, ← Nat.add_mul]
    congr 1
    omega
  · rw [Array.getElem?_append_left (by simp [ho, hn]; omega), List.getElem?_toArray, List.getElem?_append_left (by omega)]
  · have hql := (List.getElem?_eq_some_iff.1 hu).1
    rw [Array.getElem?_append_left (by simp [ho]; omega), List.getElem?_toArray, List.getElem?_append_right (by omega), ho, Nat.add_sub_cancel_left]
    exact hu

/-- 'append(l, ..)' on a row of the call's own. -/
theorem loc_appendOwn {t e : TypeId} {k bytes b v n : Nat} {x y : Operand} {rows rows0 news : List (List C)} {c : C} [T : TElem P t e k bytes] (hx' : opU s.t x = .one (.own b v n)) (hy' : opU s.t y = .one c) (hb : s.h b = some (.row e k v rows)) (hsrc : SrcC k news c)
    (hn : n ≤ rows.length) (hr0 : rows.take n = rows0) (hk : ∀ r ∈ news, r.length = k) (hmax : n + news.length ≤ maxLen) (hbytes : (n + news.length) * bytes ≤ 140737488355328) :
    LocOp P ⟨dst, .call ⟨.builtin .append, #[x, y], #[t, t]⟩, rt, pos, after, guard⟩ s [] [(b, some (.row e k (v + 1) (rows0 ++ news)))] (.one (.own b (v + 1) (n + news.length))) := by
  subst hr0
  intro F ρ h w a Q H hR hx
  have hb : h b = some (.row e k v rows) := (hR b (.inr (by simp [namesP]))).trans hb
  have hx := opU_rel H hx
  have h1 := hx x (by simp [Op.operands, Call.operands])
  have h2 := (hx y (by simp [Op.operands, Call.operands])).1
  rw [hx'] at h1
  rw [hy'] at h2
  obtain ⟨i, z, t1, t2, t3, t4, t5, t6, t7⟩ := T.spec
  obtain ⟨nv, hsrc', hnl, ⟨ay, capy, hvy, _⟩, hfy, hnv⟩ := src_of (P := P) T hsrc hk h2
  have hver : (ρ b).v = v := H.ver hb
  obtain ⟨_, _, hB⟩ := H.blk b _ hb
  have hbne : h b ≠ none := by rw [hb]; simp
  -- how it ends: the value, the world, where the row lies then
  have finish : ∀ (lc : Lc) (u : Value) (w' : World), lc.v = v + 1 → (∀ g, lc.g = some g → (ρ b).g = some g ∨ w.heap.size ≤ g) → (∀ k', k' < w.heap.size → (ρ b).g ≠ some k' → w'.heap[k']? = w.heap[k']?) → w'.os = w.os → w'.tape = w.tape → w'.output = w.output → w.heap.size ≤ w'.heap.size →
      ((lc.g = none ∧ rows.take n ++ news = [] ∧ u = .slice none 0 0) ∨ ∃ (g : Nat) (cs cs' : Array Value), lc.g = some g ∧ u = .slice (some ⟨g, 0, none⟩) (n + news.length) lc.cap ∧ w'.heap[g]? = some (.cells cs' e (0, 0)) ∧ cs'.size = lc.cap * k ∧ n + news.length ≤ lc.cap ∧ lc.cap ≤ maxLen ∧
        (∀ (i : Nat) row, rows[i]? = some row → row.length = k ∧ ∀ (j : Nat) c, row[j]? = some c → ∃ u, cs[i * k + j]? = some u ∧ relC F ρ w c u) ∧ (∀ q, q < n * k → cs'[q]? = cs[q]?) ∧ ∀ (q : Nat) u, nv[q]? = some u → cs'[n * k + q]? = some u) →
      (execOp a.eval (⟨dst, .call ⟨.builtin .append, #[x, y], #[t, t]⟩, rt, pos, after, guard⟩ : Oper)).run P w = .ok (.value u) w' →
      (⟨dst, .call ⟨.builtin .append, #[x, y], #[t, t]⟩, rt, pos, after, guard⟩ : Oper).wp P a w (fun a' w' => ∃ u F' ρ', a' = a.put dst u ∧ Moves s.d F ρ h w F' ρ' (applyP [(b, some (.row e k (v + 1) (rows.take n ++ news)))] h) w' ∧ relU F' ρ' w' (.one (.own b (v + 1) (n + news.length))) u ∧ okU (applyP [(b, some (.row e k (v + 1) (rows.take n ++ news)))] h) (.one (.own b (v + 1) (n + news.length)))) Q := by
    intro lc u w' hlv hlg hkeep hos htape hout hsize hend hexec
    unfold Oper.wp
    rw [hexec]
    have hl : (rows.take n ++ news).length = n + news.length := by rw [List.length_append, List.length_take]; omega
    have hrho : upd ρ b lc b = lc := upd_same ..
    refine ⟨u, F, upd ρ b lc, rfl, moves_patch H b _ (fun c hc => upd_ne _ _ hc) (.inr ⟨_, hb, Nat.le_succ _, .inr (by rw [hrho, hlv, hver]; exact Nat.lt_succ_self _)⟩) (fun _ h => h) (fun _ h => .inl h) (fun k' hk' => Nat.lt_of_lt_of_le (H.lt k' hk') hsize) (fun k' hk' hno => hkeep k' hk' (hno.resolve_left hbne)) hos htape hout hsize (fun hrel => ?_) (fun g hg => ?_) (fun g hg hf => ?_) (fun hokm => ?_), ⟨?_, fun _ => ?_⟩, ?_⟩
    · refine ⟨by rw [hrho, hlv], t5, ?_⟩
      rw [hrho]
      rcases hend with ⟨h3, h4, _⟩ | ⟨g, cs, cs', h3, _, h5, h6, h7, h8, h9, h10, h11⟩
      · exact .inl ⟨h3, h4⟩
      · refine .inr ⟨g, cs', h3, h5, h6, by rw [hl]; exact h7, h8, fun i row hi => ?_⟩
        obtain ⟨q1, q2⟩ := rows_snoc (R' := fun c u => relK F w c u) hn h9 hnv hk h10 h11 i row hi
        refine ⟨q1, fun j c hc => ?_⟩
        obtain ⟨u, hu, hr⟩ := q2 j c hc
        refine ⟨u, hu, ?_⟩
        rcases hr with ⟨hm, hr⟩ | hr
        · exact hrel c u (H.ok b _ hb row hm c (List.mem_of_getElem? hc)) hr
        · exact hrel c u (closed_ok h hr) (relC_relK hr)
    · rw [hrho] at hg
      exact (hlg g hg).imp (fun h => ⟨hbne, h⟩) id
    · rw [hrho] at hg
      rcases hlg g hg with h' | h'
      · exact H.notF b g hbne h' hf
      · have := H.lt g hf; omega
    · intro row hrow c hc
      rcases List.mem_append.1 hrow with hm | hm
      · exact hokm c (H.ok b _ hb row (List.mem_of_mem_take hm) c hc)
      · obtain ⟨i, hil, hie⟩ := List.getElem_of_mem hm
        obtain ⟨j, hjl, hje⟩ := List.getElem_of_mem hc
        obtain ⟨u, _, hr⟩ := hnv i row (by rw [List.getElem?_eq_getElem hil, hie]) j c (by rw [List.getElem?_eq_getElem hjl, hje])
        exact hokm c (closed_ok h hr)
    · rcases hend with ⟨_, _, rfl⟩ | ⟨_, _, _, _, rfl, _⟩ <;> rfl
    · rw [hrho]
      rcases hend with ⟨h3, h4, h5⟩ | ⟨g, cs, cs', h3, h4, _⟩
      · exact .inl ⟨h3, by rw [← hl, h4]; rfl, h5⟩
      · exact .inr ⟨g, h3, h4⟩
    · exact ⟨e, k, v + 1, _, upd_same .., Nat.le_refl _⟩
  -- what the row is like before
  have hbase : ((ρ b).g = none ∧ rows = [] ∧ n = 0 ∧ a.eval x = .slice none 0 0) ∨ ∃ (g : Nat) (cs : Array Value), (ρ b).g = some g ∧ a.eval x = .slice (some ⟨g, 0, none⟩) n (ρ b).cap ∧ w.heap[g]? = some (.cells cs e (0, 0)) ∧ cs.size = (ρ b).cap * k ∧ rows.length ≤ (ρ b).cap ∧ (ρ b).cap ≤ maxLen ∧
      (∀ (i : Nat) row, rows[i]? = some row → row.length = k ∧ ∀ (j : Nat) c, row[j]? = some c → ∃ u, cs[i * k + j]? = some u ∧ relC F ρ w c u) := by
    rcases h1.1.2 hver with ⟨h3, h4, h5⟩ | ⟨g, h3, h4⟩
    · rcases hB with ⟨_, h6⟩ | ⟨g, cs, h6, _⟩
      · exact .inl ⟨h3, h6, h4, h5⟩
      · rw [h3] at h6; cases h6
    · rcases hB with ⟨h6, _⟩ | ⟨g', cs, h6, h7, h8, h9, h10, h11⟩
      · rw [h3] at h6; cases h6
      · rw [h3] at h6; cases h6
        exact .inr ⟨g, cs, h3, h4, h7, h8, h9, h10, h11⟩
  by_cases hm0 : news.length = 0
  · -- nothing is appended
    have hne : news = [] := List.eq_nil_of_length_eq_zero hm0
    subst hne
    have hnv0 : nv = [] := List.eq_nil_of_length_eq_zero (by rw [hnl]; simp)
    subst hnv0
    have hsrc0 : Src P i.size t (a.eval y) 0 [] w := by rw [t3]; exact hsrc'
    rcases hbase with ⟨h3, h4, h5, h6⟩ | ⟨g, cs, h3, h4, h5, h6, h7, h8, h9⟩
    · subst h4
      subst h5
      refine finish ⟨none, 0, v + 1⟩ (.slice none 0 0) w rfl (fun g hg => by cases hg) (fun _ _ _ => rfl) rfl rfl rfl (Nat.le_refl _) (.inl ⟨rfl, rfl, rfl⟩) (exec_append rfl ?_)
      rw [h6]
      exact run_append_nothing w t t rt e i t1 t2 none 0 0 (Nat.le_refl _) _ hsrc0
    · refine finish ⟨some g, (ρ b).cap, v + 1⟩ (.slice (some ⟨g, 0, none⟩) n (ρ b).cap) w rfl (fun g' hg => by cases hg; exact .inl h3) (fun _ _ _ => rfl) rfl rfl rfl (Nat.le_refl _) (.inr ⟨g, cs, cs, rfl, rfl, h5, h6, Nat.le_trans hn h7, h8, h9, fun _ _ => rfl, fun q u h => by simp at h⟩) (exec_append rfl ?_)
      rw [h4]
      exact run_append_nothing w t t rt e i t1 t2 (some ⟨g, 0, none⟩) n (ρ b).cap (Nat.le_trans hn h7) _ hsrc0
  · have hfit : ∀ cap, cap < n + news.length → Builtin.nextslicecap (n + news.length) cap * i.bytes ≤ 281474976710656 := fun cap hlt => by rw [t4]; exact growslice_fits hlt hbytes
    have h63 : ((n + news.length : Nat) : Int) ≤ 9223372036854775807 := by unfold maxLen at hmax; omega
    have hsrc1 : Src P i.size t (a.eval y) news.length nv w := by rw [t3]; exact hsrc'
    rcases hbase with ⟨h3, h4, h5, h6⟩ | ⟨g, cs, h3, h4, h5, h6, h7, h8, h9⟩
    · subst h4
      subst h5
      have hg := run_append_grow_src (P := P) w t t rt e i z t1 t2 t6 none 0 0 [] (run_firstCells_none w.drew i.size 0 0 0) (a.eval y) news.length nv hsrc1 (by omega) (by simpa using h63) (hfit 0 (by omega))
      have hge := grownCap_ge w (0 + news.length) 0 e
      obtain ⟨c1, c2, c3⟩ := grown_cells (olds := []) (news := nv) (z := z.cells) (k := k) (n := 0) (m := news.length) (cap := grownCap w (0 + news.length) 0 e) (by simp) hnl t7 hge
      refine finish ⟨some w.heap.size, grownCap w (0 + news.length) 0 e, v + 1⟩ _ _ rfl (fun g hg => by cases hg; exact .inr (Nat.le_refl _)) (fun k' hk' _ => Below.heap_alloc w.drew _ k' hk') rfl rfl rfl (by simp) (.inr ⟨w.heap.size, #[], _, rfl, rfl, heap_alloc_new w.drew _, c1, hge, grownCap_le_maxLen w _ _ e hmax, fun i row h => by simp at h, fun q hq => by rw [Nat.zero_mul] at hq; omega, c3⟩) (exec_append rfl (by rw [h6]; exact hg))
    · by_cases hroom : n + news.length ≤ (ρ b).cap
      · have hin : ∀ j, j < nv.length → n * i.size + j < cs.size := fun j hj => by
          rw [t3, h6]
          rw [hnl] at hj
          have : (n + news.length) * k ≤ (ρ b).cap * k := Nat.mul_le_mul_right k hroom
          rw [Nat.add_mul] at this
          omega
        have hr := run_append_room_src (P := P) w t t rt e i t1 t2 g 0 n (ρ b).cap (a.eval y) news.length nv hsrc1 hroom (fun j hj => by have := hin j hj; simp [World.cell?, h5, this]) (fun j hj => by simp [World.frozen?, h5])
        rw [Nat.zero_add, t3] at hr
        obtain ⟨cs', c1, c2, c3⟩ := setCells_heap g e nv (n * k) w cs h5
        obtain ⟨s1, s2, s3, s4⟩ := setCells_same g nv (n * k) w
        refine finish ⟨some g, (ρ b).cap, v + 1⟩ _ _ rfl (fun g' hg => by cases hg; exact .inl h3) (fun k' hk' hno => setCells_heap_ne g nv _ w k' (fun e => hno (by rw [h3, e]))) s1 s2 s3 (Nat.le_of_eq s4.symm) (.inr ⟨g, cs, cs', rfl, rfl, c1, c2.trans h6, hroom, h8, h9, fun q hq => ?_, fun q u hu => ?_⟩) (exec_append rfl (by rw [h4]; exact hr))
        · rw [c3 q, if_neg (by omega)]
        · have hql := (List.getElem?_eq_some_iff.1 hu).1
          have := hin q hql
          rw [t3] at this
          rw [c3, if_pos ⟨by omega, by omega, this⟩, Nat.add_sub_cancel_left]
          exact hu
      · have hlen : (cs.toList.take (n * k)).length = n * i.size := by
          rw [List.length_take, Array.length_toList, h6, t3]
          have : n * k ≤ (ρ b).cap * k := Nat.mul_le_mul_right k (Nat.le_trans hn h7)
          omega
        have hold := run_firstCells_some (P := P) w.drew i.size n ⟨g, 0, none⟩ n (ρ b).cap (cs.toList.take (n * k)) hlen (fun j u hu => by
          have hjl := (List.getElem?_eq_some_iff.1 hu).1
          rw [List.getElem?_take_of_lt (by rw [hlen, t3] at hjl; exact hjl), Array.getElem?_toList] at hu
          rw [Addr.add_mid, Nat.zero_add]
          show w.cell? _ = _
          simp [World.cell?, h5, hu])
        have hg := run_append_grow_src (P := P) w t t rt e i z t1 t2 t6 (some ⟨g, 0, none⟩) n (ρ b).cap (cs.toList.take (n * k)) hold (a.eval y) news.length nv hsrc1 (by omega) h63 (hfit _ (by omega))
        have hge := grownCap_ge w (n + news.length) (ρ b).cap e
        obtain ⟨c1, c2, c3⟩ := grown_cells (olds := cs.toList.take (n * k)) (news := nv) (z := z.cells) (k := k) (n := n) (m := news.length) (cap := grownCap w (n + news.length) (ρ b).cap e) (by rw [hlen, t3]) hnl t7 hge
        refine finish ⟨some w.heap.size, grownCap w (n + news.length) (ρ b).cap e, v + 1⟩ _ _ rfl (fun g hg => by cases hg; exact .inr (Nat.le_refl _)) (fun k' hk' _ => Below.heap_alloc w.drew _ k' hk') rfl rfl rfl (by simp) (.inr ⟨w.heap.size, cs, _, rfl, rfl, heap_alloc_new w.drew _, c1, hge, grownCap_le_maxLen w _ _ e hmax, h9, fun q hq => ?_, c3⟩) (exec_append rfl (by rw [h4]; exact hg))
        rw [c2 q hq, List.getElem?_take_of_lt hq, Array.getElem?_toList]

/-- 'append(l, ..)' where there is no room behind l: a row of the call's own. -/
theorem loc_appendNew {t e : TypeId} {k bytes : Nat} {x y : Operand} {rows news : List (List C)} {c c0 : C} (nm : Nat) [T : TElem P t e k bytes] (hx' : opU s.t x = .one c0) (hy' : opU s.t y = .one c) (hc0 : c0 = slFOf k rows ∨ (rows = [] ∧ c0 = .nilsl)) (hsrc : SrcC k news c)
    (hne : news ≠ []) (hk : ∀ r ∈ news, r.length = k) (hk0 : ∀ r ∈ rows, r.length = k) (hn : s.h nm = none) (hd : (s.d.contains nm) = false) (hmax : rows.length + news.length ≤ maxLen) (hbytes : (rows.length + news.length) * bytes ≤ 140737488355328) :
    LocOp P ⟨dst, .call ⟨.builtin .append, #[x, y], #[t, t]⟩, rt, pos, after, guard⟩ s [] [(nm, some (.row e k 0 (rows ++ news)))] (.one (.own nm 0 (rows.length + news.length))) := by
  intro F ρ h w a Q H hR hx
  have hn : h nm = none := (hR nm (.inr (by simp [namesP]))).trans hn
  have hx := opU_rel H hx
  have h1 := (hx x (by simp [Op.operands, Call.operands])).1
  have h2 := (hx y (by simp [Op.operands, Call.operands])).1
  rw [hx'] at h1
  rw [hy'] at h2
  obtain ⟨i, z, t1, t2, t3, t4, t5, t6, t7⟩ := T.spec
  obtain ⟨nv, hsrc', hnl, ⟨ay, capy, hvy, _⟩, hfy, hnv⟩ := src_of (P := P) T hsrc hk h2
  have hs0 : SrcC k rows c0 := hc0.imp id .inr
  obtain ⟨ov, hsrc0, hol, ⟨ax, capx, hvx, _⟩, hfx, hov⟩ := src_of (P := P) T hs0 hk0 h1
  have hcap : capx = rows.length := by
    rcases hc0 with rfl | ⟨rfl, rfl⟩
    · obtain ⟨a', hv', _⟩ := h1
      rw [hvx] at hv'
      injection hv'
    · have hv' : a.eval x = .slice none 0 0 := h1
      rw [hvx] at hv'
      injection hv'
  subst hcap
  have hm : 0 < news.length := List.length_pos_iff.2 hne
  have hg := run_append_grow_src (P := P) w t t rt e i z t1 t2 t6 ax rows.length rows.length ov (by rw [t3, ← hvx]; exact hfx) (a.eval y) news.length nv (by rw [t3]; exact hsrc') (by omega) (by unfold maxLen at hmax; omega) (by rw [t4]; exact growslice_fits (by omega) hbytes)
  have hge := grownCap_ge w (rows.length + news.length) rows.length e
  obtain ⟨c1, c2, c3⟩ := grown_cells (olds := ov) (news := nv) (z := z.cells) (k := k) (n := rows.length) (m := news.length) (cap := grownCap w (rows.length + news.length) rows.length e) hol hnl t7 hge
  unfold Oper.wp
  rw [exec_append rfl (by rw [hvx]; exact hg)]
  have hd' : nm ∉ s.d := by simpa using hd
  refine ⟨_, F, upd ρ nm ⟨some w.heap.size, grownCap w (rows.length + news.length) rows.length e, 0⟩, rfl, moves_patch H nm _ (fun c hc => upd_ne _ _ hc) (.inl ⟨hn, hd'⟩) (fun _ h => h) (fun _ h => .inl h) (fun k hk => Nat.lt_of_lt_of_le (H.lt k hk) (by simp)) (fun k hk _ => Below.heap_alloc w.drew _ k hk) rfl rfl rfl (by simp) (fun hrel => ?_) (fun g hg => ?_) (fun g hg hf => ?_) (fun hokm => fun row hrow c hc => ?_), ?_, ?_⟩
  · refine ⟨by rw [upd_same], t5, .inr ⟨w.heap.size, _, by rw [upd_same], heap_alloc_new w.drew _, by rw [upd_same]; exact c1, by rw [upd_same, List.length_append]; exact hge, by rw [upd_same]; exact grownCap_le_maxLen w _ _ e hmax, fun i row hi => ?_⟩⟩
    have q := rows_snoc (R := fun c u => relK F w c u) (R' := fun c u => relK F w c u) (cs := ov.toArray) (cs' := _) (n := rows.length) (Nat.le_refl _) (fun i row hi => ⟨hk0 row (List.mem_of_getElem? hi), fun j c hc => by simpa using hov i row hi j c hc⟩) hnv hk (fun q hq => by rw [c2 q hq]; simp) c3 i row (by rw [List.take_length]; exact hi)
    refine ⟨q.1, fun j c hc => ?_⟩
    obtain ⟨u, hu, hr⟩ := q.2 j c hc
    have hr : relK F w c u := by rcases hr with ⟨_, hr⟩ | hr <;> exact hr
    exact ⟨u, hu, hrel c u (closed_ok h hr) (relC_relK hr)⟩
  · rw [upd_same] at hg; cases hg; exact .inr (Nat.le_refl _)
  · rw [upd_same] at hg; cases hg; exact absurd (H.lt _ hf) (Nat.lt_irrefl _)
  · obtain ⟨j, hjl, hje⟩ := List.getElem_of_mem hc
    rcases List.mem_append.1 hrow with hm | hm
    · obtain ⟨i, hil, hie⟩ := List.getElem_of_mem hm
      obtain ⟨u, _, hr⟩ := hov i row (by rw [List.getElem?_eq_getElem hil, hie]) j c (by rw [List.getElem?_eq_getElem hjl, hje])
      exact hokm c (closed_ok h hr)
    · obtain ⟨i, hil, hie⟩ := List.getElem_of_mem hm
      obtain ⟨u, _, hr⟩ := hnv i row (by rw [List.getElem?_eq_getElem hil, hie]) j c (by rw [List.getElem?_eq_getElem hjl, hje])
      exact hokm c (closed_ok h hr)
  · exact ⟨rfl, fun _ => .inr ⟨w.heap.size, by rw [upd_same], by rw [upd_same]⟩⟩
  · exact ⟨e, k, 0, _, upd_same .., Nat.le_refl _⟩
end ops
end Go.Proofs.YtnflnbdlgdjfmaaDoor
