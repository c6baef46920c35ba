/- A row that another takes the place of; append with the place told. Conditions: as each theorem says. -/
import Derived.Test.YtclffncimaigfaaDraw2
import Derived.Maps.AppendAt
namespace Go.Proofs.Ytclffncimaigfaa
set_option linter.unusedVariables false
set_option linter.unusedSimpArgs false
open Go.RowKit Go.Deep

theorem MMem.put {lo hi : Nat} {w : World} {v : Value} {d : List (List Int)} (h : MMem lo hi w v d) (hhi : hi ≤ w.heap.size) {i : Nat} (hi' : i < d.length) :
    ∃ b cap g u, v = .slice (some ⟨b, 0, none⟩) d.length cap ∧ w.cell? ⟨b, i, none⟩ = some u ∧ lo ≤ b ∧ b < hi ∧ lo ≤ g ∧ g < hi ∧ g ≠ b ∧ u.ownBlock = some g ∧ IMem g (g + 1) w u (row d i) ∧
      ∀ w1 u' r', w.heap.size ≤ w1.heap.size → (∀ k, k < w.heap.size → k ≠ g → w1.heap[k]? = w.heap[k]?) → IMem lo w1.heap.size w1 u' r' → (∃ q, u'.ownBlock = some q ∧ (q = g ∨ w.heap.size ≤ q)) →
        w1.frozen? ⟨b, i, none⟩ = false ∧ w1.cell? ⟨b, i, none⟩ = some u ∧ MMem lo w1.heap.size (w1.setCell ⟨b, i, none⟩ u') v (d.set i r') := by
  obtain ⟨b, cap, cur, V, rfl, k1, k2, h3, h4, h5, h6, h7, h8⟩ := h
  obtain ⟨g, cp, cr, hv, q1, q2, q3, q4, q5, q6, q7⟩ := (h7 i hi').2
  have hne : g ≠ b := by
    intro e
    rw [e, h5] at q5
    injection q5 with q5
    injection q5 with _ q5
    exact absurd q5 (by decide)
  refine ⟨b, cap, g, V i, rfl, by rw [cell_of_row w b i cur _ (0, 0) h5]; exact (h7 i hi').1, k1, k2, q1, q2, hne, by rw [hv]; rfl, ⟨g, cp, cr, hv, Nat.le_refl _, Nat.lt_succ_self _, q3, q4, q5, q6, q7⟩, ?_⟩
  intro w1 u' r' hsz hkeep hI hq
  have hb1 : w1.heap[b]? = some (.cells cur 37 (0, 0)) := (hkeep b (by omega) (fun e => hne e.symm)).trans h5
  refine ⟨by simp [World.frozen?, hb1], by rw [cell_of_row w1 b i cur _ (0, 0) hb1]; exact (h7 i hi').1, ?_⟩
  have hsz2 : (w1.setCell ⟨b, i, none⟩ u').heap.size = w1.heap.size := by simp [World.setCell]
  have hic : i < cur.size := by
    have := (h7 i hi').1
    exact (Array.getElem?_eq_some_iff.1 this).1
  obtain ⟨ub, hub1, hub2⟩ := hq
  have hubne : ub ≠ b := by
    rcases hub2 with rfl | h
    · exact hne
    · omega
  refine ⟨b, cap, cur.setIfInBounds i u', fun j => if j = i then u' else V j, by simp, k1, by omega, by simpa using h3, h4, ?_, by simpa using h6, ?_, ?_⟩
  · simp [World.setCell, Array.getElem?_modify, hb1]
  · intro j hj
    rw [List.length_set] at hj
    by_cases e : j = i
    · subst e
      simp only [if_true]
      refine ⟨by simp [hic], ?_⟩
      rw [row_set hj, if_pos rfl]
      exact hI.setCell_other (by rw [hub1]; intro e; injection e with e; exact hubne e) _
    · simp only [e, if_false]
      refine ⟨by rw [Array.getElem?_setIfInBounds_ne (fun h => e h.symm)]; exact (h7 j hj).1, ?_⟩
      rw [row_set hj, if_neg (fun h => e h.symm)]
      obtain ⟨g', cp', cr', hv', q1', q2', q3', q4', q5', q6', q7'⟩ := (h7 j hj).2
      have hgg : g' ≠ g := by
        have := h8 j i hj hi' e
        rw [hv', hv] at this
        simpa [Value.ownBlock] using this
      have hgb : g' ≠ b := by
        intro e
        rw [e, h5] at q5'
        injection q5' with q5'
        injection q5' with _ q5'
        exact absurd q5' (by decide)
      have : IMem lo w1.heap.size w1 (V j) (row d j) := ⟨g', cp', cr', hv', q1', by omega, q3', q4', (hkeep g' (by omega) hgg).trans q5', q6', q7'⟩
      exact this.setCell_other (by rw [hv']; intro e; injection e with e; exact hgb e) _
  · intro j j' hj hj' hjj
    rw [List.length_set] at hj hj'
    have fr : ∀ j, j < d.length → j ≠ i → (V j).ownBlock ≠ u'.ownBlock := by
      intro j hj e h
      obtain ⟨g', hg1, _, hg2, _⟩ := (h7 j hj).2.blk
      rw [hg1, hub1] at h
      injection h with h
      rcases hub2 with rfl | h'
      · have := h8 j i hj hi' e
        rw [hg1, hv] at this
        exact this (by rw [h]; rfl)
      · omega
    by_cases e : j = i <;> by_cases e' : j' = i <;> simp only [e, e', if_true, if_false]
    · omega
    · exact fun h => fr j' hj' e' h.symm
    · exact fr j hj e
    · exact h8 j j' hj hj' hjj

theorem wp_app_at (w : World) {ops : Array Oper} {rest : List Oper} {o : Oper} {a : Act} {Q : Exit → Act → World → Prop} (hgd : o.guard = none) (s x : Operand)
    (ho : o.op = .call { callee := .builtin .append, args := #[s, x], argTypes := #[37, 37] })
    (lo hi : Nat) (v : Value) (zs : List Int) (hs : a.eval s = v) (hI : IMem lo hi w v zs) (b off m c : Nat) (ys : List Int) (hx : a.eval x = .slice (some ⟨b, off, none⟩) m c) (hm : ys.length = m)
    (hcell : ∀ i, i < m → w.cell? ⟨b, off + i, none⟩ = some (.int .i64 (iat ys i))) (hbound : zs.length + m ≤ 1000000000) (hlo : lo ≤ w.heap.size)
    (h : ∀ v' w', IMem lo w'.heap.size w' v' (zs ++ ys) → Below lo w w' → w.grownBy w' v.ownBlock → (v'.ownBlock = v.ownBlock ∨ v'.ownBlock = some w.heap.size) → wpList Try.prog ops Q rest (a.put o.dst v') w') : wpList Try.prog ops Q (o :: rest) a w := by
  obtain ⟨i0, hi0, hz0, hz1, hz2⟩ := info_parts info_int
  obtain ⟨hown, hne⟩ := hI.own
  subst hm
  have hadd : ∀ i, (⟨b, off, none⟩ : Addr).add i = ⟨b, off + i, none⟩ := by
    intro i
    unfold Addr.add
    split
    · simp_all
    · rfl
  refine wpList_append_own_at w hgd s x 37 ho lo 3 i0 (.int .i64 0) 1 8 Try.underlying37 hi0 hz0 hz1 hz2 rfl (by decide) v zs.length (zs.map (Value.int .i64)) hs hown ⟨b, off, none⟩ ys.length c (ys.map (Value.int .i64)) hx (by simp) ?_ ?_ (by rw [maxLen_val]; omega) (by omega) hlo ?_
  · intro j u hu
    rw [hadd]
    by_cases hj : j < ys.length
    · rw [hcell j hj]
      simp [hj] at hu
      rw [← hu]
      simp [iat, hj]
    · simp [hj] at hu
  · intro u hu
    simp only [List.mem_map] at hu
    obtain ⟨n, _, rfl⟩ := hu
    rfl
  · intro v' w' hown' hg hnil hat
    refine h v' w' (IMem.of_own (by simpa using hown') (fun e => hne (hnil.1 e).1)) (grown_below hg hlo ?_) hg hat
    intro k hk
    exact (hown.lt k hk).1

end Go.Proofs.Ytclffncimaigfaa
