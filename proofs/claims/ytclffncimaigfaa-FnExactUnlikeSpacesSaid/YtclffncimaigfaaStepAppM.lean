/- append of a row as a step of a region that draws its order. Conditions: as the theorem says. -/
import Derived.Test.YtclffncimaigfaaAppend
import Derived.Deep.AppendLies
namespace Go.Proofs.Ytclffncimaigfaa
set_option linter.unusedVariables false
set_option linter.unusedSimpArgs false
open Go.RowKit Go.Deep

theorem MMem.drew {lo hi : Nat} {w : World} {v : Value} {d : List (List Int)} (h : MMem lo hi w v d) : MMem lo hi w.drew v d := h
theorem step_appM {ops : Array Oper} {o : Oper} {a : Act} {K : Act → World → Prop} {Q : Exit → Act → World → Prop} {E : Prop} (w : World) (hgd : o.guard = none) (s x : Operand)
    (ho : o.op = .call { callee := .builtin .append, args := #[s, x], argTypes := #[22, 22] })
    (lo mid hi : Nat) (v u : Value) (d : List (List Int)) (r : List Int) (hs : a.eval s = v) (hM : MMem lo mid w v d) (hI : IMem mid hi w u r) (hlm : lo ≤ mid) (b c : Nat) (hx : a.eval x = .slice (some ⟨b, 0, none⟩) 1 c)
    (hcell : w.cell? ⟨b, 0, none⟩ = some u) (hbound : d.length ≤ 1000000000) (hlo : lo ≤ w.heap.size)
    (h : ∀ g cap w', MMem lo w'.heap.size w' (.slice (some ⟨g, 0, none⟩) (d.length + 1) cap) (d ++ [r]) → Below lo w w' → K (a.put o.dst (.slice (some ⟨g, 0, none⟩) (d.length + 1) cap)) w') :
    if Region.wanted o (yielded ops a.tmps) = true then Oper.wp Try.prog o a w K Q else E := by
  obtain ⟨i0, hi0, hz0, hz1, hz2⟩ := info_parts info_ints
  obtain ⟨g, cap, cur, V, rfl, k1, k2, h3, h4, h5, h6, h7, h8⟩ := id hM
  obtain ⟨ub, ucap, ucur, rfl, q1, q2, q3, q4, q5, q6, q7⟩ := id hI
  have hown : w.ownsRow lo 37 1 (.slice (some ⟨g, 0, none⟩) d.length cap) d.length ((List.range d.length).map V) := by
    refine ⟨by simp, .inr ⟨g, cap, cur, rfl, k1, h5, h3, h4, by simpa using h6, ?_⟩⟩
    apply List.ext_getElem?
    intro i
    rw [List.getElem?_take]
    by_cases hi : i < d.length
    · have := (h7 i hi).1
      simp only [Nat.mul_one, hi, if_true]
      simp only [Array.getElem?_toList, this]
      simp [hi]
    · simp [hi]
  refine step_append_lies w hgd s x 22 ho lo 37 i0 (.slice none 0 0) 1 24 Try.underlying22 hi0 hz0 hz1 hz2 rfl (by decide) _ d.length _ hs hown ⟨b, 0, none⟩ 1 c [.slice (some ⟨ub, 0, none⟩) r.length ucap] hx (by simp) ?_ ?_ (by omega) (by rw [maxLen_val]; omega) (by omega) hlo _ rfl ?_
  · intro j u hu
    match j, hu with
    | 0, hu => simp at hu; subst hu; simpa [Addr.add] using hcell
  · intro u hu
    simp at hu
    subst hu
    rfl
  · intro g1 cap1 w' hown' hg _ _
    have hbel : Below lo w w' := grown_below hg hlo (fun k hk => (hown.lt k hk).1)
    refine h g1 cap1 w' ?_ hbel
    -- the rows lie in other blocks
    have keep : ∀ k, k < w.heap.size → k ≠ g → w'.heap[k]? = w.heap[k]? := fun k hk hne => hg.block k hk (by simpa [Value.ownBlock] using hne)
    have keepI : ∀ (l h : Nat) (y : Value) (zs : List Int), IMem l h w y zs → IMem l w'.heap.size w' y zs := by
      intro l h y zs hy
      obtain ⟨yb, ycap, ycur, rfl, y1, y2, y3, y4, y5, y6, y7⟩ := hy
      have hne : yb ≠ g := by
        intro e
        rw [e, h5] at y5
        injection y5 with y5
        injection y5 with _ y5
        exact absurd y5 (by decide)
      exact ⟨yb, ycap, ycur, rfl, y1, Nat.lt_of_lt_of_le (lt_of_heap y5) hbel.size, y3, y4, (keep yb (lt_of_heap y5) hne).trans y5, y6, y7⟩
    obtain ⟨hl, hform⟩ := hown'
    rcases hform with ⟨e, hz⟩ | ⟨g', cap', cur', hv', o1, o2, o3, o4, o5, o6⟩
    · simp at e
    · have get : ∀ i, i < d.length + 1 → cur'[i]? = ((List.range d.length).map V ++ [.slice (some ⟨ub, 0, none⟩) r.length ucap])[i]? := by
        intro i hi
        have : (cur'.toList.take ((d.length + 1) * 1))[i]? = ((List.range d.length).map V ++ [.slice (some ⟨ub, 0, none⟩) r.length ucap])[i]? := by rw [o6]
        rw [List.getElem?_take] at this
        simp only [Nat.mul_one, hi, if_true] at this
        simpa using this
      refine ⟨g', cap', cur', fun i => if i < d.length then V i else .slice (some ⟨ub, 0, none⟩) r.length ucap, by rw [hv']; simp, o1, lt_of_heap o2, by simpa using o3, o4, o2, by simpa using o5, ?_, ?_⟩
      · intro i hi
        simp only [List.length_append, List.length_cons, List.length_nil] at hi
        by_cases hlt : i < d.length
        · simp only [hlt, if_true]
          refine ⟨by rw [get i (by omega)]; simp [List.getElem?_append, hlt], ?_⟩
          rw [row_append_left hlt]
          exact keepI _ _ _ _ (h7 i hlt).2
        · have e : i = d.length := by omega
          subst e
          simp only [Nat.lt_irrefl, if_false]
          refine ⟨by rw [get _ (by omega)]; simp, ?_⟩
          rw [row_append_right]
          exact (keepI _ _ _ _ hI).widen hlm (Nat.le_refl _)
      · intro i j hi hj hij
        simp only [List.length_append, List.length_cons, List.length_nil] at hi hj
        have blk : ∀ i, i < d.length → ∃ y, (V i).ownBlock = some y ∧ y < mid := by
          intro i hi
          obtain ⟨y, hy, _, y2, _⟩ := (h7 i hi).2.blk
          exact ⟨y, hy, y2⟩
        by_cases h' : i < d.length <;> by_cases h'' : j < d.length <;> simp only [h', h'', if_true, if_false]
        · exact h8 i j h' h'' hij
        · obtain ⟨y, hy, y2⟩ := blk i h'
          rw [hy]; simp [Value.ownBlock]; omega
        · obtain ⟨y, hy, y2⟩ := blk j h''
          rw [hy]; simp [Value.ownBlock]; omega
        · omega

end Go.Proofs.Ytclffncimaigfaa
