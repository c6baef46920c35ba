/- append onto a row of the call's own, in the words IMem and MMem; a space opened for the walk. Conditions: as each theorem says. -/
import Derived.Test.YtclffncimaigfaaPlain
namespace Go.Proofs.Ytclffncimaigfaa
set_option linter.unusedVariables false
set_option linter.unusedSimpArgs false
open Go.RowKit Go.Deep

theorem grown_below {lo : Nat} {w w' : World} {v : Value} (hg : w.grownBy w' v.ownBlock) (hlo : lo ≤ w.heap.size) (hv : ∀ k, v.ownBlock = some k → lo ≤ k) : Below lo w w' :=
  (Below.refl lo w).grown hg hlo (fun k hk => hv k hk)

theorem wp_app (w : World) {ops : Array Oper} {rest : List Oper} {o : Oper} {a : Act} {Q : Exit → Act → World → Prop} (hgd : o.guard = none) (s x : Operand)
    (ho : o.op = .call { callee := .builtin .append, args := #[s, x], argTypes := #[37, 37] })
    (lo hi : Nat) (v : Value) (zs : List Int) (hs : a.eval s = v) (hI : IMem lo hi w v zs) (b off m c : Nat) (ys : List Int) (hx : a.eval x = .slice (some ⟨b, off, none⟩) m c) (hm : ys.length = m)
    (hcell : ∀ i, i < m → w.cell? ⟨b, off + i, none⟩ = some (.int .i64 (iat ys i))) (hbound : zs.length + m ≤ 1000000000) (hlo : lo ≤ w.heap.size)
    (h : ∀ v' w', IMem lo w'.heap.size w' v' (zs ++ ys) → Below lo w w' → w.grownBy w' v.ownBlock → wpList Try.prog ops Q rest (a.put o.dst v') w') : wpList Try.prog ops Q (o :: rest) a w := by
  obtain ⟨i0, hi0, hz0, hz1, hz2⟩ := info_parts info_int
  obtain ⟨hown, hne⟩ := hI.own
  subst hm
  have hadd : ∀ i, (⟨b, off, none⟩ : Addr).add i = ⟨b, off + i, none⟩ := by
    intro i
    unfold Addr.add
    split
    · simp_all
    · rfl
  refine wpList_append_own w hgd s x 37 ho lo 3 i0 (.int .i64 0) 1 8 Try.underlying37 hi0 hz0 hz1 hz2 rfl (by decide) v zs.length (zs.map (Value.int .i64)) hs hown ⟨b, off, none⟩ ys.length c (ys.map (Value.int .i64)) hx (by simp) ?_ ?_ (by rw [maxLen_val]; omega) (by omega) hlo ?_
  · intro j u hu
    rw [hadd]
    by_cases hj : j < ys.length
    · rw [hcell j hj]
      simp [hj] at hu
      rw [← hu]
      simp [iat, hj]
    · simp [hj] at hu
  · intro u hu
    simp only [List.mem_map] at hu
    obtain ⟨n, _, rfl⟩ := hu
    rfl
  · intro v' w' hown' hg hnil
    refine h v' w' (IMem.of_own (by simpa using hown') (fun e => hne (hnil.1 e).1)) (grown_below hg hlo ?_) hg
    intro k hk
    exact (hown.lt k hk).1

/-- append of one number. -/
theorem one_cell {w : World} {x : Int} {t : TypeId} : ∀ i, i < 1 → (w.alloc (.cells #[.int .i64 x] t)).cell? ⟨w.heap.size, 0 + i, none⟩ = some (.int .i64 (iat [x] i)) := by
  intro i hi
  have : i = 0 := by omega
  subst this
  simp [iat]

/-- append of one row. -/
theorem wp_appM (w : World) {ops : Array Oper} {rest : List Oper} {o : Oper} {a : Act} {Q : Exit → Act → World → Prop} (hgd : o.guard = none) (s x : Operand)
    (ho : o.op = .call { callee := .builtin .append, args := #[s, x], argTypes := #[22, 22] })
    (lo mid hi : Nat) (v u : Value) (d : List (List Int)) (r : List Int) (hs : a.eval s = v) (hM : MMem lo mid w v d) (hI : IMem mid hi w u r) (hlm : lo ≤ mid) (b c : Nat) (hx : a.eval x = .slice (some ⟨b, 0, none⟩) 1 c)
    (hcell : w.cell? ⟨b, 0, none⟩ = some u) (hbound : d.length ≤ 1000000000) (hlo : lo ≤ w.heap.size)
    (h : ∀ v' w', MMem lo w'.heap.size w' v' (d ++ [r]) → Below lo w w' → wpList Try.prog ops Q rest (a.put o.dst v') w') : wpList Try.prog ops Q (o :: rest) a w := by
  obtain ⟨i0, hi0, hz0, hz1, hz2⟩ := info_parts info_ints
  obtain ⟨g, cap, cur, V, rfl, k1, k2, h3, h4, h5, h6, h7, h8⟩ := id hM
  obtain ⟨ub, ucap, ucur, rfl, q1, q2, q3, q4, q5, q6, q7⟩ := id hI
  have hown : w.ownsRow lo 37 1 (.slice (some ⟨g, 0, none⟩) d.length cap) d.length ((List.range d.length).map V) := by
    refine ⟨by simp, .inr ⟨g, cap, cur, rfl, k1, h5, h3, h4, by simpa using h6, ?_⟩⟩
    apply List.ext_getElem?
    intro i
    rw [List.getElem?_take]
    by_cases hi : i < d.length
    · have := (h7 i hi).1
      simp only [Nat.mul_one, hi, if_true]
      simp only [Array.getElem?_toList, this]
      simp [hi]
    · simp [hi]
  refine wpList_append_own w hgd s x 22 ho lo 37 i0 (.slice none 0 0) 1 24 Try.underlying22 hi0 hz0 hz1 hz2 rfl (by decide) _ d.length _ hs hown ⟨b, 0, none⟩ 1 c [.slice (some ⟨ub, 0, none⟩) r.length ucap] hx (by simp) ?_ ?_ (by rw [maxLen_val]; omega) (by omega) hlo ?_
  · intro j u hu
    match j, hu with
    | 0, hu => simp at hu; subst hu; simpa [Addr.add] using hcell
  · intro u hu
    simp at hu
    subst hu
    rfl
  · intro v' w' hown' hg hnil
    have hbel : Below lo w w' := grown_below hg hlo (fun k hk => (hown.lt k hk).1)
    refine h v' w' ?_ hbel
    -- the rows lie in other blocks
    have keep : ∀ k, k < w.heap.size → k ≠ g → w'.heap[k]? = w.heap[k]? := fun k hk hne => hg.block k hk (by simpa [Value.ownBlock] using hne)
    have keepI : ∀ (l h : Nat) (y : Value) (zs : List Int), IMem l h w y zs → IMem l w'.heap.size w' y zs := by
      intro l h y zs hy
      obtain ⟨yb, ycap, ycur, rfl, y1, y2, y3, y4, y5, y6, y7⟩ := hy
      have hne : yb ≠ g := by
        intro e
        rw [e, h5] at y5
        injection y5 with y5
        injection y5 with _ y5
        exact absurd y5 (by decide)
      exact ⟨yb, ycap, ycur, rfl, y1, Nat.lt_of_lt_of_le (lt_of_heap y5) hbel.size, y3, y4, (keep yb (lt_of_heap y5) hne).trans y5, y6, y7⟩
    obtain ⟨hl, hform⟩ := hown'
    rcases hform with ⟨e, hz⟩ | ⟨g', cap', cur', rfl, o1, o2, o3, o4, o5, o6⟩
    · omega
    · have get : ∀ i, i < d.length + 1 → cur'[i]? = ((List.range d.length).map V ++ [.slice (some ⟨ub, 0, none⟩) r.length ucap])[i]? := by
        intro i hi
        have : (cur'.toList.take ((d.length + 1) * 1))[i]? = ((List.range d.length).map V ++ [.slice (some ⟨ub, 0, none⟩) r.length ucap])[i]? := by rw [o6]
        rw [List.getElem?_take] at this
        simp only [Nat.mul_one, hi, if_true] at this
        simpa using this
      refine ⟨g', cap', cur', fun i => if i < d.length then V i else .slice (some ⟨ub, 0, none⟩) r.length ucap, by simp, o1, lt_of_heap o2, by simpa using o3, o4, o2, by simpa using o5, ?_, ?_⟩
      · intro i hi
        simp only [List.length_append, List.length_cons, List.length_nil] at hi
        by_cases hlt : i < d.length
        · simp only [hlt, if_true]
          refine ⟨by rw [get i (by omega)]; simp [List.getElem?_append, hlt], ?_⟩
          rw [row_append_left hlt]
          exact keepI _ _ _ _ (h7 i hlt).2
        · have e : i = d.length := by omega
          subst e
          simp only [Nat.lt_irrefl, if_false]
          refine ⟨by rw [get _ (by omega)]; simp, ?_⟩
          rw [row_append_right]
          exact (keepI _ _ _ _ hI).widen hlm (Nat.le_refl _)
      · intro i j hi hj hij
        simp only [List.length_append, List.length_cons, List.length_nil] at hi hj
        have blk : ∀ i, i < d.length → ∃ y, (V i).ownBlock = some y ∧ y < mid := by
          intro i hi
          obtain ⟨y, hy, _, y2, _⟩ := (h7 i hi).2.blk
          exact ⟨y, hy, y2⟩
        by_cases h' : i < d.length <;> by_cases h'' : j < d.length <;> simp only [h', h'', if_true, if_false]
        · exact h8 i j h' h'' hij
        · obtain ⟨y, hy, y2⟩ := blk i h'
          rw [hy]; simp [Value.ownBlock]; omega
        · obtain ⟨y, hy, y2⟩ := blk j h''
          rw [hy]; simp [Value.ownBlock]; omega
        · omega

/-- A space as the walk wants it. -/
structure SOpen (w : World) (b : Nat) (BB CC : Nat → Nat) (d : List (List Int)) : Prop where
  sp : Space d
  blt : b < w.heap.size
  top : ∀ i, i < d.length → w.cell? ⟨b, i, none⟩ = some (.slice (some ⟨BB i, 0, none⟩) d.length (CC i))
  cell : ∀ i j, i < d.length → j < d.length → w.cell? ⟨BB i, j, none⟩ = some (.int .i64 (at2 d i j))
  bd : ∀ i j, i < d.length → j < d.length → 0 ≤ at2 d i j ∧ at2 d i j ≤ 60
  six : 1 ≤ d.length ∧ d.length ≤ 6
  rowI : ∀ i, i < d.length → IIn w (.slice (some ⟨BB i, 0, none⟩) d.length (CC i)) (row d i)
  len : ∀ i, i < d.length → (row d i).length = d.length
theorem SOpen.dr {w w' : World} {b : Nat} {BB CC : Nat → Nat} {d : List (List Int)} (h : SOpen w b BB CC d) (hd : Dr w w') : SOpen w' b BB CC d :=
  ⟨h.sp, by rw [hd.heap]; exact h.blt, fun i hi => (hd.cell _).trans (h.top i hi), fun i j hi hj => (hd.cell _).trans (h.cell i j hi hj), h.bd, h.six, fun i hi => (h.rowI i hi).dr hd, h.len⟩
theorem MMem.space {lo hi : Nat} {w : World} {v : Value} {d : List (List Int)} (h : MMem lo hi w v d) (hs : Space d) : ∃ (b cap : Nat) (BB CC : Nat → Nat), v = .slice (some ⟨b, 0, none⟩) d.length cap ∧ SOpen w b BB CC d := by
  obtain ⟨b, cap, BB, CC, rfl, k1, k2, k3, hm1, hm2, hc, hr, hcc, _⟩ := h.open
  refine ⟨b, cap, BB, CC, rfl, hs, k3, fun i hi => by rw [hc i hi, hs.sq i hi], fun i j hi hj => hcc i hi j (by rw [hs.sq i hi]; exact hj), fun i j hi hj => ⟨(hs.ent i j hi hj).1, (hs.ent i j hi hj).2.1⟩, ⟨hs.one, hs.six⟩, fun i hi => ?_, hs.sq⟩
  have := (hr i hi).2.2.2.2.2.2.inn
  rwa [hs.sq i hi] at this
/-- The same, kept where blocks below B stand. -/
theorem MMem.space_keep {lo hi : Nat} {w w' : World} {b : Nat} {BB CC : Nat → Nat} {d : List (List Int)} {cap : Nat} (hv : MMem lo hi w (.slice (some ⟨b, 0, none⟩) d.length cap) d) (h : SOpen w b BB CC d) (hb : Below w.heap.size w w') : SOpen w' b BB CC d := by
  have lt : ∀ i, i < d.length → BB i < w.heap.size := fun i hi => World.block_lt_of_cell? w _ (h.cell i i hi hi)
  exact ⟨h.sp, Nat.lt_of_lt_of_le h.blt hb.size, fun i hi => (hb.cell (p := ⟨b, i, none⟩) h.blt).trans (h.top i hi), fun i j hi hj => (hb.cell (p := ⟨BB i, j, none⟩) (lt i hi)).trans (h.cell i j hi hj), h.bd, h.six, fun i hi => (h.rowI i hi).keep hb, h.len⟩
theorem SOpen.keep {w w' : World} {b : Nat} {BB CC : Nat → Nat} {d : List (List Int)} (h : SOpen w b BB CC d) (hb : Below w.heap.size w w') : SOpen w' b BB CC d := by
  have lt : ∀ i, i < d.length → BB i < w.heap.size := fun i hi => World.block_lt_of_cell? w _ (h.cell i i hi hi)
  exact ⟨h.sp, Nat.lt_of_lt_of_le h.blt hb.size, fun i hi => (hb.cell (p := ⟨b, i, none⟩) h.blt).trans (h.top i hi), fun i j hi hj => (hb.cell (p := ⟨BB i, j, none⟩) (lt i hi)).trans (h.cell i j hi hj), h.bd, h.six, fun i hi => (h.rowI i hi).keep hb, h.len⟩

end Go.Proofs.Ytclffncimaigfaa
