/- A list of rows from which some are being deleted in place: what holds on the way. Conditions: as each theorem says. -/
import Derived.Test.YtknnelenmedonaaOrds
import Derived.Laws.IdiomCopy
namespace Go.Proofs.Ytknnelenmedonaa
set_option linter.unusedVariables false
set_option linter.unusedSimpArgs false
open Go.RowKit Go.Deep

/-- Where the list's rows lie. -/
structure RowsAt (lo hi : Nat) (w : World) (BB CC : Nat → Nat) (L : List (List Int)) : Prop where
  row : ∀ q, q < L.length → IMem lo hi w (.slice (some ⟨BB q, 0, none⟩) (Go.Proofs.Ytknnelenmedonaa.row L q).length (CC q)) (Go.Proofs.Ytknnelenmedonaa.row L q)
  ne : ∀ i j, i < L.length → j < L.length → i ≠ j → BB i ≠ BB j
theorem RowsAt.fresh {lo hi : Nat} {w w' : World} {BB CC : Nat → Nat} {L : List (List Int)} (h : RowsAt lo hi w BB CC L) (hb : Below w.heap.size w w') : RowsAt lo hi w' BB CC L := ⟨fun q hq => (h.row q hq).fresh hb, h.ne⟩
theorem RowsAt.cells_ne {lo hi g q : Nat} {w : World} {BB CC : Nat → Nat} {L : List (List Int)} {cur : Array Value} (h : RowsAt lo hi w BB CC L) (hg : w.heap[g]? = some (.cells cur 22 (0, 0))) (hq : q < L.length) : BB q ≠ g := by
  intro e
  obtain ⟨b, cap, cr, hv, k1, k2, h3, h4, h5, -⟩ := h.row q hq
  injection hv with e1
  injection e1 with e1
  injection e1 with e1
  subst e1
  rw [e, hg] at h5
  injection h5 with h5
  injection h5 with _ h5
  exact absurd h5 (by decide)
theorem RowsAt.setCell {lo hi g i : Nat} {w : World} {BB CC : Nat → Nat} {L : List (List Int)} {cur : Array Value} {u : Value} (h : RowsAt lo hi w BB CC L) (hg : w.heap[g]? = some (.cells cur 22 (0, 0))) : RowsAt lo hi (w.setCell ⟨g, i, none⟩ u) BB CC L :=
  ⟨fun q hq => (h.row q hq).setCell_other (by
    have := h.cells_ne hg hq
    simp [Value.ownBlock]
    exact this) _, h.ne⟩

/-- The places kept below j. -/
def selN (p : Nat → Bool) (j : Nat) : List Nat := (List.range j).filter p
theorem selN_yes {p : Nat → Bool} {j : Nat} (h : p j = true) : selN p (j + 1) = selN p j ++ [j] := by simp [selN, List.range_succ, List.filter_append, h]
theorem selN_no {p : Nat → Bool} {j : Nat} (h : p j = false) : selN p (j + 1) = selN p j := by simp [selN, List.range_succ, List.filter_append, h]
theorem selN_len (p : Nat → Bool) (j : Nat) : (selN p j).length ≤ j := by
  have := List.length_filter_le p (List.range j)
  simpa [selN] using this
theorem selN_all {p : Nat → Bool} {j : Nat} (h : ∀ q, q < j → p q = true) : selN p j = List.range j := by
  unfold selN
  rw [List.filter_eq_self]
  intro q hq
  exact h q (List.mem_range.1 hq)
theorem selN_lt {p : Nat → Bool} {j q : Nat} (h : q ∈ selN p j) : q < j := by
  simp [selN] at h
  exact h.1
theorem selN_nodup (p : Nat → Bool) (j : Nat) : (selN p j).Nodup := List.Pairwise.filter _ List.nodup_range
/-- The rows that are kept. -/
theorem sel_rows (f : List Int → Bool) (L : List (List Int)) : (selN (fun q => f (row L q)) L.length).map (row L) = L.filter f := by
  have h : L = (List.range L.length).map (row L) := by
    apply List.ext_getElem
    · simp
    · intro i h1 h2
      simp [row, h1]
  have h2 : L.filter f = ((List.range L.length).map (row L)).filter f := congrArg (List.filter f) h
  rw [h2, List.filter_map]
  rfl

/-- The kept rows stand in front, those from j on where they stood. -/
structure DelSt (lo hi g cap : Nat) (wb : World) (BB CC : Nat → Nat) (L : List (List Int)) (sel : List Nat) (j : Nat) (w : World) : Prop where
  below : Below wb.heap.size wb w
  rows : RowsAt lo hi w BB CC L
  low : wb.heap.size ≤ g
  at_ : ∃ cur, w.heap[g]? = some (.cells cur 22 (0, 0)) ∧ cur.size = cap ∧
    (∀ q, q < sel.length → cur[q]? = some (.slice (some ⟨BB (sel.getD q 0), 0, none⟩) (row L (sel.getD q 0)).length (CC (sel.getD q 0)))) ∧
    ∀ q, j ≤ q → q < L.length → cur[q]? = some (.slice (some ⟨BB q, 0, none⟩) (row L q).length (CC q))
section
variable {lo hi g cap j : Nat} {wb w w' : World} {BB CC : Nat → Nat} {L : List (List Int)} {sel : List Nat}
theorem DelSt.fresh (h : DelSt lo hi g cap wb BB CC L sel j w) (hb : Below w.heap.size w w') : DelSt lo hi g cap wb BB CC L sel j w' := by
  obtain ⟨cur, h1, h2⟩ := h.at_
  exact ⟨below_chain h.below hb, h.rows.fresh hb, h.low, cur, (hb.block g (lt_of_heap h1)).trans h1, h2⟩
theorem DelSt.cell (h : DelSt lo hi g cap wb BB CC L sel j w) {q : Nat} (hq : j ≤ q) (hl : q < L.length) : w.cell? ⟨g, q, none⟩ = some (.slice (some ⟨BB q, 0, none⟩) (row L q).length (CC q)) := by
  obtain ⟨cur, h1, h2, h3, h4⟩ := h.at_
  rw [cell_of_row w g q cur _ (0, 0) h1]
  exact h4 q hq hl
theorem DelSt.there (h : DelSt lo hi g cap wb BB CC L sel j w) {q : Nat} (hq : q < cap) : (w.cell? ⟨g, q, none⟩).isSome = true := by
  obtain ⟨cur, h1, h2, h3, h4⟩ := h.at_
  rw [cell_of_row w g q cur _ (0, 0) h1]
  simp [h2, hq]
theorem DelSt.frozen (h : DelSt lo hi g cap wb BB CC L sel j w) (q : Nat) : w.frozen? ⟨g, q, none⟩ = false := by
  obtain ⟨cur, h1, h2, h3, h4⟩ := h.at_
  simp [World.frozen?, h1]
theorem DelSt.skip (h : DelSt lo hi g cap wb BB CC L sel j w) : DelSt lo hi g cap wb BB CC L sel (j + 1) w := by
  obtain ⟨cur, h1, h2, h3, h4⟩ := h.at_
  exact ⟨h.below, h.rows, h.low, cur, h1, h2, h3, fun q hq hl => h4 q (by omega) hl⟩
theorem DelSt.here (h : DelSt lo hi g cap wb BB CC L sel j w) (hs : sel.length = j) (hl : j < L.length) : DelSt lo hi g cap wb BB CC L (sel ++ [j]) (j + 1) w := by
  obtain ⟨cur, h1, h2, h3, h4⟩ := h.at_
  refine ⟨h.below, h.rows, h.low, cur, h1, h2, fun q hq => ?_, fun q hq hl => h4 q (by omega) hl⟩
  by_cases e : q < sel.length
  · have : (sel ++ [j]).getD q 0 = sel.getD q 0 := by simp [List.getElem?_append, e]
    rw [this]; exact h3 q e
  · have eq : q = j := by simp at hq; omega
    subst eq
    have : (sel ++ [q]).getD q 0 = q := by simp [List.getElem?_append, hs]
    rw [this]; exact h4 q (Nat.le_refl _) hl
theorem DelSt.store (h : DelSt lo hi g cap wb BB CC L sel j w) (hs : sel.length < j) (hl : j < L.length) (hc : L.length ≤ cap) :
    DelSt lo hi g cap wb BB CC L (sel ++ [j]) (j + 1) (w.setCell ⟨g, sel.length, none⟩ (.slice (some ⟨BB j, 0, none⟩) (row L j).length (CC j))) := by
  obtain ⟨cur, h1, h2, h3, h4⟩ := h.at_
  refine ⟨h.below.setCell (p := ⟨g, sel.length, none⟩) h.low _, h.rows.setCell h1, h.low, cur.setIfInBounds sel.length (.slice (some ⟨BB j, 0, none⟩) (row L j).length (CC j)), by simp [World.setCell, Array.getElem?_modify, h1], by simpa using h2, fun q hq => ?_, fun q hq hl => ?_⟩
  · rw [Array.getElem?_setIfInBounds]
    by_cases e : sel.length = q
    · subst e
      have : (sel ++ [j]).getD sel.length 0 = j := by simp
      rw [this, if_pos rfl, if_pos (by omega)]
    · have hq' : q < sel.length := by simp at hq; omega
      have : (sel ++ [j]).getD q 0 = sel.getD q 0 := by simp [List.getElem?_append, hq']
      rw [if_neg e, this]; exact h3 q hq'
  · rw [Array.getElem?_setIfInBounds, if_neg (by omega)]
    exact h4 q (by omega) hl
theorem heap_setCells (e : TypeId) (fr : Nat × Nat) (g : Nat) : ∀ (vs : List Value) (o : Nat) (w : World) (cur : Array Value), w.heap[g]? = some (.cells cur e fr) →
    ∃ cur', (w.setCells g o vs).heap[g]? = some (.cells cur' e fr) ∧ cur'.size = cur.size ∧ ∀ q, q < o → cur'[q]? = cur[q]? := by
  intro vs
  induction vs with
  | nil => intro o w cur h; exact ⟨cur, h, rfl, fun _ _ => rfl⟩
  | cons v vs ih =>
    intro o w cur h
    obtain ⟨c2, h1, h2, h3⟩ := ih (o + 1) (w.setCell ⟨g, o, none⟩ v) (cur.setIfInBounds o v) (by simp [World.setCell, Array.getElem?_modify, h])
    refine ⟨c2, h1, by simpa using h2, fun q hq => ?_⟩
    rw [h3 q (by omega), Array.getElem?_setIfInBounds, if_neg (by omega)]
theorem below_setCells (B g : Nat) (hg : B ≤ g) : ∀ (vs : List Value) (o : Nat) (w : World), Below B w (w.setCells g o vs)
  | [], _, w => Below.refl B w
  | v :: r, o, w => ((Below.refl B w).setCell (p := ⟨g, o, none⟩) hg v).trans (below_setCells B g hg r (o + 1) _)
theorem imem_setCells {v : Value} {zs : List Int} (g : Nat) (hv : v.ownBlock ≠ some g) : ∀ (vs : List Value) (o : Nat) (w : World), IMem lo hi w v zs → IMem lo hi (w.setCells g o vs) v zs
  | [], _, _, h => h
  | x :: r, o, w, h => imem_setCells g hv r (o + 1) _ (h.setCell_other (p := ⟨g, o, none⟩) hv x)
theorem sel_get {n : Nat} (hm : ∀ x, x ∈ sel → x < n) {q : Nat} (hq : q < sel.length) : sel.getD q 0 < n := by
  have : sel.getD q 0 = sel[q] := by simp [hq]
  rw [this]; exact hm _ (List.getElem_mem hq)
theorem sel_inj (hn : sel.Nodup) {q r : Nat} (hq : q < sel.length) (hr : r < sel.length) (h : q ≠ r) : sel.getD q 0 ≠ sel.getD r 0 := by
  have e1 : sel.getD q 0 = sel[q] := by simp [hq]
  have e2 : sel.getD r 0 = sel[r] := by simp [hr]
  rw [e1, e2]
  exact fun e => h ((List.getElem_inj hn).1 e)
/-- In the end: the kept rows. -/
theorem DelSt.done (h : DelSt wb.heap.size hi g cap wb BB CC L sel j w) (hc : L.length ≤ cap) (hm : cap ≤ maxLen) (hn : sel.Nodup) (hlt : ∀ x, x ∈ sel → x < L.length) (hsl : sel.length ≤ L.length) :
    MMem wb.heap.size w.heap.size w (.slice (some ⟨g, 0, none⟩) sel.length cap) (sel.map (row L)) := by
  obtain ⟨cur, h1, h2, h3, h4⟩ := h.at_
  refine ⟨g, cap, cur, fun q => .slice (some ⟨BB (sel.getD q 0), 0, none⟩) (row L (sel.getD q 0)).length (CC (sel.getD q 0)), by simp, h.low, lt_of_heap h1, by simp; omega, hm, h1, h2, fun q hq => ?_, fun q r hq hr hqr => ?_⟩
  · rw [List.length_map] at hq
    refine ⟨h3 q hq, ?_⟩
    have e : row (sel.map (row L)) q = row L (sel.getD q 0) := by simp [row, hq]
    rw [e]
    exact (h.rows.row _ (sel_get hlt hq)).top
  · rw [List.length_map] at hq hr
    have := h.rows.ne _ _ (sel_get hlt hq) (sel_get hlt hr) (sel_inj hn hq hr hqr)
    simp only [Value.ownBlock]
    intro e
    injection e with e
    exact this e
theorem DelSt.cleared (h : DelSt lo hi g cap wb BB CC L sel j w) (vs : List Value) (hj : L.length ≤ j) : DelSt lo hi g cap wb BB CC L sel j (w.setCells g sel.length vs) := by
  obtain ⟨cur, h1, h2, h3, h4⟩ := h.at_
  obtain ⟨c2, k1, k2, k3⟩ := heap_setCells _ _ g vs sel.length w cur h1
  refine ⟨h.below.trans (below_setCells _ g h.low vs _ w), ⟨fun q hq => imem_setCells g (by
    have := h.rows.cells_ne h1 hq
    simp [Value.ownBlock]
    exact this) vs _ w (h.rows.row q hq), h.rows.ne⟩, h.low, c2, k1, by omega, fun q hq => by rw [k3 q hq]; exact h3 q hq, fun q hq hl => by omega⟩
end

end Go.Proofs.Ytknnelenmedonaa
