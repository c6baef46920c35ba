/- Own rows that are written anew, or nil; numbers as marks. Conditions: as each theorem says. -/
import Derived.Test.YtclffncimaigfaaHelp2
namespace Go.Proofs.Ytclffncimaigfaa
set_option linter.unusedVariables false
set_option linter.unusedSimpArgs false
open Go.RowKit Go.Deep

theorem IMem.set {lo hi b n cap : Nat} {w : World} {zs ys : List Int} {x : Int} (h : IMem lo hi w (.slice (some ⟨b, 0, none⟩) n cap) zs) (hl : ys.length = zs.length) (i : Nat) (hx : iat ys i = x)
    (hj : ∀ j, j < zs.length → j ≠ i → iat ys j = iat zs j) : IMem lo hi (w.setCell ⟨b, i, none⟩ (.int .i64 x)) (.slice (some ⟨b, 0, none⟩) n cap) ys := by
  obtain ⟨b', cap', cur, hv, h1, h2, h3, h4, h5, h6, h7⟩ := h
  injection hv with e1 e2 e3
  injection e1 with e1
  injection e1 with e1
  subst e1 e2 e3
  refine ⟨b, cap, cur.setIfInBounds i (.int .i64 x), by rw [hl], h1, h2, by omega, h4, ?_, by simpa using h6, fun j hj' => ?_⟩
  · simp [World.setCell, Array.getElem?_modify, h5]
  · rw [Array.getElem?_setIfInBounds]
    by_cases e : i = j
    · subst e
      rw [if_pos rfl, if_pos (by omega), hx]
    · rw [if_neg e, h7 j (by omega), hj j (by omega) (by omega)]

/-- The numbers from k on, n of them. -/
def marks (k : Int) (n : Nat) : List Int := (List.range n).map fun i : Nat => k + (i : Int)
theorem marks_length (k : Int) (n : Nat) : (marks k n).length = n := by simp [marks]
theorem iat_marks {k : Int} {n i : Nat} (h : i < n) : iat (marks k n) i = k + i := by simp [marks, iat, h]
def markTo (k : Int) (j : Nat) (zs : List Int) : List Int := (List.range zs.length).map fun i : Nat => if i < j then k + (i : Int) else iat zs i
theorem markTo_length (k : Int) (j : Nat) (zs : List Int) : (markTo k j zs).length = zs.length := by simp [markTo]
theorem iat_markTo {k : Int} {j : Nat} {zs : List Int} {i : Nat} (h : i < zs.length) : iat (markTo k j zs) i = if i < j then k + (i : Int) else iat zs i := by simp [markTo, iat, h]
theorem markTo_zero (k : Int) (zs : List Int) : markTo k 0 zs = zs := ext_iat (markTo_length _ _ _) fun i hi => by
  rw [markTo_length] at hi
  rw [iat_markTo hi, if_neg (by omega)]
theorem markTo_all (k : Int) (zs : List Int) : markTo k zs.length zs = marks k zs.length := ext_iat (by simp [markTo, marks]) fun i hi => by
  rw [markTo_length] at hi
  rw [iat_markTo hi, if_pos hi, iat_marks hi]

/-- A row of the call's own, or nil. -/
def IVal (lo hi : Nat) (w : World) (v : Value) (zs : List Int) : Prop := IMem lo hi w v zs ∨ (v = .slice none 0 0 ∧ zs = [])
def MVal (lo hi : Nat) (w : World) (v : Value) (d : List (List Int)) : Prop := MMem lo hi w v d ∨ (v = .slice none 0 0 ∧ d = [])
theorem IVal.inn {lo hi : Nat} {w : World} {v : Value} {zs : List Int} (h : IVal lo hi w v zs) : IIn w v zs := by
  rcases h with h | ⟨rfl, rfl⟩
  · exact h.inn
  · exact IIn.nil _
theorem MVal.inn {lo hi : Nat} {w : World} {v : Value} {d : List (List Int)} (h : MVal lo hi w v d) : MIn w v d := by
  rcases h with h | ⟨rfl, rfl⟩
  · exact h.inn
  · exact MIn.nil _

/-- How many numbers stand in the first n rows. -/
def tot (d : List (List Int)) : Nat → Nat
  | 0 => 0
  | n + 1 => tot d n + (row d n).length
/-- The rows from the first on marked by the numbers from k on. -/
def marks2 (k : Int) (d : List (List Int)) : List (List Int) := (List.range d.length).map fun i : Nat => marks (k + (tot d i : Int)) (row d i).length
def marks2To (k : Int) (j : Nat) (d : List (List Int)) : List (List Int) := (List.range d.length).map fun i : Nat => if i < j then marks (k + (tot d i : Int)) (row d i).length else row d i
theorem marks2_length (k : Int) (d : List (List Int)) : (marks2 k d).length = d.length := by simp [marks2]
theorem marks2To_length (k : Int) (j : Nat) (d : List (List Int)) : (marks2To k j d).length = d.length := by simp [marks2To]
theorem row_marks2 {k : Int} {d : List (List Int)} {i : Nat} (h : i < d.length) : row (marks2 k d) i = marks (k + (tot d i : Int)) (row d i).length := by simp [marks2, row, h]
theorem row_marks2To {k : Int} {j : Nat} {d : List (List Int)} {i : Nat} (h : i < d.length) : row (marks2To k j d) i = if i < j then marks (k + (tot d i : Int)) (row d i).length else row d i := by
  simp [marks2To, row, h]
theorem marks2To_zero (k : Int) (d : List (List Int)) : marks2To k 0 d = d := ext_row (marks2To_length _ _ _) fun i hi => by
  rw [marks2To_length] at hi
  rw [row_marks2To hi, if_neg (by omega)]
theorem marks2To_all (k : Int) (d : List (List Int)) : marks2To k d.length d = marks2 k d := ext_row (by rw [marks2To_length, marks2_length]) fun i hi => by
  rw [marks2To_length] at hi
  rw [row_marks2To hi, if_pos hi, row_marks2 hi]

/-- A row may be written anew. -/
theorem MMem.rowset {lo hi : Nat} {w : World} {v : Value} {d : List (List Int)} (h : MMem lo hi w v d) {i : Nat} (hi' : i < d.length) :
    ∃ b cap g u, v = .slice (some ⟨b, 0, none⟩) d.length cap ∧ w.cell? ⟨b, i, none⟩ = some u ∧ lo ≤ g ∧ g < hi ∧ g ≠ b ∧ IMem g (g + 1) w u (row d i) ∧
      ∀ w' e, Outside g (g + 1) w w' → IMem g (g + 1) w' u (row e i) → e.length = d.length → (∀ j, j < d.length → j ≠ i → row e j = row d j) → MMem lo hi w' v e := by
  obtain ⟨b, cap, cur, V, rfl, k1, k2, h3, h4, h5, h6, h7, h8⟩ := h
  obtain ⟨g, cp, cr, hv, q1, q2, q3, q4, q5, q6, q7⟩ := (h7 i hi').2
  have hne : g ≠ b := by
    intro e
    rw [e, h5] at q5
    injection q5 with q5
    injection q5 with _ q5
    exact absurd q5 (by decide)
  refine ⟨b, cap, g, V i, rfl, by rw [cell_of_row w b i cur _ (0, 0) h5]; exact (h7 i hi').1, q1, q2, hne, ⟨g, cp, cr, hv, Nat.le_refl _, Nat.lt_succ_self _, q3, q4, q5, q6, q7⟩, ?_⟩
  intro w' e ho hI hl hother
  refine ⟨b, cap, cur, V, by rw [hl], k1, k2, by omega, h4, (ho.block b (by omega)).trans h5, h6, fun j hj => ?_, fun j j' hj hj' => h8 j j' (by omega) (by omega)⟩
  rw [hl] at hj
  refine ⟨(h7 j hj).1, ?_⟩
  by_cases hji : j = i
  · subst hji
    exact hI.widen q1 (by omega)
  · rw [hother j hj hji]
    obtain ⟨g', cp', cr', hv', q1', q2', q3', q4', q5', q6', q7'⟩ := (h7 j hj).2
    have hgg : g' ≠ g := by
      have := h8 j i hj hi' hji
      rw [hv', hv] at this
      simpa [Value.ownBlock] using this
    exact ⟨g', cp', cr', hv', q1', q2', q3', q4', (ho.block g' (by omega)).trans q5', q6', q7'⟩

theorem tot_le {d : List (List Int)} {j n : Nat} (h : j ≤ n) : tot d j ≤ tot d n := by
  induction n with
  | zero => have : j = 0 := by omega
            subst this; exact Nat.le_refl _
  | succ n ih =>
    by_cases e : j = n + 1
    · subst e; exact Nat.le_refl _
    · exact Nat.le_trans (ih (by omega)) (Nat.le_add_right _ _)

end Go.Proofs.Ytclffncimaigfaa
