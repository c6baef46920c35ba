/- Plain words: greatest and least values of finitely many numbers. Conditions: none. -/
import Derived.Test.YtclffncimaigfaaSpace3
namespace Go.Proofs.Ytclffncimaigfaa
set_option linter.unusedVariables false
set_option linter.unusedSimpArgs false

/-- The greatest of m and F 0 .. F (n-1). -/
def maxN (F : Nat → Int) (m : Int) : Nat → Int
  | 0 => m
  | n + 1 => max (maxN F m n) (F n)
/-- The least of m and F 0 .. F (n-1). -/
def minN (F : Nat → Int) (m : Int) : Nat → Int
  | 0 => m
  | n + 1 => min (minN F m n) (F n)

theorem le_maxN (F : Nat → Int) (m : Int) (n : Nat) : m ≤ maxN F m n := by
  induction n with
  | zero => exact Int.le_refl _
  | succ n ih => simp only [maxN]; omega
theorem maxN_ge {F : Nat → Int} {m : Int} {n i : Nat} (h : i < n) : F i ≤ maxN F m n := by
  induction n with
  | zero => omega
  | succ n ih =>
    simp only [maxN]
    by_cases e : i = n
    · subst e; omega
    · have := ih (by omega); omega
theorem maxN_le {F : Nat → Int} {m B : Int} {n : Nat} (hm : m ≤ B) (h : ∀ i, i < n → F i ≤ B) : maxN F m n ≤ B := by
  induction n with
  | zero => exact hm
  | succ n ih =>
    have := ih (fun i hi => h i (by omega))
    have := h n (by omega)
    simp only [maxN]; omega
theorem maxN_is {F : Nat → Int} {m : Int} {n : Nat} : maxN F m n = m ∨ ∃ i, i < n ∧ maxN F m n = F i := by
  induction n with
  | zero => exact .inl rfl
  | succ n ih =>
    simp only [maxN]
    rcases Int.le_total (F n) (maxN F m n) with h | h
    · rw [Int.max_eq_left h]
      rcases ih with e | ⟨i, hi, e⟩
      · exact .inl e
      · exact .inr ⟨i, by omega, e⟩
    · rw [Int.max_eq_right h]
      exact .inr ⟨n, by omega, rfl⟩
theorem maxN_congr {F G : Nat → Int} {m : Int} {n : Nat} (h : ∀ i, i < n → F i = G i) : maxN F m n = maxN G m n := by
  induction n with
  | zero => rfl
  | succ n ih => simp only [maxN]; rw [ih (fun i hi => h i (by omega)), h n (by omega)]
theorem minN_le_start (F : Nat → Int) (m : Int) (n : Nat) : minN F m n ≤ m := by
  induction n with
  | zero => exact Int.le_refl _
  | succ n ih => simp only [minN]; omega
theorem minN_le {F : Nat → Int} {m : Int} {n i : Nat} (h : i < n) : minN F m n ≤ F i := by
  induction n with
  | zero => omega
  | succ n ih =>
    simp only [minN]
    by_cases e : i = n
    · subst e; omega
    · have := ih (by omega); omega
theorem le_minN {F : Nat → Int} {m B : Int} {n : Nat} (hm : B ≤ m) (h : ∀ i, i < n → B ≤ F i) : B ≤ minN F m n := by
  induction n with
  | zero => exact hm
  | succ n ih =>
    have := ih (fun i hi => h i (by omega))
    have := h n (by omega)
    simp only [minN]; omega
theorem minN_is {F : Nat → Int} {m : Int} {n : Nat} : minN F m n = m ∨ ∃ i, i < n ∧ minN F m n = F i := by
  induction n with
  | zero => exact .inl rfl
  | succ n ih =>
    simp only [minN]
    rcases Int.le_total (minN F m n) (F n) with h | h
    · rw [Int.min_eq_left h]
      rcases ih with e | ⟨i, hi, e⟩
      · exact .inl e
      · exact .inr ⟨i, by omega, e⟩
    · rw [Int.min_eq_right h]
      exact .inr ⟨n, by omega, rfl⟩
theorem minN_congr {F G : Nat → Int} {m : Int} {n : Nat} (h : ∀ i, i < n → F i = G i) : minN F m n = minN G m n := by
  induction n with
  | zero => rfl
  | succ n ih => simp only [minN]; rw [ih (fun i hi => h i (by omega)), h n (by omega)]

theorem maxN_step (F : Nat → Int) (m : Int) (k : Nat) : (if maxN F m k < F k then F k else maxN F m k) = maxN F m (k + 1) := by
  simp only [maxN]; split <;> omega

theorem minN_step (F : Nat → Int) (m : Int) (k : Nat) : (if F k < minN F m k then F k else minN F m k) = minN F m (k + 1) := by
  simp only [minN]; split <;> omega

/-- One round of a search for what holds of all. -/
theorem all_step {P : Nat → Prop} {k : Nat} (h : ∀ j, j < k → P j) (hk : P k) : ∀ j, j < k + 1 → P j := by
  intro j hj
  by_cases e : j < k
  · exact h j e
  · have : j = k := by omega
    subst this; exact hk
theorem none_yet {P : Nat → Prop} : ∀ j, j < 0 → P j := fun j hj => absurd hj (by omega)

end Go.Proofs.Ytclffncimaigfaa
