/- Plain facts on the order of rows. Conditions: as each theorem says. -/
import Derived.Test.YtknnelenmedonaaOrds
namespace Go.Proofs.Ytknnelenmedonaa
set_option linter.unusedVariables false
set_option linter.unusedSimpArgs false
open Go.RowKit Go.Deep

def lexR : List Int → List Int → Int
  | [], [] => 0
  | [], _ :: _ => -1
  | _ :: _, [] => 1
  | x :: a, y :: b => if x < y then -1 else if y < x then 1 else lexR a b
def lexM : List (List Int) → List (List Int) → Int
  | [], [] => 0
  | [], _ :: _ => -1
  | _ :: _, [] => 1
  | x :: a, y :: b => if lexR x y = 0 then lexM a b else lexR x y
theorem lexR_self (a : List Int) : lexR a a = 0 := by
  induction a with
  | nil => rfl
  | cons x a ih => simp [lexR, ih]
theorem lexR_zero {a b : List Int} : lexR a b = 0 ↔ a = b := by
  constructor
  · induction a generalizing b with
    | nil =>
      cases b with
      | nil => intro _; rfl
      | cons y b => intro h; simp [lexR] at h
    | cons x a ih =>
      cases b with
      | nil => intro h; simp [lexR] at h
      | cons y b =>
        intro h
        simp only [lexR] at h
        split at h
        · omega
        · split at h
          · omega
          · have e : x = y := by omega
            rw [e, ih h]
  · rintro rfl; exact lexR_self a
theorem lexR_is (a b : List Int) : lexR a b = -1 ∨ lexR a b = 0 ∨ lexR a b = 1 := by
  induction a generalizing b with
  | nil => cases b <;> simp [lexR]
  | cons x a ih =>
    cases b with
    | nil => simp [lexR]
    | cons y b =>
      simp only [lexR]
      split
      · exact Or.inl rfl
      · split
        · exact Or.inr (Or.inr rfl)
        · exact ih b
theorem lexR_neg (a b : List Int) : lexR b a = - lexR a b := by
  induction a generalizing b with
  | nil => cases b <;> simp [lexR]
  | cons x a ih =>
    cases b with
    | nil => simp [lexR]
    | cons y b =>
      simp only [lexR]
      by_cases h1 : x < y
      · rw [if_pos h1, if_neg (by omega), if_pos h1]; rfl
      · by_cases h2 : y < x
        · rw [if_pos h2, if_neg h1, if_pos h2]
        · rw [if_neg h2, if_neg h1, if_neg h1, if_neg h2]; exact ih b
theorem lexR_trans {a b c : List Int} (h1 : lexR a b < 0) (h2 : lexR b c < 0) : lexR a c < 0 := by
  induction a generalizing b c with
  | nil =>
    cases c with
    | nil => cases b <;> simp [lexR] at h1 h2
    | cons z c => simp [lexR]
  | cons x a ih =>
    cases b with
    | nil => simp [lexR] at h1
    | cons y b =>
      cases c with
      | nil => simp [lexR] at h2
      | cons z c =>
        simp only [lexR] at h1 h2 ⊢
        split at h1
        · split at h2
          · rw [if_pos (by omega)]; decide
          · split at h2
            · omega
            · rw [if_pos (by omega)]; decide
        · split at h1
          · omega
          · split at h2
            · rw [if_pos (by omega)]; decide
            · split at h2
              · omega
              · rw [if_neg (by omega), if_neg (by omega)]
                exact ih h1 h2
theorem iat_cons_succ (x : Int) (a : List Int) (i : Nat) : iat (x :: a) (i + 1) = iat a i := rfl
theorem iat_cons_zero (x : Int) (a : List Int) : iat (x :: a) 0 = x := rfl
/-- The first difference tells. -/
theorem lexR_at {a b : List Int} {k : Nat} (ha : k < a.length) (hb : k < b.length) (h : ∀ j, j < k → iat a j = iat b j) : lexR a b = if iat a k < iat b k then -1 else if iat b k < iat a k then 1 else lexR (a.drop (k + 1)) (b.drop (k + 1)) := by
  induction k generalizing a b with
  | zero =>
    cases a with
    | nil => simp at ha
    | cons x a =>
      cases b with
      | nil => simp at hb
      | cons y b => rfl
  | succ k ih =>
    cases a with
    | nil => simp at ha
    | cons x a =>
      cases b with
      | nil => simp at hb
      | cons y b =>
        have h0 := h 0 (by omega)
        rw [iat_cons_zero, iat_cons_zero] at h0
        subst h0
        have := ih (a := a) (b := b) (by simpa using ha) (by simpa using hb) (fun j hj => h (j + 1) (by omega))
        simp only [lexR, Int.lt_irrefl, if_false]
        rw [this]
        rfl
theorem lexR_long {a b : List Int} (hl : b.length < a.length) (h : ∀ j, j < b.length → iat a j = iat b j) : lexR a b = 1 := by
  induction a generalizing b with
  | nil => simp at hl
  | cons x a ih =>
    cases b with
    | nil => rfl
    | cons y b =>
      have h0 := h 0 (by simp)
      rw [iat_cons_zero, iat_cons_zero] at h0
      subst h0
      simp only [lexR, Int.lt_irrefl, if_false]
      exact ih (by simpa using hl) (fun j hj => h (j + 1) (by simpa using hj))
theorem lexR_short {a b : List Int} (hl : a.length < b.length) (h : ∀ j, j < a.length → iat a j = iat b j) : lexR a b = -1 := by
  have h1 := lexR_long (a := b) (b := a) hl (fun j hj => (h j hj).symm)
  have h2 := lexR_neg a b
  omega
theorem lexR_same {a b : List Int} (hl : a.length = b.length) (h : ∀ j, j < a.length → iat a j = iat b j) : lexR a b = 0 := lexR_zero.2 (ext_iat hl h)

theorem lexM_zero {a b : List (List Int)} : lexM a b = 0 ↔ a = b := by
  constructor
  · induction a generalizing b with
    | nil =>
      cases b with
      | nil => intro _; rfl
      | cons y b => intro h; simp [lexM] at h
    | cons x a ih =>
      cases b with
      | nil => intro h; simp [lexM] at h
      | cons y b =>
        intro h
        simp only [lexM] at h
        split at h
        · rename_i e
          rw [lexR_zero.1 e, ih h]
        · rename_i e
          exact absurd h e
  · rintro rfl
    induction a with
    | nil => rfl
    | cons x a ih => simp [lexM, lexR_self, ih]
theorem lexM_neg (a b : List (List Int)) : lexM b a = - lexM a b := by
  induction a generalizing b with
  | nil => cases b <;> simp [lexM]
  | cons x a ih =>
    cases b with
    | nil => simp [lexM]
    | cons y b =>
      simp only [lexM]
      have := lexR_neg x y
      by_cases h : lexR x y = 0
      · rw [if_pos (by omega), if_pos h]; exact ih b
      · rw [if_neg (by omega), if_neg h]; exact this
theorem lexM_trans {a b c : List (List Int)} (h1 : lexM a b < 0) (h2 : lexM b c < 0) : lexM a c < 0 := by
  induction a generalizing b c with
  | nil =>
    cases c with
    | nil => cases b <;> simp [lexM] at h1 h2
    | cons z c => simp [lexM]
  | cons x a ih =>
    cases b with
    | nil => simp [lexM] at h1
    | cons y b =>
      cases c with
      | nil => simp [lexM] at h2
      | cons z c =>
        simp only [lexM] at h1 h2 ⊢
        split at h1
        · rename_i e1
          have e1 := lexR_zero.1 e1
          subst e1
          split at h2
          · rename_i e2
            rw [if_pos e2]
            exact ih h1 h2
          · rename_i e2
            rw [if_neg e2]
            exact h2
        · split at h2
          · rename_i e1 e2
            have e2 := lexR_zero.1 e2
            subst e2
            rw [if_neg e1]
            exact h1
          · have := lexR_trans h1 h2
            rw [if_neg (by omega)]
            exact this
theorem row_cons_succ (x : List Int) (a : List (List Int)) (i : Nat) : row (x :: a) (i + 1) = row a i := rfl
theorem row_cons_zero (x : List Int) (a : List (List Int)) : row (x :: a) 0 = x := rfl
/-- The first row that is another tells. -/
theorem lexM_at {a b : List (List Int)} {k : Nat} (ha : k < a.length) (hb : k < b.length) (h : ∀ j, j < k → row a j = row b j) (hne : lexR (row a k) (row b k) ≠ 0) : lexM a b = lexR (row a k) (row b k) := by
  induction k generalizing a b with
  | zero =>
    cases a with
    | nil => simp at ha
    | cons x a =>
      cases b with
      | nil => simp at hb
      | cons y b =>
        simp only [lexM]
        rw [row_cons_zero, row_cons_zero] at hne ⊢
        rw [if_neg hne]
  | succ k ih =>
    cases a with
    | nil => simp at ha
    | cons x a =>
      cases b with
      | nil => simp at hb
      | cons y b =>
        have h0 := h 0 (by omega)
        rw [row_cons_zero, row_cons_zero] at h0
        subst h0
        simp only [lexM, lexR_self, if_true]
        rw [row_cons_succ, row_cons_succ] at hne ⊢
        exact ih (by simpa using ha) (by simpa using hb) (fun j hj => h (j + 1) (by omega)) hne
theorem lexM_long {a b : List (List Int)} (hl : b.length < a.length) (h : ∀ j, j < b.length → row a j = row b j) : lexM a b = 1 := by
  induction a generalizing b with
  | nil => simp at hl
  | cons x a ih =>
    cases b with
    | nil => rfl
    | cons y b =>
      have h0 := h 0 (by simp)
      rw [row_cons_zero, row_cons_zero] at h0
      subst h0
      simp only [lexM, lexR_self, if_true]
      exact ih (by simpa using hl) (fun j hj => h (j + 1) (by simpa using hj))
theorem lexM_short {a b : List (List Int)} (hl : a.length < b.length) (h : ∀ j, j < a.length → row a j = row b j) : lexM a b = -1 := by
  have h1 := lexM_long (a := b) (b := a) hl (fun j hj => (h j hj).symm)
  have h2 := lexM_neg a b
  omega
theorem lexM_same {a b : List (List Int)} (hl : a.length = b.length) (h : ∀ j, j < a.length → row a j = row b j) : lexM a b = 0 := lexM_zero.2 (ext_row hl h)
/-- In squares the first number that is another tells. -/
theorem lexM_num {a b : List (List Int)} {n k j : Nat} (ha : a.length = n) (hb : b.length = n) (ra : ∀ i, i < n → (row a i).length = n) (rb : ∀ i, i < n → (row b i).length = n) (hk : k < n) (hj : j < n)
    (h : ∀ i, i < k → row a i = row b i) (h2 : ∀ i, i < j → at2 a k i = at2 b k i) (hne : at2 a k j ≠ at2 b k j) : lexM a b < 0 ↔ at2 a k j < at2 b k j := by
  have e := lexR_at (a := row a k) (b := row b k) (k := j) (by rw [ra k hk]; exact hj) (by rw [rb k hk]; exact hj) h2
  by_cases hlt : at2 a k j < at2 b k j
  · have e1 : lexR (row a k) (row b k) = -1 := by rw [e]; exact if_pos hlt
    rw [lexM_at (by omega) (by omega) h (by omega), e1]
    exact ⟨fun _ => hlt, fun _ => by decide⟩
  · have e1 : lexR (row a k) (row b k) = 1 := by
      rw [e]
      rw [if_neg (show ¬ iat (row a k) j < iat (row b k) j from hlt)]
      exact if_pos (show at2 b k j < at2 a k j by omega)
    rw [lexM_at (by omega) (by omega) h (by omega), e1]
    exact ⟨fun h => absurd h (by decide), fun h => absurd h hlt⟩

end Go.Proofs.Ytknnelenmedonaa
