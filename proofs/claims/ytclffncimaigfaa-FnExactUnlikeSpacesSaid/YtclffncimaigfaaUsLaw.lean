/- Plain facts on how far two spaces are unlike over all pairs of their points. Conditions: as each theorem says. -/
import Derived.Test.YtclffncimaigfaaUbLaw
namespace Go.Proofs.Ytclffncimaigfaa
set_option linter.unusedVariables false
set_option linter.unusedSimpArgs false
open Go.RowKit Go.Deep

/-- The pairs that a number chooses, of the first k ones. -/
def prS (n : Nat) (c : Int) : Nat → List (List Int)
  | 0 => []
  | k + 1 => if c / 2 ^ k % 2 = 1 then prS n c k ++ [[(k : Int) / (n : Int), (k : Int) % (n : Int)]] else prS n c k
theorem prS_hit {n : Nat} {c : Int} {k : Nat} (h : hasB c k) : prS n c (k + 1) = prS n c k ++ [[(k : Int) / (n : Int), (k : Int) % (n : Int)]] := if_pos h
theorem prS_miss {n : Nat} {c : Int} {k : Nat} (h : ¬ hasB c k) : prS n c (k + 1) = prS n c k := if_neg h
theorem prS_len (n : Nat) (c : Int) (k : Nat) : (prS n c k).length ≤ k := by
  induction k with
  | zero => exact Nat.le_refl _
  | succ k ih =>
    by_cases h : hasB c k
    · rw [prS_hit h, List.length_append]; simp; omega
    · rw [prS_miss h]; omega
theorem prS_none (n k : Nat) : prS n 0 k = [] := by
  induction k with
  | zero => rfl
  | succ k ih => rw [prS_miss (by simp [hasB]), ih]
theorem prS_all {n : Nat} {c : Int} {k : Nat} (h : ∀ i, i < k → hasB c i) : (prS n c k).length = k ∧ ∀ i, i < k → row (prS n c k) i = [(i : Int) / (n : Int), (i : Int) % (n : Int)] := by
  induction k with
  | zero => exact ⟨rfl, fun i hi => absurd hi (by omega)⟩
  | succ k ih =>
    obtain ⟨h1, h2⟩ := ih fun i hi => h i (by omega)
    rw [prS_hit (h k (by omega))]
    refine ⟨by simp [h1], fun i hi => ?_⟩
    by_cases e : i < k
    · rw [row_append_left (by omega), h2 i e]
    · have : i = k := by omega
      subst this
      have := row_append_right (a := prS n c i) (x := [(i : Int) / (n : Int), (i : Int) % (n : Int)])
      rwa [h1] at this
theorem full_bits {q : Nat} (hq : q ≤ 9) : ∀ i, i < q → hasB (2 ^ q - 1) i := by
  have key : ∀ q : Fin 10, ∀ i : Fin 10, i.val < q.val → ((2 : Int) ^ q.val - 1) / 2 ^ i.val % 2 = 1 := by decide +kernel
  exact fun i hi => key ⟨q, by omega⟩ ⟨i, by omega⟩ hi
theorem pow9_bd {n : Nat} (h9 : n ≤ 9) : (1 : Int) ≤ 2 ^ n ∧ (2 : Int) ^ n ≤ 512 := by
  have key : ∀ q : Fin 10, (1 : Int) ≤ 2 ^ q.val ∧ (2 : Int) ^ q.val ≤ 512 := by decide +kernel
  exact key ⟨n, by omega⟩
theorem wrap_pow9 {n : Nat} (h9 : n ≤ 9) : wrap64 (2 ^ n) = 2 ^ n := by
  have h := pow9_bd h9
  generalize (2 : Int) ^ n = x at h
  exact IntWalk.wrap64_in x ⟨by omega, by omega⟩
theorem and_one9 {t : Int} (h1 : 0 ≤ t) (h2 : t ≤ 511) : bits BinOp.and IntKind.i64 t 1 = t % 2 := by
  obtain ⟨n, rfl⟩ := Int.eq_ofNat_of_zero_le h1
  have key : ∀ m : Fin 512, bits BinOp.and IntKind.i64 (m.val : Int) 1 = (m.val : Int) % 2 := by decide +kernel
  exact key ⟨n, by omega⟩
theorem sh_bd9 {s : Int} {k : Nat} (h1 : 0 ≤ s) (h2 : s ≤ 511) : 0 ≤ s / 2 ^ k ∧ s / 2 ^ k ≤ 511 := by
  have hp : (1 : Int) ≤ 2 ^ k := by
    have : (0 : Int) < 2 ^ k := Int.pow_pos (by decide)
    omega
  exact ⟨Int.ediv_nonneg (by omega) (by omega), by have := Int.ediv_le_self (2 ^ k) (show 0 ≤ s by omega); omega⟩
theorem mul9 {m n : Nat} (hm : m ≤ 3) (hn : n ≤ 3) : m * n ≤ 9 := Nat.mul_le_mul hm hn

/-- By how much both are unlike by the chosen pairs. -/
noncomputable def usF (d e : List (List Int)) (c : Nat) : Int := ubV d e (prS e.length (c : Int) (d.length * e.length))
/-- What the program has found after the first k choices, and what the reference has. -/
noncomputable def usI (d e : List (List Int)) (k : Nat) : Int := foldN (fun c m => if 0 ≤ usF d e c then min m (usF d e c) else m) 60 k
noncomputable def usB (d e : List (List Int)) (k : Nat) : Int := foldN (fun c m => if 0 ≤ usF d e c ∧ (m < 0 ∨ usF d e c < m) then usF d e c else m) (-1) k
structure UsOk (d e : List (List Int)) : Prop where
  a : Space d
  b : Space e
  a3 : d.length ≤ 3
  b3 : e.length ≤ 3
noncomputable def usV (d e : List (List Int)) : Int := if decP (UsOk d e) then usI d e (2 ^ (d.length * e.length)) else -1
theorem usV_yes {d e : List (List Int)} (h : UsOk d e) : usV d e = usI d e (2 ^ (d.length * e.length)) := by simp [usV, decP_yes h]
theorem usV_no {d e : List (List Int)} (h : ¬ UsOk d e) : usV d e = -1 := by simp [usV, decP_no h]
theorem usF_bd (d e : List (List Int)) (c : Nat) : -1 ≤ usF d e c ∧ usF d e c ≤ 60 := ubV_bd _ _ _
theorem usI_hit {d e : List (List Int)} {c : Nat} (h : 0 ≤ usF d e c) : usI d e (c + 1) = min (usI d e c) (usF d e c) := by
  show (if 0 ≤ usF d e c then min (usI d e c) (usF d e c) else usI d e c) = _
  rw [if_pos h]
theorem usI_miss {d e : List (List Int)} {c : Nat} (h : ¬ 0 ≤ usF d e c) : usI d e (c + 1) = usI d e c := by
  show (if 0 ≤ usF d e c then min (usI d e c) (usF d e c) else usI d e c) = _
  rw [if_neg h]
theorem usB_hit {d e : List (List Int)} {c : Nat} (h : 0 ≤ usF d e c) (h2 : usB d e c < 0 ∨ usF d e c < usB d e c) : usB d e (c + 1) = usF d e c := by
  show (if 0 ≤ usF d e c ∧ (usB d e c < 0 ∨ usF d e c < usB d e c) then usF d e c else usB d e c) = _
  rw [if_pos ⟨h, h2⟩]
theorem usB_miss {d e : List (List Int)} {c : Nat} (h : ¬ (0 ≤ usF d e c ∧ (usB d e c < 0 ∨ usF d e c < usB d e c))) : usB d e (c + 1) = usB d e c := by
  show (if 0 ≤ usF d e c ∧ (usB d e c < 0 ∨ usF d e c < usB d e c) then usF d e c else usB d e c) = _
  rw [if_neg h]
theorem usI_bd (d e : List (List Int)) (k : Nat) : 0 ≤ usI d e k ∧ usI d e k ≤ 60 := by
  induction k with
  | zero => show (0 : Int) ≤ 60 ∧ (60 : Int) ≤ 60; omega
  | succ k ih =>
    by_cases h : 0 ≤ usF d e k
    · rw [usI_hit h]; omega
    · rw [usI_miss h]; exact ih
theorem usB_bd (d e : List (List Int)) (k : Nat) : -1 ≤ usB d e k ∧ usB d e k ≤ 60 := by
  induction k with
  | zero => show (-1 : Int) ≤ -1 ∧ (-1 : Int) ≤ 60; omega
  | succ k ih =>
    have := usF_bd d e k
    by_cases h : 0 ≤ usF d e k ∧ (usB d e k < 0 ∨ usF d e k < usB d e k)
    · rw [usB_hit h.1 h.2]; omega
    · rw [usB_miss h]; exact ih
theorem us_both (d e : List (List Int)) (k : Nat) : (usB d e k = -1 ∧ usI d e k = 60 ∧ ∀ c, c < k → usF d e c < 0) ∨ (0 ≤ usB d e k ∧ usI d e k = usB d e k) := by
  induction k with
  | zero => exact Or.inl ⟨rfl, rfl, fun c hc => absurd hc (by omega)⟩
  | succ k ih =>
    have hb := usF_bd d e k
    by_cases h : 0 ≤ usF d e k
    · right
      rw [usI_hit h]
      by_cases h2 : usB d e k < 0 ∨ usF d e k < usB d e k
      · rw [usB_hit h h2]
        rcases ih with ⟨a, b, _⟩ | ⟨a, b⟩ <;> omega
      · rw [usB_miss fun x => h2 x.2]
        rcases ih with ⟨a, b, _⟩ | ⟨a, b⟩ <;> omega
    · rw [usI_miss h, usB_miss fun x => h x.1]
      rcases ih with ⟨a, b, c⟩ | ⟨a, b⟩
      · refine Or.inl ⟨a, b, fun i hi => ?_⟩
        by_cases e : i < k
        · exact c i e
        · have : i = k := by omega
          subst this; omega
      · exact Or.inr ⟨a, b⟩
theorem usF_zero {d e : List (List Int)} (h : UsOk d e) : usF d e 0 = -1 := by
  unfold usF
  rw [show ((0 : Nat) : Int) = 0 from rfl, prS_none]
  refine ubV_no fun k => ?_
  obtain ⟨q, hq, _⟩ := k.ca 0 (by have := h.a.one; omega)
  exact absurd hq (by simp)
theorem usB_one {d e : List (List Int)} (h : UsOk d e) : usB d e 1 = -1 := by
  have h0 := usF_zero h
  rw [usB_miss (c := 0) fun x => by omega]
  rfl
/-- All pairs are chosen by the greatest number. -/
theorem us_full {d e : List (List Int)} (h : UsOk d e) : UbOk d e (prS e.length (2 ^ (d.length * e.length) - 1) (d.length * e.length)) := by
  have h9 := mul9 h.a3 h.b3
  have hd := h.a.one
  have he := h.b.one
  obtain ⟨h1, h2⟩ := prS_all (n := e.length) (full_bits h9)
  have ea : ∀ k, k < d.length * e.length → at2 (prS e.length (2 ^ (d.length * e.length) - 1) (d.length * e.length)) k 0 = (k : Int) / (e.length : Int) := fun k hk => by
    unfold at2; rw [h2 k hk]; rfl
  have eb : ∀ k, k < d.length * e.length → at2 (prS e.length (2 ^ (d.length * e.length) - 1) (d.length * e.length)) k 1 = (k : Int) % (e.length : Int) := fun k hk => by
    unfold at2; rw [h2 k hk]; rfl
  refine ⟨h.a, h.b, by omega, fun k hk => ?_, fun i hi => ?_, fun i hi => ?_⟩
  · rw [h1] at hk
    rw [h2 k hk]
    have k1 : k / e.length < d.length := Nat.div_lt_of_lt_mul (by rw [Nat.mul_comm]; exact hk)
    have k2 : k % e.length < e.length := Nat.mod_lt _ (by omega)
    refine ⟨rfl, ?_, ?_, ?_, ?_⟩
    · show 0 ≤ (k : Int) / (e.length : Int)
      rw [← Int.natCast_ediv]; exact Int.natCast_nonneg _
    · show (k : Int) / (e.length : Int) < (d.length : Int)
      rw [← Int.natCast_ediv]; exact Int.ofNat_lt.2 k1
    · show 0 ≤ (k : Int) % (e.length : Int)
      rw [← Int.natCast_emod]; exact Int.natCast_nonneg _
    · show (k : Int) % (e.length : Int) < (e.length : Int)
      rw [← Int.natCast_emod]; exact Int.ofNat_lt.2 k2
  · have hk : i * e.length < d.length * e.length := Nat.mul_lt_mul_of_pos_right hi (by omega)
    refine ⟨i * e.length, by rw [h1]; exact hk, ?_⟩
    unfold pa
    rw [ea _ hk, ← Int.natCast_ediv, Int.toNat_natCast]
    exact Nat.mul_div_cancel _ (by omega)
  · have hk : i < d.length * e.length := Nat.lt_of_lt_of_le hi (Nat.le_mul_of_pos_left _ (by omega))
    refine ⟨i, by rw [h1]; exact hk, ?_⟩
    unfold pb
    rw [eb _ hk, ← Int.natCast_emod, Int.toNat_natCast]
    exact Nat.mod_eq_of_lt hi
theorem us_same {d e : List (List Int)} (h : UsOk d e) : usB d e (2 ^ (d.length * e.length)) = usV d e := by
  rw [usV_yes h]
  rcases us_both d e (2 ^ (d.length * e.length)) with ⟨_, _, hn⟩ | ⟨_, h2⟩
  · have h1 : 1 ≤ 2 ^ (d.length * e.length) := Nat.one_le_two_pow
    have := hn (2 ^ (d.length * e.length) - 1) (by omega)
    have hf : usF d e (2 ^ (d.length * e.length) - 1) = ubV d e (prS e.length (2 ^ (d.length * e.length) - 1) (d.length * e.length)) := by
      unfold usF
      congr 2
      rw [Int.natCast_sub h1]
      simp
    rw [hf, ubV_yes (us_full h)] at this
    have := (ub_bd (us_full h)).1
    omega
  · exact h2.symm

end Go.Proofs.Ytclffncimaigfaa
