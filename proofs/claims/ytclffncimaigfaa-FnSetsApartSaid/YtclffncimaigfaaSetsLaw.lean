/- Plain facts on sets of points: how far they are from points and from each other. Conditions: as each theorem says. -/
import Derived.Test.YtclffncimaigfaaSets2
namespace Go.Proofs.Ytclffncimaigfaa
set_option linter.unusedVariables false
set_option linter.unusedSimpArgs false
open Go.RowKit Go.Deep

section
variable {d : List (List Int)} {a b s : Int}
theorem Space.own0 (h : Space d) {i : Nat} (hi : i < d.length) : at2 d i i = 0 := (h.ent i i hi hi).2.2.2.2 rfl
theorem Space.bd0 (h : Space d) {i k : Nat} (hi : i < d.length) (hk : k < d.length) : 0 ≤ at2 d i k ∧ at2 d i k ≤ 60 := ⟨(h.ent i k hi hk).1, (h.ent i k hi hk).2.1⟩
theorem ts_of {p k : Nat} (hb : hasB s k) : tsAt d p s k = at2 d p k := by unfold tsAt; exact if_pos hb
theorem ts_not {p k : Nat} (hb : ¬ hasB s k) : tsAt d p s k = 60 := by unfold tsAt; exact if_neg hb
theorem ts_le {p k : Nat} (hk : k < d.length) (hb : hasB s k) : tsF d p s ≤ at2 d p k := by
  have : tsF d p s ≤ tsAt d p s k := minN_le hk
  rwa [ts_of hb] at this
theorem ts_60 (p : Nat) : tsF d p s ≤ 60 := minN_le_start _ _ _
theorem ts_is (p : Nat) : tsF d p s = 60 ∨ ∃ k, k < d.length ∧ hasB s k ∧ tsF d p s = at2 d p k := by
  rcases minN_is (F := tsAt d p s) (m := 60) (n := d.length) with e | ⟨k, hk, e⟩
  · exact Or.inl e
  · by_cases hb : hasB s k
    · rw [ts_of hb] at e
      exact Or.inr ⟨k, hk, hb, e⟩
    · rw [ts_not hb] at e
      exact Or.inl e
theorem ts_zero (h : Space d) {q : Nat} (hq : q < d.length) : tsF d q s = 0 ↔ hasB s q := by
  constructor
  · intro e
    rcases ts_is (d := d) (s := s) q with e2 | ⟨k, hk, hb, e2⟩
    · omega
    · have : q = k := (h.ent q k hq hk).2.2.2.1 (by omega)
      rw [this]; exact hb
  · intro hb
    have h1 := ts_le (p := q) hq hb
    have h2 := h.own0 hq
    have h3 := (tsF_bd h hq s).1
    omega
/-- Two points are not unlike far by more than their distance. -/
theorem ts_tri (h : Space d) {q k : Nat} (hq : q < d.length) (hk : k < d.length) : tsF d q s ≤ tsF d k s + at2 d q k := by
  have hb := h.bd0 hq hk
  rcases ts_is (d := d) (s := s) k with e | ⟨i, hi, hb', e⟩
  · have := ts_60 (d := d) (s := s) q
    omega
  · have h1 := ts_le (p := q) hi hb'
    have h2 := h.tri q k i hq hk hi
    omega

theorem saHalf_le {m B : Int} {k : Nat} : saHalf d m k a b ≤ B ↔ m ≤ B ∧ (hasB a k → tsF d k b ≤ B) := by
  unfold saHalf
  by_cases hb : hasB a k
  · rw [decP_yes hb]
    simp only [if_true]
    constructor
    · intro h; exact ⟨by omega, fun _ => by omega⟩
    · intro ⟨h1, h2⟩; have := h2 hb; omega
  · rw [decP_no hb]
    simp only [Bool.false_eq_true, if_false]
    exact ⟨fun h => ⟨h, fun h' => absurd h' hb⟩, fun h => h.1⟩
theorem saTo_le {B : Int} {n : Nat} : saTo d a b n ≤ B ↔ 0 ≤ B ∧ ∀ k, k < n → (hasB a k → tsF d k b ≤ B) ∧ (hasB b k → tsF d k a ≤ B) := by
  induction n with
  | zero => exact ⟨fun h => ⟨h, fun k hk => by omega⟩, fun h => h.1⟩
  | succ n ih =>
    unfold saTo
    rw [saHalf_le, saHalf_le, ih]
    constructor
    · rintro ⟨⟨⟨h0, h1⟩, h2⟩, h3⟩
      refine ⟨h0, fun k hk => ?_⟩
      by_cases e : k < n
      · exact h1 k e
      · have : k = n := by omega
        subst this; exact ⟨h2, h3⟩
    · rintro ⟨h0, h1⟩
      exact ⟨⟨⟨h0, fun k hk => h1 k (by omega)⟩, (h1 n (by omega)).1⟩, (h1 n (by omega)).2⟩
theorem sa_pos {n : Nat} : 0 ≤ saTo d a b n := (saTo_le.1 (Int.le_refl _)).1
theorem sa_sym {n : Nat} : saTo d a b n = saTo d b a n := by
  have key : ∀ a b : Int, saTo d a b n ≤ saTo d b a n := fun a b => by
    rw [saTo_le]
    obtain ⟨h0, h1⟩ := (saTo_le (d := d) (a := b) (b := a) (n := n)).1 (Int.le_refl _)
    exact ⟨h0, fun k hk => ⟨(h1 k hk).2, (h1 k hk).1⟩⟩
  have h1 := key a b
  have h2 := key b a
  omega
/-- Sets are told by their points. -/
theorem bits_ext : ∀ (n : Nat) (a b : Int), 0 ≤ a → a < 2 ^ n → 0 ≤ b → b < 2 ^ n → (∀ k, k < n → (hasB a k ↔ hasB b k)) → a = b := by
  intro n
  induction n with
  | zero =>
    intro a b h1 h2 h3 h4 _
    simp only [Int.pow_zero] at h2 h4
    omega
  | succ n ih =>
    intro a b h1 h2 h3 h4 h
    rw [pow_succ'] at h2 h4
    have h0 := h 0 (by omega)
    unfold hasB at h0
    simp only [Int.pow_zero, Int.ediv_one] at h0
    have hh := ih (a / 2) (b / 2) (by omega) (by omega) (by omega) (by omega) (fun k hk => by
      have := h (k + 1) (by omega)
      unfold hasB at this ⊢
      rw [pow_succ'] at this
      rw [Int.ediv_ediv_of_nonneg (by decide), Int.ediv_ediv_of_nonneg (by decide)]
      exact this)
    omega
theorem sa_zero (ha : SetP d a) (hb : SetP d b) : saTo d a b d.length = 0 ↔ a = b := by
  have hS := ha.sp
  constructor
  · intro e
    obtain ⟨h0, h1⟩ := (saTo_le (d := d) (a := a) (b := b) (n := d.length)).1 (Int.le_refl _)
    refine bits_ext d.length a b (by have := ha.one; omega) ha.lt (by have := hb.one; omega) hb.lt fun k hk => ?_
    have h2 := h1 k hk
    have z1 := ts_zero (s := a) hS hk
    have z2 := ts_zero (s := b) hS hk
    have p1 := (tsF_bd hS hk a).1
    have p2 := (tsF_bd hS hk b).1
    exact ⟨fun h => z2.1 (by have := h2.1 h; omega), fun h => z1.1 (by have := h2.2 h; omega)⟩
  · intro e
    subst e
    have : saTo d a a d.length ≤ 0 := saTo_le.2 ⟨Int.le_refl _, fun k hk => by
      have : hasB a k → tsF d k a ≤ 0 := fun h => by have := (ts_zero (s := a) hS hk).2 h; omega
      exact ⟨this, this⟩⟩
    have := sa_pos (d := d) (a := a) (b := a) (n := d.length)
    omega
theorem has_all {n k : Nat} (h6 : n ≤ 6) (hk : k < n) : hasB (2 ^ n - 1) k := by
  have key : ∀ n : Fin 7, ∀ k : Fin 7, k.val < n.val → ((2 : Int) ^ n.val - 1) / 2 ^ k.val % 2 = 1 := by decide +kernel
  exact key ⟨n, by omega⟩ ⟨k, by omega⟩ hk
theorem has_single {n k : Nat} (h6 : n ≤ 6) (hk : k ≤ 6) : hasB (2 ^ n) k ↔ k = n := by
  have key : ∀ n : Fin 7, ∀ k : Fin 7, ((2 : Int) ^ n.val) / 2 ^ k.val % 2 = 1 ↔ k.val = n.val := by decide +kernel
  exact key ⟨n, by omega⟩ ⟨k, by omega⟩
theorem set_all (h : Space d) : SetP d (2 ^ d.length - 1) := ⟨h, by have := pow_bd h.one h.six; omega, by omega⟩
theorem set_single (h : Space d) {q : Nat} (hq : q < d.length) : SetP d (2 ^ q) :=
  ⟨h, by have := pow_bd0 (n := q) (by have := h.six; omega); omega, by
    have h6 := h.six
    have key : ∀ n : Fin 7, ∀ k : Fin 7, k.val < n.val → (2 : Int) ^ k.val < 2 ^ n.val := by decide +kernel
    exact key ⟨d.length, by omega⟩ ⟨q, by omega⟩ hq⟩
/-- Over the set of all points the way is no shorter. -/
theorem sa_over (ha : SetP d a) (hb : SetP d b) : saTo d a b d.length ≤ saTo d a (2 ^ d.length - 1) d.length + saTo d (2 ^ d.length - 1) b d.length := by
  have h6 := ha.sp.six
  obtain ⟨p1, h1⟩ := (saTo_le (d := d) (a := a) (b := 2 ^ d.length - 1) (n := d.length)).1 (Int.le_refl _)
  obtain ⟨p2, h2⟩ := (saTo_le (d := d) (a := 2 ^ d.length - 1) (b := b) (n := d.length)).1 (Int.le_refl _)
  refine saTo_le.2 ⟨by omega, fun k hk => ⟨fun _ => ?_, fun _ => ?_⟩⟩
  · have := (h2 k hk).1 (has_all h6 hk)
    omega
  · have := (h1 k hk).2 (has_all h6 hk)
    omega
theorem ts_single (h : Space d) {p q : Nat} (hp : p < d.length) (hq : q < d.length) : tsF d p (2 ^ q) = at2 d p q := by
  have h6 := h.six
  have h1 := ts_le (p := p) hq ((has_single (n := q) (k := q) (by omega) (by omega)).2 rfl)
  have h2 := h.bd0 hp hq
  rcases ts_is (d := d) (s := 2 ^ q) p with e | ⟨k, hk, hb, e⟩
  · omega
  · have : k = q := (has_single (by omega) (by omega)).1 hb
    rw [this] at e; exact e
theorem sa_single (h : Space d) {p q : Nat} (hp : p < d.length) (hq : q < d.length) : saTo d (2 ^ p) (2 ^ q) d.length = at2 d p q := by
  have h6 := h.six
  have hb := h.bd0 hp hq
  have hs := (h.ent p q hp hq).2.2.1
  have h1 : saTo d (2 ^ p) (2 ^ q) d.length ≤ at2 d p q := saTo_le.2 ⟨hb.1, fun k hk => ⟨fun hh => by
    have : k = p := (has_single (by omega) (by omega)).1 hh
    subst this
    rw [ts_single h hk hq]; exact Int.le_refl _, fun hh => by
    have : k = q := (has_single (by omega) (by omega)).1 hh
    subst this
    rw [ts_single h hk hp]; omega⟩⟩
  have h2 := ((saTo_le (d := d) (a := 2 ^ p) (b := 2 ^ q) (n := d.length)).1 (Int.le_refl _)).2 p hp
  have h3 := h2.1 ((has_single (by omega) (by omega)).2 rfl)
  rw [ts_single h hp hq] at h3
  omega
end

end Go.Proofs.Ytclffncimaigfaa
