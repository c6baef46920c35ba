/- Plain facts on how far two spaces are unlike by pairs of their points. Conditions: as each theorem says. -/
import Derived.Test.YtclffncimaigfaaTreeLaw
import Derived.Test.YtclffncimaigfaaSets
namespace Go.Proofs.Ytclffncimaigfaa
set_option linter.unusedVariables false
set_option linter.unusedSimpArgs false
open Go.RowKit Go.Deep

/-- The points of the k-th pair. -/
def pa (ps : List (List Int)) (k : Nat) : Nat := (at2 ps k 0).toNat
def pb (ps : List (List Int)) (k : Nat) : Nat := (at2 ps k 1).toNat
structure PairOk (d e : List (List Int)) (r : List Int) : Prop where
  two : r.length = 2
  a0 : 0 ≤ iat r 0
  a1 : iat r 0 < (d.length : Int)
  b0 : 0 ≤ iat r 1
  b1 : iat r 1 < (e.length : Int)
structure UbOk (d e ps : List (List Int)) : Prop where
  a : Space d
  b : Space e
  nine : ps.length ≤ 9
  ok : ∀ k, k < ps.length → PairOk d e (row ps k)
  ca : ∀ i, i < d.length → ∃ k, k < ps.length ∧ pa ps k = i
  cb : ∀ i, i < e.length → ∃ k, k < ps.length ∧ pb ps k = i
theorem pair_pa {d e ps : List (List Int)} {k : Nat} (h : PairOk d e (row ps k)) : ((pa ps k : Nat) : Int) = iat (row ps k) 0 ∧ pa ps k < d.length ∧ ((pb ps k : Nat) : Int) = iat (row ps k) 1 ∧ pb ps k < e.length := by
  have h1 := h.a0
  have h2 := h.a1
  have h3 := h.b0
  have h4 := h.b1
  have e1 : at2 ps k 0 = iat (row ps k) 0 := rfl
  have e2 : at2 ps k 1 = iat (row ps k) 1 := rfl
  unfold pa pb
  rw [e1, e2]
  omega
def dd (d e ps : List (List Int)) (k j : Nat) : Int := at2 d (pa ps k) (pa ps j) - at2 e (pb ps k) (pb ps j)
def ubJ (F : Nat → Nat → Int) (k : Nat) (m : Int) (j : Nat) : Int := foldN (fun j m => max (max m (F k j)) (-(F k j))) m j
def ubK (F : Nat → Nat → Int) (L : Nat → Nat) (m : Int) (k : Nat) : Int := foldN (fun k m => ubJ F k m (L k)) m k
theorem ubJ_le {F : Nat → Nat → Int} {k j : Nat} {m B : Int} : ubJ F k m j ≤ B ↔ m ≤ B ∧ ∀ i, i < j → F k i ≤ B ∧ -(F k i) ≤ B := foldN_le fun i m _ => by omega
theorem ubK_le {F : Nat → Nat → Int} {L : Nat → Nat} {k : Nat} {m B : Int} : ubK F L m k ≤ B ↔ m ≤ B ∧ ∀ i, i < k → ∀ j, j < L i → F i j ≤ B ∧ -(F i j) ≤ B := foldN_le fun i m _ => ubJ_le
theorem ubJ_succ (F : Nat → Nat → Int) (k : Nat) (m : Int) (j : Nat) : ubJ F k m (j + 1) = max (max (ubJ F k m j) (F k j)) (-(F k j)) := rfl
theorem ubK_succ (F : Nat → Nat → Int) (L : Nat → Nat) (m : Int) (k : Nat) : ubK F L m (k + 1) = ubJ F k (ubK F L m k) (L k) := rfl
theorem ubK_pos (F : Nat → Nat → Int) (L : Nat → Nat) (k : Nat) : 0 ≤ ubK F L 0 k := (ubK_le.1 (Int.le_refl _)).1
/-- In both ways of looking at all pairs the greatest is the same. -/
theorem ub_half {F : Nat → Nat → Int} {n : Nat} (hs : ∀ k j, k < n → j < n → F k j = F j k) (h0 : ∀ k, k < n → F k k = 0) : ubK F (fun _ => n) 0 n = ubK F id 0 n := by
  have h1 : ubK F id 0 n ≤ ubK F (fun _ => n) 0 n := by
    obtain ⟨p, q⟩ := (ubK_le (F := F) (L := fun _ => n) (k := n) (m := 0)).1 (Int.le_refl _)
    exact ubK_le.2 ⟨p, fun i hi j hj => q i hi j (Nat.lt_trans hj hi)⟩
  have h2 : ubK F (fun _ => n) 0 n ≤ ubK F id 0 n := by
    obtain ⟨p, q⟩ := (ubK_le (F := F) (L := id) (k := n) (m := 0)).1 (Int.le_refl _)
    refine ubK_le.2 ⟨p, fun i hi j hj => ?_⟩
    have hj : j < n := hj
    by_cases e : j < i
    · exact q i hi j e
    · by_cases e2 : i < j
      · rw [hs i j hi hj]
        exact q j hj i e2
      · have : i = j := by omega
        subst this
        rw [h0 i hi]
        omega
  omega
section
variable {d e ps : List (List Int)} (h : UbOk d e ps)
include h
theorem dd_bd {k j : Nat} (hk : k < ps.length) (hj : j < ps.length) : -60 ≤ dd d e ps k j ∧ dd d e ps k j ≤ 60 := by
  have h1 := pair_pa (h.ok k hk)
  have h2 := pair_pa (h.ok j hj)
  obtain ⟨a1, a2, _, _⟩ := h.a.ent _ _ h1.2.1 h2.2.1
  obtain ⟨b1, b2, _, _⟩ := h.b.ent _ _ h1.2.2.2 h2.2.2.2
  unfold dd
  omega
theorem ub_eq : ubK (dd d e ps) (fun _ => ps.length) 0 ps.length = ubK (dd d e ps) id 0 ps.length := ub_half (fun k j hk hj => by
    have h1 := pair_pa (h.ok k hk)
    have h2 := pair_pa (h.ok j hj)
    have e1 := (h.a.ent _ _ h1.2.1 h2.2.1).2.2.1
    have e2 := (h.b.ent _ _ h1.2.2.2 h2.2.2.2).2.2.1
    unfold dd
    omega) (fun k hk => by
    have h1 := pair_pa (h.ok k hk)
    have e1 := (h.a.ent _ _ h1.2.1 h1.2.1).2.2.2.2 rfl
    have e2 := (h.b.ent _ _ h1.2.2.2 h1.2.2.2).2.2.2.2 rfl
    unfold dd
    omega)
theorem ub_bd : 0 ≤ ubK (dd d e ps) id 0 ps.length ∧ ubK (dd d e ps) id 0 ps.length ≤ 60 :=
  ⟨ubK_pos _ _ _, ubK_le.2 ⟨by omega, fun i hi j hj => by
    have hj : j < i := hj
    have := dd_bd h hi (show j < ps.length by omega)
    omega⟩⟩
end
noncomputable def ubV (d e ps : List (List Int)) : Int := if decP (UbOk d e ps) then ubK (dd d e ps) id 0 ps.length else -1
theorem ubV_yes {d e ps : List (List Int)} (h : UbOk d e ps) : ubV d e ps = ubK (dd d e ps) id 0 ps.length := by simp [ubV, decP_yes h]
theorem ubV_no {d e ps : List (List Int)} (h : ¬ UbOk d e ps) : ubV d e ps = -1 := by simp [ubV, decP_no h]
theorem ubV_bd (d e ps : List (List Int)) : -1 ≤ ubV d e ps ∧ ubV d e ps ≤ 60 := by
  by_cases h : UbOk d e ps
  · rw [ubV_yes h]
    have := ub_bd h
    omega
  · rw [ubV_no h]
    omega

/-- A mask tells which of the first six numbers are told. -/
def MaskP (m : Int) (S : Nat → Prop) : Prop := 0 ≤ m ∧ m < 64 ∧ ∀ i, i < 6 → (hasB m i ↔ S i)
theorem mask_zero : MaskP 0 (fun _ => False) := ⟨by omega, by omega, fun i hi => by simp [hasB]⟩
theorem mask_or {m : Int} {S : Nat → Prop} (h : MaskP m S) {p : Nat} (hp : p < 6) : MaskP (bits BinOp.or IntKind.i64 m (2 ^ p)) (fun i => S i ∨ i = p) := by
  obtain ⟨h1, h2, h3⟩ := h
  obtain ⟨n, rfl⟩ := Int.eq_ofNat_of_zero_le h1
  have key : ∀ (q : Fin 6) (n : Fin 64), 0 ≤ bits BinOp.or IntKind.i64 (n.val : Int) (2 ^ q.val) ∧ bits BinOp.or IntKind.i64 (n.val : Int) (2 ^ q.val) < 64 ∧
      ∀ i : Fin 6, (bits BinOp.or IntKind.i64 (n.val : Int) (2 ^ q.val) / 2 ^ i.val % 2 = 1 ↔ ((n.val : Int) / 2 ^ i.val % 2 = 1 ∨ i.val = q.val)) := by decide +kernel
  obtain ⟨k1, k2, k3⟩ := key ⟨p, hp⟩ ⟨n, by omega⟩
  refine ⟨k1, k2, fun i hi => ?_⟩
  have := k3 ⟨i, hi⟩
  have h4 := h3 i hi
  unfold hasB at h4 ⊢
  show _ ↔ (S i ∨ i = p)
  rw [← h4]
  exact this
theorem mask_all {m : Int} {S : Nat → Prop} (h : MaskP m S) {n : Nat} (hn : n ≤ 6) (hS : ∀ i, S i → i < n) : m = 2 ^ n - 1 ↔ ∀ i, i < n → S i := by
  obtain ⟨h1, h2, h3⟩ := h
  obtain ⟨k, rfl⟩ := Int.eq_ofNat_of_zero_le h1
  have key : ∀ (n : Fin 7) (k : Fin 64), ((k.val : Int) = 2 ^ n.val - 1 ↔ ∀ i : Fin 6, ((k.val : Int) / 2 ^ i.val % 2 = 1 ↔ i.val < n.val)) := by decide +kernel
  have := key ⟨n, by omega⟩ ⟨k, by omega⟩
  rw [this]
  constructor
  · intro h i hi
    have := h ⟨i, by omega⟩
    exact (h3 i (by omega)).1 (this.2 hi)
  · intro h i
    have := h3 i.val i.isLt
    constructor
    · intro hb
      exact hS _ (this.1 hb)
    · intro hi
      exact this.2 (h _ hi)
theorem MaskP.congr {m : Int} {S T : Nat → Prop} (h : MaskP m S) (hst : ∀ i, S i ↔ T i) : MaskP m T := ⟨h.1, h.2.1, fun i hi => (h.2.2 i hi).trans (hst i)⟩
/-- What is told by the first k pairs. -/
def CovA (ps : List (List Int)) (k i : Nat) : Prop := ∃ q, q < k ∧ pa ps q = i
def CovB (ps : List (List Int)) (k i : Nat) : Prop := ∃ q, q < k ∧ pb ps q = i
theorem covA_zero {ps : List (List Int)} {i : Nat} : False ↔ CovA ps 0 i := ⟨fun h => h.elim, fun ⟨q, hq, _⟩ => absurd hq (by omega)⟩
theorem covB_zero {ps : List (List Int)} {i : Nat} : False ↔ CovB ps 0 i := ⟨fun h => h.elim, fun ⟨q, hq, _⟩ => absurd hq (by omega)⟩
theorem covA_succ {ps : List (List Int)} {k i : Nat} : (CovA ps k i ∨ i = pa ps k) ↔ CovA ps (k + 1) i := by
  constructor
  · rintro (⟨q, hq, e⟩ | e)
    · exact ⟨q, by omega, e⟩
    · exact ⟨k, by omega, e.symm⟩
  · rintro ⟨q, hq, e⟩
    by_cases h : q < k
    · exact Or.inl ⟨q, h, e⟩
    · have : q = k := by omega
      subst this; exact Or.inr e.symm
theorem covB_succ {ps : List (List Int)} {k i : Nat} : (CovB ps k i ∨ i = pb ps k) ↔ CovB ps (k + 1) i := by
  constructor
  · rintro (⟨q, hq, e⟩ | e)
    · exact ⟨q, by omega, e⟩
    · exact ⟨k, by omega, e.symm⟩
  · rintro ⟨q, hq, e⟩
    by_cases h : q < k
    · exact Or.inl ⟨q, h, e⟩
    · have : q = k := by omega
      subst this; exact Or.inr e.symm

end Go.Proofs.Ytclffncimaigfaa
