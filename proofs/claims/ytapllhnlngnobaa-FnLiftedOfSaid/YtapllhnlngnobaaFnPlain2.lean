/- Plain facts: what TightBelow returns is tight and lies below; what is tight is tame; MiddleOf covers. Conditions: as each theorem says. -/
import Derived.Test.YtapllhnlngnobaaFnPlain
import Derived.Test.YtapllhnlngnobaaTight
namespace Go.Proofs.Ytapllhnlngnobaa
set_option linter.unusedVariables false
set_option linter.unusedSimpArgs false
open Go.RowKit Go.Deep

section
variable {d : List (List Int)} {f : List Int}
theorem lowF_le {g : List Int} (h : Cov d g) {i : Nat} (hi : i < d.length) : lowF d g i ≤ iat g i := by
  refine maxN_le (h.pos i hi) fun k hk => ?_
  unfold lowAt
  split
  · exact h.pos i hi
  · have := h.ok i k hi hk; omega
theorem lowF_ge {g : List Int} {i k : Nat} (hk : k < d.length) (hne : k ≠ i) : at2 d i k ≤ lowF d g i + iat g k := by
  have : lowAt d g i k ≤ lowF d g i := maxN_ge hk
  unfold lowAt at this
  rw [if_neg hne] at this
  omega
theorem lowF_pos (g : List Int) (i : Nat) : 0 ≤ lowF d g i := le_maxN _ _ _
/-- One step keeps covering. -/
theorem cov_step {g : List Int} (h : Cov d g) {i : Nat} (hi : i < d.length) : Cov d (g.set i (lowF d g i)) := by
  have hl := h.vals.len
  have hlow := lowF_le h hi
  have hpos := lowF_pos (d := d) g i
  have at_ : ∀ j, j < d.length → iat (g.set i (lowF d g i)) j = if i = j then lowF d g i else iat g j := fun j hj => iat_set (by omega)
  refine ⟨h.sp, vals_of (by simp [hl]) fun j hj => ?_, fun j hj => ?_, fun j k hj hk => ?_⟩
  · rw [at_ j hj]
    have := h.vals.bd hj
    have := h.vals.bd hi
    split <;> omega
  · rw [at_ j hj]
    have := h.pos j hj
    split <;> omega
  · rw [at_ j hj, at_ k hk]
    by_cases e : i = j <;> by_cases e' : i = k
    · subst e; subst e'
      have := h.sp.own hi
      simp only [if_true]; omega
    · subst e
      simp only [if_true, e', if_false]
      exact lowF_ge hk (fun h => e' h.symm)
    · subst e'
      simp only [if_true, e, if_false]
      have h1 := lowF_ge (g := g) hj (fun h => e h.symm)
      have h2 := h.sp.sym hj hi
      omega
    · simp only [e, e', if_false]
      exact h.ok j k hj hk
theorem cov_tbTo (h : Cov d f) {i : Nat} (hi : i ≤ d.length) : Cov d (tbTo d f i) := by
  induction i with
  | zero => exact h
  | succ i ih => exact cov_step (ih (by omega)) (by omega)
theorem tbTo_le (h : Cov d f) {i j : Nat} (hi : i ≤ d.length) (hj : j < d.length) : iat (tbTo d f i) j ≤ iat f j := by
  induction i with
  | zero => exact Int.le_refl _
  | succ i ih =>
    have hc := cov_tbTo h (show i ≤ d.length by omega)
    have ih := ih (by omega)
    rw [iat_tbTo (by rw [h.vals.len]; exact hj)]
    split
    · subst_vars
      have := lowF_le hc hj
      omega
    · exact ih
/-- Lower, covering, and with a partner before: the partner stays. -/
theorem part_stays {g g' : List Int} (h : Cov d g') (hle : ∀ j, j < d.length → iat g' j ≤ iat g j) {i : Nat} (hi : i < d.length) (hp : Part d g i) : Part d g' i := by
  obtain ⟨q, hq, e⟩ := hp
  refine ⟨q, hq, ?_⟩
  have h1 := hle i hi
  have h2 := hle q hq
  have h3 := h.ok i q hi hq
  omega
theorem part_step {g : List Int} (h : Cov d g) {i : Nat} (hi : i < d.length) : Part d (g.set i (lowF d g i)) i := by
  have hl := h.vals.len
  have at_ : ∀ j, j < d.length → iat (g.set i (lowF d g i)) j = if i = j then lowF d g i else iat g j := fun j hj => iat_set (by omega)
  have self : lowF d g i = 0 → Part d (g.set i (lowF d g i)) i := fun e => ⟨i, hi, by
    rw [at_ i hi]
    have := h.sp.own hi
    simp only [if_true]; omega⟩
  rcases maxN_is (F := lowAt d g i) (m := 0) (n := d.length) with e | ⟨k, hk, e⟩
  · exact self e
  · have e : lowF d g i = lowAt d g i k := e
    by_cases hki : k = i
    · refine self ?_
      rw [e]
      simp [lowAt, hki]
    · refine ⟨k, hk, ?_⟩
      rw [at_ i hi, at_ k hk]
      simp only [if_true, show ¬ i = k from fun h => hki h.symm, if_false]
      unfold lowAt at e
      rw [if_neg hki] at e
      omega
theorem part_tbTo (h : Cov d f) {i : Nat} (hi : i ≤ d.length) : ∀ j, j < i → Part d (tbTo d f i) j := by
  induction i with
  | zero => intro j hj; omega
  | succ i ih =>
    have hc := cov_tbTo h (show i ≤ d.length by omega)
    intro j hj
    by_cases e : j = i
    · subst e
      exact part_step hc (by omega)
    · have := ih (by omega) j (by omega)
      refine part_stays (cov_step hc (by omega)) (fun k hk => ?_) (by omega) this
      have hl := hc.vals.len
      rw [iat_set (by omega)]
      split
      · subst_vars; exact lowF_le hc hk
      · exact Int.le_refl _
theorem tight_tb (h : Cov d f) : TightP d (tbV d f) := by
  rw [tbV_yes h]
  exact ⟨cov_tbTo h (Nat.le_refl _), part_tbTo h (Nat.le_refl _)⟩
theorem tb_le (h : Cov d f) {j : Nat} (hj : j < d.length) : iat (tbV d f) j ≤ iat f j := by
  rw [tbV_yes h]
  exact tbTo_le h (Nat.le_refl _) hj
theorem tb_len (h : Cov d f) : (tbV d f).length = d.length := by
  rw [tbV_yes h, tbTo_length, h.vals.len]
/-- What is tight stays. -/
theorem low_tight (h : TightP d f) {i : Nat} (hi : i < d.length) : lowF d f i = iat f i := by
  obtain ⟨q, hq, e⟩ := h.part i hi
  have h1 := lowF_le h.cov hi
  have h2 := lowF_pos (d := d) f i
  by_cases hqi : q = i
  · subst hqi
    have := h.cov.sp.own hi
    omega
  · have := lowF_ge (d := d) (g := f) (i := i) hq hqi
    omega
theorem tbTo_tight (h : TightP d f) {i : Nat} (hi : i ≤ d.length) : tbTo d f i = f := by
  induction i with
  | zero => rfl
  | succ i ih =>
    rw [tbTo, ih (by omega), low_tight h (by omega)]
    refine ext_iat (by simp) fun j hj => ?_
    rw [List.length_set] at hj
    rw [iat_set hj]
    split
    · subst_vars; rfl
    · rfl
theorem tb_tight (h : TightP d f) : tbV d f = f := by
  rw [tbV_yes h.cov, tbTo_tight h (Nat.le_refl _)]
/-- What is tight is tame. -/
theorem tame_tight (h : TightP d f) : Tame d f :=
  ⟨h.cov.sp, h.cov.vals, fun i k hi hk => by
    obtain ⟨q, hq, e⟩ := h.part i hi
    have h1 := h.cov.ok k q hk hq
    have h2 := h.cov.sp.tri i k q hi hk hq
    omega⟩
/-- The rows of a space are tight. -/
theorem cov_row (h : Space d) {q : Nat} (hq : q < d.length) : Cov d (row d q) :=
  ⟨h, vals_row h hq, fun i hi => by have := (h.bd hq hi).1; exact this, fun i k hi hk => by
    have h1 := h.tri i q k hi hq hk
    have h2 := h.sym hi hq
    unfold at2 at h1 h2 ⊢
    omega⟩
theorem tight_row (h : Space d) {q : Nat} (hq : q < d.length) : TightP d (row d q) :=
  ⟨cov_row h hq, fun i hi => ⟨q, hq, by
    have h1 := h.own hq
    have h2 := h.sym hi hq
    unfold at2 at h1 h2 ⊢
    omega⟩⟩
theorem cov_mid {p q : Nat} (h : Space d) (h2 : 2 ≤ d.length) (hp : p < d.length) (hq : q < d.length) : Cov d (midV d p q) := by
  have hv := midV_yes (d := d) (a := p) (b := q) ⟨h, h2, ⟨by omega, by omega⟩, ⟨by omega, by omega⟩⟩
  rw [hv]
  have e : ∀ i, i < d.length → iat (genL (midF d p q) d.length) i = (at2 d p i + at2 d q i + 1) / 2 := fun i hi => by rw [iat_genL hi]; rfl
  refine ⟨h, vals_of (genL_length _ _) fun i hi => ?_, fun i hi => ?_, fun i k hi hk => ?_⟩
  · rw [e i hi]
    have := h.bd hp hi
    have := h.bd hq hi
    omega
  · rw [e i hi]
    have := h.bd hp hi
    have := h.bd hq hi
    omega
  · rw [e i hi, e k hk]
    have := h.tri i p k hi hp hk
    have := h.tri i q k hi hq hk
    have := h.sym hi hp
    have := h.sym hi hq
    omega
theorem cov_lift (h : Space d) : Cov d (liftV d) := by
  rw [liftV_yes h]
  refine ⟨h, vals_of (genL_length _ _) fun i hi => ?_, fun i hi => ?_, fun i k hi hk => ?_⟩
  · rw [iat_genL hi]
    have := farF_bd h hi
    omega
  · rw [iat_genL hi]
    exact (farF_bd h hi).1
  · rw [iat_genL hi, iat_genL hk]
    have h1 : at2 d i k ≤ farF d i := maxN_ge hk
    have h2 := (farF_bd h hk).1
    omega
end

end Go.Proofs.Ytapllhnlngnobaa
