/- Plain facts on the highest and the lowest function with known values. Conditions: as each theorem says. -/
import Derived.Test.YtapllhnlngnobaaFnPlain
import Derived.Test.YtapllhnlngnobaaHiLo
namespace Go.Proofs.Ytapllhnlngnobaa
set_option linter.unusedVariables false
set_option linter.unusedSimpArgs false
open Go.RowKit Go.Deep

theorem minN_neg (F : Nat → Int) (m : Int) (n : Nat) : minN (fun k => - F k) (- m) n = - maxN F m n := by
  induction n with
  | zero => rfl
  | succ n ih => simp only [minN, maxN, ih]; omega

section
variable {d : List (List Int)} {kn f : List Int}
theorem hi_ub (h : Known d kn f) {i j : Nat} (hi : i < d.length) (hj : j < d.length) (hk : iat kn j = 1) : hiF d kn f i ≤ iat f j + at2 d i j := by
  have : hiF d kn f i ≤ hiAt d kn f i j := minN_le hj
  unfold hiAt at this
  rwa [if_pos hk] at this
theorem hi_top (h : Known d kn f) (i : Nat) : hiF d kn f i ≤ 200 := minN_le_start _ _ _
theorem hi_lb {i : Nat} {B : Int} (hB : B ≤ 200) (h : ∀ j, j < d.length → iat kn j = 1 → B ≤ iat f j + at2 d i j) : B ≤ hiF d kn f i := by
  refine le_minN hB fun j hj => ?_
  unfold hiAt
  split
  · exact h j hj (by assumption)
  · exact hB
theorem lo_lb (h : Known d kn f) {i j : Nat} (hi : i < d.length) (hj : j < d.length) (hk : iat kn j = 1) : iat f j - at2 d i j ≤ loF d kn f i := by
  have : loAt d kn f i j ≤ loF d kn f i := maxN_ge hj
  unfold loAt at this
  rwa [if_pos hk] at this
theorem lo_bot (h : Known d kn f) (i : Nat) : -200 ≤ loF d kn f i := le_maxN _ _ _
theorem lo_ub {i : Nat} {B : Int} (hB : -200 ≤ B) (h : ∀ j, j < d.length → iat kn j = 1 → iat f j - at2 d i j ≤ B) : loF d kn f i ≤ B := by
  refine maxN_le hB fun j hj => ?_
  unfold loAt
  split
  · exact h j hj (by assumption)
  · exact hB
theorem hi_bd (h : Known d kn f) {i : Nat} (hi : i < d.length) : -100 ≤ hiF d kn f i ∧ hiF d kn f i ≤ 200 :=
  ⟨hi_lb (by omega) fun j hj hk => by have := h.bd hj; have := h.sp.bd hi hj; omega, hi_top h i⟩
theorem lo_bd (h : Known d kn f) {i : Nat} (hi : i < d.length) : -200 ≤ loF d kn f i ∧ loF d kn f i ≤ 100 :=
  ⟨lo_bot h i, lo_ub (by omega) fun j hj hk => by have := h.bd hj; have := h.sp.bd hi hj; omega⟩
theorem lo_le_hi (h : Known d kn f) {i : Nat} (hi : i < d.length) : loF d kn f i ≤ hiF d kn f i := by
  refine hi_lb (by have := lo_bd h hi; omega) fun j hj hj1 => ?_
  refine lo_ub (by have := h.bd hj; have := h.sp.bd hi hj; omega) fun q hq hq1 => ?_
  have h1 := h.tame q j hq hj hq1 hj1
  have h2 := h.sp.tri q i j hq hi hj
  have h3 := h.sp.sym hq hi
  omega
theorem lo_known (h : Known d kn f) {k : Nat} (hk : k < d.length) (h1 : iat kn k = 1) : loF d kn f k = iat f k := by
  have e1 := lo_lb h hk hk h1
  have e2 := h.sp.own hk
  have e3 : loF d kn f k ≤ iat f k := lo_ub (by have := h.bd hk; omega) fun j hj hj1 => by
    have := h.tame j k hj hk hj1 h1
    have := h.sp.sym hj hk
    omega
  omega
theorem hi_known (h : Known d kn f) {k : Nat} (hk : k < d.length) (h1 : iat kn k = 1) : hiF d kn f k = iat f k := by
  have e1 := hi_ub h hk hk h1
  have e2 := h.sp.own hk
  have e3 : iat f k ≤ hiF d kn f k := hi_lb (by have := h.bd hk; omega) fun j hj hj1 => by
    have := h.tame k j hk hj h1 hj1
    omega
  omega
theorem lo_len (h : Known d kn f) : (loV d kn f).length = d.length := by rw [loV_yes h, genL_length]
theorem hi_len (h : Known d kn f) : (hiV d kn f).length = d.length := by rw [hiV_yes h, genL_length]
theorem lo_at (h : Known d kn f) {i : Nat} (hi : i < d.length) : iat (loV d kn f) i = loF d kn f i := by rw [loV_yes h, iat_genL hi]
theorem hi_at (h : Known d kn f) {i : Nat} (hi : i < d.length) : iat (hiV d kn f) i = hiF d kn f i := by rw [hiV_yes h, iat_genL hi]
theorem tame_lo (h : Known d kn f) : Tame d (loV d kn f) := by
  refine ⟨h.sp, vals_of (lo_len h) fun i hi => ?_, fun i k hi hk => ?_⟩
  · rw [lo_at h hi]
    have := lo_bd h hi
    omega
  · rw [lo_at h hi, lo_at h hk]
    have : loF d kn f i ≤ loF d kn f k + at2 d i k := lo_ub (by have := lo_bd h hk; have := h.sp.bd hi hk; omega) fun j hj hj1 => by
      have h1 := lo_lb h hk hj hj1
      have h2 := h.sp.tri k i j hk hi hj
      have h3 := h.sp.sym hk hi
      omega
    omega
theorem tame_hi (h : Known d kn f) : Tame d (hiV d kn f) := by
  refine ⟨h.sp, vals_of (hi_len h) fun i hi => ?_, fun i k hi hk => ?_⟩
  · rw [hi_at h hi]
    have := hi_bd h hi
    omega
  · rw [hi_at h hi, hi_at h hk]
    have : hiF d kn f i - at2 d i k ≤ hiF d kn f k := hi_lb (by have := hi_bd h hi; have := h.sp.bd hi hk; omega) fun j hj hj1 => by
      have h1 := hi_ub h hi hj hj1
      have h2 := h.sp.tri i k j hi hk hj
      omega
    omega
/-- Every tame function with the known values lies below the highest. -/
theorem below_hi (h : Known d kn f) {g : List Int} (hg : Tame d g) (he : ∀ k, k < d.length → iat kn k = 1 → iat g k = iat f k) {i : Nat} (hi : i < d.length) : iat g i ≤ iat (hiV d kn f) i := by
  rw [hi_at h hi]
  refine hi_lb (hg.vals.bd hi).2 fun j hj hj1 => ?_
  have h1 := hg.ok i j hi hj
  have h2 := he j hj hj1
  omega
/-- The negative. -/
def negL (f : List Int) : List Int := genL (fun i => - iat f i) f.length
theorem negL_length (f : List Int) : (negL f).length = f.length := genL_length _ _
theorem iat_negL {f : List Int} {i : Nat} (h : i < f.length) : iat (negL f) i = - iat f i := iat_genL h
theorem known_neg (h : Known d kn f) : Known d kn (negL f) := by
  have hl := h.fl
  refine ⟨h.sp, h.kl, by rw [negL_length]; exact hl, fun i hi => ?_, h.some, fun i k hi hk h1 h2 => ?_⟩
  · unfold KnAt
    rw [iat_negL (by omega)]
    rcases h.each i hi with ⟨a, b, c⟩ | ⟨a, b⟩
    · exact Or.inl ⟨a, by omega, by omega⟩
    · exact Or.inr ⟨a, by omega⟩
  · rw [iat_negL (by omega), iat_negL (by omega)]
    have := h.tame k i hk hi h2 h1
    have := h.sp.sym hi hk
    omega
theorem hi_neg (h : Known d kn f) {i : Nat} (hi : i < d.length) : iat (hiV d kn (negL f)) i = - iat (loV d kn f) i := by
  rw [hi_at (known_neg h) hi, lo_at h hi]
  have e : hiF d kn (negL f) i = minN (fun k => - loAt d kn f i k) (- (-200)) d.length := minN_congr fun k hk => by
    unfold hiAt loAt
    rw [iat_negL (by rw [h.fl]; exact hk)]
    split <;> omega
  rw [e, minN_neg]
  rfl
end

end Go.Proofs.Ytapllhnlngnobaa
