/- How long the results are: at most 6. Conditions: none. -/
import Derived.Test.YtapllhnlngnobaaTBelow
namespace Go.Proofs.Ytapllhnlngnobaa
set_option linter.unusedVariables false
set_option linter.unusedSimpArgs false

theorem distV_len (d : List (List Int)) (p : Int) : (distV d p).length ≤ 6 := by
  by_cases h : Pt d p
  · obtain ⟨q, rfl⟩ := Int.eq_ofNat_of_zero_le h.2.1
    have hq : q < d.length := by have := h.2.2; omega
    rw [distV_yes h, h.1.sq q hq]
    exact h.1.six
  · rw [distV_no h]; exact Nat.zero_le _
theorem liftV_len (d : List (List Int)) : (liftV d).length ≤ 6 := by
  by_cases h : Space d
  · rw [liftV_yes h, genL_length]; exact h.six
  · rw [liftV_no h]; exact Nat.zero_le _
theorem tbV_len (d : List (List Int)) (f : List Int) : (tbV d f).length ≤ 6 := by
  by_cases h : Cov d f
  · rw [tbV_yes h, tbTo_length, h.vals.len]; exact h.sp.six
  · rw [tbV_no h]; exact Nat.zero_le _
theorem hiV_len (d : List (List Int)) (kn f : List Int) : (hiV d kn f).length ≤ 6 := by
  by_cases h : Known d kn f
  · rw [hiV_yes h, genL_length]; exact h.sp.six
  · rw [hiV_no h]; exact Nat.zero_le _
theorem loV_len (d : List (List Int)) (kn f : List Int) : (loV d kn f).length ≤ 6 := by
  by_cases h : Known d kn f
  · rw [loV_yes h, genL_length]; exact h.sp.six
  · rw [loV_no h]; exact Nat.zero_le _

end Go.Proofs.Ytapllhnlngnobaa
