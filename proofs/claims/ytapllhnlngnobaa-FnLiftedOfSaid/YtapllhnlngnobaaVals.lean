/- What impl.areValues returns. Conditions: as each theorem says. -/
import Derived.Test.YtapllhnlngnobaaPlain
namespace Go.Proofs.Ytapllhnlngnobaa
set_option linter.unusedVariables false
set_option linter.unusedSimpArgs false
open Go.RowKit Go.Deep

/-- n values, each in range. -/
def Vals (f : List Int) (n : Int) : Prop := (f.length : Int) = n ∧ ∀ i, i < f.length → -200 ≤ iat f i ∧ iat f i ≤ 200

set_option maxHeartbeats 400000 in
theorem areValues_any (v : Value) (f : List Int) (n : Int) (w : World) (h : IIn w v f) :
    Calls Try.prog 66 #[v, .int .i64 n] w (Quiet (.bool (decP (Vals f n))) w) := by
  obtain ⟨ao, cap, rfl, hm, hc⟩ := h
  rw [maxLen_val] at hm
  have HC := Lib.hid hc
  clear hc
  go_enter Try.func66, Try.ntmps66
  go_wp2
  go_loopw [9] (fun i wr => ∃ k : Nat, k ≤ f.length ∧ i = .int .i64 k ∧ Hid (Dr w wr) ∧ Hid (∀ i, i < k → -200 ≤ iat f i ∧ iat f i ≤ 200)) (fun i _ => f.length - (intOf i).toNat)
  case atStart => exact ⟨0, Nat.zero_le _, rfl, Dr.refl _, fun j hj => absurd hj (by omega)⟩
  case round =>
    obtain ⟨k, hk, rfl, HW, HJ⟩ := hrel
    by_cases hlt : k < f.length
    · obtain ⟨g, off, rfl, _, hcell0⟩ := HC.out k hlt
      have hcell := (HW.out.cell _).trans hcell0
      clear hcell0
      by_cases h1 : -200 ≤ iat f k
      · by_cases h2 : iat f k ≤ 200
        · have HJ2 : Hid (∀ i, i < k + 1 → -200 ≤ iat f i ∧ iat f i ≤ 200) := by
            intro i hi
            by_cases e : i < k
            · exact HJ.out i e
            · have : i = k := by omega
              subst this; exact ⟨h1, h2⟩
          go_wp2
          go_roundw
          case rel => exact ⟨k + 1, by omega, by go_num, HW, HJ2⟩
          case measure => simp [intOf]; omega
        · have HN := Lib.hid (decP_no (p := Vals f n) fun h => h2 (h.2 k hlt).2)
          go_wp2
          go_ret
          exact ⟨by rw [HN.out]; rfl, HW.out⟩
      · have HN := Lib.hid (decP_no (p := Vals f n) fun h => h1 (h.2 k hlt).1)
        go_wp2
        go_ret
        exact ⟨by rw [HN.out]; rfl, HW.out⟩
    · by_cases hn : (f.length : Int) = n
      · have hb : ((f.length : Int) == n) = true := by simpa using hn
        have HY := Lib.hid (decP_yes (p := Vals f n) ⟨hn, fun i hi => HJ.out i (by omega)⟩)
        clear hn
        go_wp2
        go_ret
        exact ⟨by rw [HY.out]; rfl, HW.out⟩
      · have hb : ((f.length : Int) == n) = false := by simpa using hn
        have HY := Lib.hid (decP_no (p := Vals f n) fun h => hn h.1)
        clear hn
        go_wp2
        go_ret
        exact ⟨by rw [HY.out]; rfl, HW.out⟩

end Go.Proofs.Ytapllhnlngnobaa
