/- What hasInt does. Conditions: as each theorem says. -/
import Derived.Test.YtapllhnlngnobaaSpace
namespace Go.Proofs.Ytapllhnlngnobaa
set_option linter.unusedVariables false
set_option linter.unusedSimpArgs false
open Go.RowKit Go.Deep

def HasI (zs : List Int) (x : Int) : Prop := ∃ i, i < zs.length ∧ iat zs i = x

set_option maxHeartbeats 400000 in
theorem hasInt_any (v : Value) (zs : List Int) (x : Int) (w : World) (h : IIn w v zs) : Calls Try.prog 56 #[v, .int .i64 x] w (Quiet (.bool (decP (HasI zs x))) w) := by
  obtain ⟨ao, cap, rfl, hm, hc⟩ := h
  rw [maxLen_val] at hm
  have HC := Lib.hid hc
  clear hc
  go_enter Try.func56, Try.ntmps56
  go_wp2
  go_loopw [5] (fun i wr => ∃ k : Nat, k ≤ zs.length ∧ i = .int .i64 k ∧ Hid (Dr w wr) ∧ Hid (∀ j, j < k → iat zs j ≠ x)) (fun i _ => zs.length - (intOf i).toNat)
  case atStart => exact ⟨0, Nat.zero_le _, rfl, Dr.refl _, fun j hj => absurd hj (by omega)⟩
  case round =>
    obtain ⟨k, hk, rfl, HW, HJ⟩ := hrel
    by_cases hlt : k < zs.length
    · obtain ⟨b, off, rfl, _, hcell0⟩ := HC.out k hlt
      have hcell := (HW.out.cell _).trans hcell0
      clear hcell0
      by_cases he : iat zs k = x
      · have heb : (iat zs k == x) = true := by simpa using he
        have HY := Lib.hid (decP_yes (show HasI zs x from ⟨k, hlt, he⟩))
        clear he
        go_wp2
        go_ret
        exact ⟨by rw [HY.out]; rfl, HW.out⟩
      · have heb : (iat zs k == x) = false := by simpa using he
        have HJ2 : Hid (∀ j, j < k + 1 → iat zs j ≠ x) := by
          intro j hj
          by_cases e : j < k
          · exact HJ.out j e
          · have : j = k := by omega
            subst this; exact he
        clear he
        go_wp2
        go_roundw
        case rel => exact ⟨k + 1, by omega, by go_num, HW, HJ2⟩
        case measure => simp [intOf]; omega
    · have hke : k = zs.length := by omega
      have HY := Lib.hid (decP_no (show ¬ HasI zs x from fun ⟨i, hi, e⟩ => HJ.out i (by omega) e))
      go_wp2
      go_ret
      exact ⟨by rw [HY.out]; rfl, HW.out⟩

end Go.Proofs.Ytapllhnlngnobaa
