/- Bytes that came in stay. Conditions: as each theorem says. -/
import Derived.Test.YtknnelenmedonaaDraw
namespace Go.Proofs.Ytknnelenmedonaa
set_option linter.unusedVariables false
set_option linter.unusedSimpArgs false
open Go.RowKit Go.Deep

theorem BIn.keep {w w' : World} {v : Value} {n : Nat} (h : BIn w v n) (hb : Below w.heap.size w w') : BIn w' v n := by
  obtain ⟨ao, cap, hv, h1, h2, hc⟩ := h
  refine ⟨ao, cap, hv, h1, h2, fun i hi => ?_⟩
  obtain ⟨b, off, x, ha, hl, hcell, hx⟩ := hc i hi
  exact ⟨b, off, x, ha, Nat.lt_of_lt_of_le hl hb.size, (hb.cell (p := ⟨b, off + i, none⟩) hl).trans hcell, hx⟩

end Go.Proofs.Ytknnelenmedonaa
