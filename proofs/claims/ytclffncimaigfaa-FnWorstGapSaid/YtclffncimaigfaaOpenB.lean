/- Bytes that came in, opened. Conditions: as each theorem says. -/
import Derived.Test.YtclffncimaigfaaOpen
import Derived.Test.YtclffncimaigfaaDraw
namespace Go.Proofs.Ytclffncimaigfaa
set_option linter.unusedVariables false
set_option linter.unusedSimpArgs false
open Go.ChangeShapes Go.WideShapes Go.ChangeAt Go.RowKit Go.Deep

theorem cells_byte : Try.prog.cellsOf 5 = 1 := by kernel_rfl

theorem open_bytes {H : Type} {enc : TypeId × Value → H} {W : World} {a : Option Addr} {len cap : Nat} {x : DataW H} {p : List MemPlace}
    (h : DataW.Trod enc Try.prog W 0 (fun _ => true) true 29 (.slice a len cap) x p) : ∃ n, BIn W (.slice a len cap) n := by
  obtain ⟨fuel, hf⟩ := h
  rcases open_ints Try.underlying29 Try.underlying5 cells_byte hf with ⟨hcs, _⟩ | ⟨x, l, c, zs, hcs, _, hl, hm, hz, _, hcell, hwz⟩
  · simp [Value.cells] at hcs
    obtain ⟨rfl, rfl, rfl⟩ := hcs
    exact ⟨0, none, 0, rfl, Nat.le_refl _, Nat.zero_le _, fun i hi => absurd hi (by omega)⟩
  · simp [Value.cells] at hcs
    obtain ⟨rfl, rfl, rfl⟩ := hcs
    have hz' : zs.length = cap := by simpa using hz
    refine ⟨len, some x, cap, rfl, hl, hm, fun i hi => ?_⟩
    obtain ⟨b, off, rfl, hb, hc⟩ := spot_none (hcell 0 (by omega)) (hcell i (by omega))
    have hb8 := bounds_u8 (hwz (zs.getD i 0) (by
      rw [List.getD_eq_getElem?_getD, List.getElem?_eq_getElem (by omega)]
      exact List.getElem_mem _))
    exact ⟨b, off, _, rfl, hb, hc, hb8.1, hb8.2⟩

end Go.Proofs.Ytclffncimaigfaa
