/- Arguments that came in, opened: a slice of numbers, a slice of such slices. Conditions: as each theorem says. -/
import Derived.Test.YtclffncimaigfaaHelp
import Derived.ProofKit
import Derived.OpenShut
import Derived.ShutString
import Derived.ChangeOld
import Derived.Deep.Matrix
namespace Go.Proofs.Ytclffncimaigfaa
set_option linter.unusedVariables false
set_option linter.unusedSimpArgs false
open Go.ChangeShapes Go.WideShapes Go.ChangeAt Go.RowKit Go.Deep

theorem own_knob : ownKnob Try.prog.godebug = none := by kernel_rfl
theorem laid_out : laidOutB Try.prog = true := by kernel_rfl
theorem cells_int : Try.prog.cellsOf 3 = 1 := by kernel_rfl
theorem cells_ints : Try.prog.cellsOf 37 = 1 := by kernel_rfl

theorem spot_none {w : World} {x : Addr} {i : Nat} {v u : Value} (h0 : w.cell? (x.add 0) = some u) (h : w.cell? (x.add i) = some v) : ∃ b off : Nat, x = ⟨b, off, none⟩ ∧ b < w.heap.size ∧ w.cell? ⟨b, off + i, none⟩ = some v := by
  obtain ⟨b, off, spot⟩ := x
  have hspot : spot = none := by simpa [Addr.add] using World.cell?_spot h0
  subst hspot
  have e : (⟨b, off, none⟩ : Addr).add i = ⟨b, off + i, none⟩ := by
    unfold Addr.add
    split
    · simp_all
    · rfl
  rw [e] at h
  exact ⟨b, off, rfl, World.block_lt_of_cell? w _ h, h⟩

theorem iin_of_cells {w : World} {x : Addr} {len cap : Nat} {zs : List Int} (hl : len ≤ cap) (hm : cap ≤ maxLen) (hz : zs.length = cap) (hcell : ∀ i, i < zs.length → w.cell? (x.add i) = some (.int .i64 (zs.getD i 0))) :
    IIn w (.slice (some x) len cap) (zs.take len) := by
  have hlen : (zs.take len).length = len := by rw [List.length_take]; omega
  refine ⟨some x, cap, by rw [hlen], by rw [hlen]; omega, fun i hi => ?_⟩
  rw [hlen] at hi
  obtain ⟨b, off, rfl, hb, hc⟩ := spot_none (hcell 0 (by omega)) (hcell i (by omega))
  refine ⟨b, off, rfl, hb, ?_⟩
  rw [hc]
  simp [iat, hi]

theorem open_in {H : Type} {enc : TypeId × Value → H} {W : World} {a : Option Addr} {len cap : Nat} {x : DataW H} {p : List MemPlace}
    (h : DataW.Trod enc Try.prog W 0 (fun _ => true) true 37 (.slice a len cap) x p) : ∃ zs, IIn W (.slice a len cap) zs := by
  obtain ⟨fuel, hf⟩ := h
  rcases open_ints Try.underlying37 Try.underlying3 cells_int hf with ⟨hcs, _⟩ | ⟨x, l, c, zs, hcs, _, hl, hm, hz, _, hcell, _⟩
  · simp [Value.cells] at hcs
    obtain ⟨rfl, rfl, rfl⟩ := hcs
    exact ⟨[], IIn.nil _⟩
  · simp [Value.cells] at hcs
    obtain ⟨rfl, rfl, rfl⟩ := hcs
    exact ⟨_, iin_of_cells hl hm (by simpa using hz) hcell⟩

theorem open_rows {H : Type} {enc : TypeId × Value → H} {W : World} {a : Option Addr} {len cap : Nat} {x : DataW H} {p : List MemPlace}
    (h : DataW.Trod enc Try.prog W 0 (fun _ => true) true 22 (.slice a len cap) x p) : ∃ d, MIn W (.slice a len cap) d := by
  obtain ⟨fuel, hf⟩ := h
  rcases open_int_rows Try.underlying22 Try.underlying37 Try.underlying3 cells_ints cells_int hf with ⟨hcs, _⟩ | ⟨a', l, c, A, L, C, Z, hcs, _, hl, hm, _, hrow⟩
  · simp [Value.cells] at hcs
    obtain ⟨rfl, rfl, rfl⟩ := hcs
    exact ⟨[], MIn.nil _⟩
  · simp [Value.cells] at hcs
    obtain ⟨rfl, rfl, rfl⟩ := hcs
    have hlen : ((List.range len).map fun r => (Z r).take (L r)).length = len := by simp
    refine ⟨(List.range len).map fun r => (Z r).take (L r), some a', cap, by rw [hlen], by rw [hlen]; omega, fun i hi => ?_⟩
    rw [hlen] at hi
    obtain ⟨hc, hLC, hCm, hZ, _, hn, hs⟩ := hrow i (by omega)
    obtain ⟨b, off, rfl, hb, hc'⟩ := spot_none (hrow 0 (by omega)).1 hc
    refine ⟨b, off, _, rfl, hb, hc', ?_⟩
    have hr : row ((List.range len).map fun r => (Z r).take (L r)) i = (Z i).take (L i) := by simp [row, hi]
    rw [hr]
    cases hA : A i with
    | none =>
      have hC0 := hn hA
      have hL0 : L i = 0 := by omega
      rw [hL0, hC0]
      exact IIn.nil _
    | some y =>
      obtain ⟨_, hcell⟩ := hs y hA
      exact iin_of_cells hLC hCm hZ (fun j hj => hcell j (by omega))

end Go.Proofs.Ytclffncimaigfaa
