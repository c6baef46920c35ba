/- Rows told by a function; what slices.Max returns; how far the farthest point is. Conditions: as each theorem says. -/
import Derived.Test.YtapllhnlngnobaaMade
namespace Go.Proofs.Ytapllhnlngnobaa
set_option linter.unusedVariables false
set_option linter.unusedSimpArgs false
open Go.RowKit Go.Deep

/-- The numbers F 0 .. F (k-1). -/
def genL (F : Nat → Int) (k : Nat) : List Int := (List.range k).map F
theorem genL_length (F : Nat → Int) (k : Nat) : (genL F k).length = k := by simp [genL]
theorem iat_genL {F : Nat → Int} {k i : Nat} (h : i < k) : iat (genL F k) i = F i := by simp [genL, iat, h]
theorem genL_succ (F : Nat → Int) (k : Nat) : genL F (k + 1) = genL F k ++ [F k] := by simp [genL, List.range_succ]
theorem genL_zero (F : Nat → Int) : genL F 0 = [] := rfl

theorem maxN_max (F : Nat → Int) {n : Nat} (hn : 1 ≤ n) (h0 : ∀ i, i < n → 0 ≤ F i) : maxN F (F 0) n = maxN F 0 n := by
  apply Int.le_antisymm
  · exact maxN_le (maxN_ge (by omega)) fun i hi => maxN_ge hi
  · exact maxN_le (Int.le_trans (h0 0 (by omega)) (le_maxN _ _ _)) fun i hi => maxN_ge hi

set_option maxHeartbeats 1000000 in
theorem slicesMax_any (v : Value) (zs : List Int) (w : World) (h : IIn w v zs) (h1 : 1 ≤ zs.length) :
    Calls Try.prog 78 #[v] w (Quiet (.int .i64 (maxN (iat zs) (iat zs 0) zs.length)) w) := by
  obtain ⟨ao, cap, rfl, hm, hc⟩ := h
  rw [maxLen_val] at hm
  obtain ⟨g, off, rfl, _, hcell0⟩ := hc 0 (by omega)
  rw [Nat.add_zero] at hcell0
  have hlt : ¬ (zs.length : Int) < 1 := by omega
  have HC := Lib.hid <| hc
  clear hc
  go_enter Try.func78, Try.ntmps78
  go_wp2
  go_loopw [3, 4] (fun mv iv wr => ∃ i : Nat, 1 ≤ i ∧ i ≤ zs.length ∧ iv = .int .i64 i ∧ mv = .int .i64 (maxN (iat zs) (iat zs 0) i) ∧ Hid (Dr w wr)) (fun _ iv _ => zs.length - (intOf iv).toNat)
  case atStart => exact ⟨1, Nat.le_refl _, h1, rfl, by simp [maxN], Dr.refl _⟩
  case round =>
    obtain ⟨i, hi1, hi, rfl, rfl, HW⟩ := hrel
    by_cases hilt : i < zs.length
    · obtain ⟨g', off', e, _, hcell'⟩ := HC.out i hilt
      injection e with e
      injection e with e1 e2
      subst e1 e2
      have hcell := (HW.out.cell _).trans hcell'
      have HS := Lib.hid <| maxN_step (iat zs) (iat zs 0) i
      clear hcell' hcell0
      go_wp2
      go_roundw
      case rel => exact ⟨i + 1, by omega, by omega, by go_num, by rw [← HS.out], HW⟩
      case measure => simp [intOf]; omega
    · have hie : i = zs.length := by omega
      subst hie
      go_wp2
      go_ret
      exact ⟨rfl, HW.out⟩

/-- How far the farthest point is. -/
def farF (d : List (List Int)) (i : Nat) : Int := maxN (at2 d i) 0 d.length
theorem farF_bd {d : List (List Int)} (h : Space d) {i : Nat} (hi : i < d.length) : 0 ≤ farF d i ∧ farF d i ≤ 60 :=
  ⟨le_maxN _ _ _, maxN_le (by omega) fun k hk => (h.ent i k hi hk).2.1⟩
theorem farF_row {d : List (List Int)} (h : Space d) {i : Nat} (hi : i < d.length) : maxN (iat (row d i)) (iat (row d i) 0) (row d i).length = farF d i := by
  have h1 := h.one
  rw [h.sq i hi, maxN_max (iat (row d i)) h1 (fun k hk => (h.ent i k hi hk).1)]
  rfl

end Go.Proofs.Ytapllhnlngnobaa
