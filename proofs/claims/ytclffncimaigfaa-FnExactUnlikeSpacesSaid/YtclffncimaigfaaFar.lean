/- Rows told by a function; what slices.Max returns; how far the farthest point is. Conditions: as each theorem says. -/
import Derived.Test.YtclffncimaigfaaMade
namespace Go.Proofs.Ytclffncimaigfaa
set_option linter.unusedVariables false
set_option linter.unusedSimpArgs false
open Go.RowKit Go.Deep

/-- The numbers F 0 .. F (k-1). -/
def genL (F : Nat → Int) (k : Nat) : List Int := (List.range k).map F
theorem genL_length (F : Nat → Int) (k : Nat) : (genL F k).length = k := by simp [genL]
theorem iat_genL {F : Nat → Int} {k i : Nat} (h : i < k) : iat (genL F k) i = F i := by simp [genL, iat, h]
theorem genL_succ (F : Nat → Int) (k : Nat) : genL F (k + 1) = genL F k ++ [F k] := by simp [genL, List.range_succ]
theorem genL_zero (F : Nat → Int) : genL F 0 = [] := rfl

theorem IMem.cellAt {lo hi b n cap : Nat} {w : World} {zs : List Int} (h : IMem lo hi w (.slice (some ⟨b, 0, none⟩) n cap) zs) {i : Nat} (hi : i < zs.length) : w.cell? ⟨b, i, none⟩ = some (.int .i64 (iat zs i)) := by
  obtain ⟨b', cap', hv, _, _, _, _, _, hc, _⟩ := h.open
  injection hv with e1
  injection e1 with e1
  injection e1 with e1
  subst e1
  exact hc i hi
theorem IMem.frozenAt {lo hi b n cap : Nat} {w : World} {zs : List Int} (h : IMem lo hi w (.slice (some ⟨b, 0, none⟩) n cap) zs) (i : Nat) : w.frozen? ⟨b, i, none⟩ = false := by
  obtain ⟨b', cap', hv, _, _, _, _, _, _, hf⟩ := h.open
  injection hv with e1
  injection e1 with e1
  injection e1 with e1
  subst e1
  exact hf i
theorem iat_set {l : List Int} {i j : Nat} {x : Int} (h : j < l.length) : iat (l.set i x) j = if i = j then x else iat l j := by
  unfold iat
  simp only [List.getD_eq_getElem?_getD, List.getElem?_set]
  split
  · subst_vars; simp [h]
  · rfl
theorem IVal.mem {lo hi : Nat} {w : World} {v : Value} {zs : List Int} (h : IVal lo hi w v zs) (hz : zs ≠ []) : IMem lo hi w v zs := by
  rcases h with h | ⟨_, e⟩
  · exact h
  · exact absurd e hz
theorem ne_nil_of {zs : List Int} {n : Nat} (h : zs.length = n) (hn : 1 ≤ n) : zs ≠ [] := fun e => by subst e; simp at h; omega

theorem below_chain {a b c : World} (h : Below a.heap.size a b) (k : Below b.heap.size b c) : Below a.heap.size a c := h.trans (k.mono h.size)
theorem maxN_max (F : Nat → Int) {n : Nat} (hn : 1 ≤ n) (h0 : ∀ i, i < n → 0 ≤ F i) : maxN F (F 0) n = maxN F 0 n := by
  apply Int.le_antisymm
  · exact maxN_le (maxN_ge (by omega)) fun i hi => maxN_ge hi
  · exact maxN_le (Int.le_trans (h0 0 (by omega)) (le_maxN _ _ _)) fun i hi => maxN_ge hi

set_option maxHeartbeats 1000000 in
theorem slicesMax_any (v : Value) (zs : List Int) (w : World) (h : IIn w v zs) (h1 : 1 ≤ zs.length) :
    Calls Try.prog 70 #[v] w (Quiet (.int .i64 (maxN (iat zs) (iat zs 0) zs.length)) w) := by
  obtain ⟨ao, cap, rfl, hm, hc⟩ := h
  rw [maxLen_val] at hm
  obtain ⟨g, off, rfl, _, hcell0⟩ := hc 0 (by omega)
  rw [Nat.add_zero] at hcell0
  have hlt : ¬ (zs.length : Int) < 1 := by omega
  have HC := Lib.hid <| hc
  clear hc
  go_enter Try.func70, Try.ntmps70
  go_wp2
  go_loopw [3, 4] (fun mv iv wr => ∃ i : Nat, 1 ≤ i ∧ i ≤ zs.length ∧ iv = .int .i64 i ∧ mv = .int .i64 (maxN (iat zs) (iat zs 0) i) ∧ Hid (Dr w wr)) (fun _ iv _ => zs.length - (intOf iv).toNat)
  case atStart => exact ⟨1, Nat.le_refl _, h1, rfl, by simp [maxN], Dr.refl _⟩
  case round =>
    obtain ⟨i, hi1, hi, rfl, rfl, HW⟩ := hrel
    by_cases hilt : i < zs.length
    · obtain ⟨g', off', e, _, hcell'⟩ := HC.out i hilt
      injection e with e
      injection e with e1 e2
      subst e1 e2
      have hcell := (HW.out.cell _).trans hcell'
      have HS := Lib.hid <| maxN_step (iat zs) (iat zs 0) i
      clear hcell' hcell0
      go_wp2
      go_roundw
      case rel => exact ⟨i + 1, by omega, by omega, by go_num, by rw [← HS.out], HW⟩
      case measure => simp [intOf]; omega
    · have hie : i = zs.length := by omega
      subst hie
      go_wp2
      go_ret
      exact ⟨rfl, HW.out⟩

/-- How far the farthest point is. -/
def farF (d : List (List Int)) (i : Nat) : Int := maxN (at2 d i) 0 d.length
theorem farF_bd {d : List (List Int)} (h : Space d) {i : Nat} (hi : i < d.length) : 0 ≤ farF d i ∧ farF d i ≤ 60 :=
  ⟨le_maxN _ _ _, maxN_le (by omega) fun k hk => (h.ent i k hi hk).2.1⟩
theorem farF_row {d : List (List Int)} (h : Space d) {i : Nat} (hi : i < d.length) : maxN (iat (row d i)) (iat (row d i) 0) (row d i).length = farF d i := by
  have h1 := h.one
  rw [h.sq i hi, maxN_max (iat (row d i)) h1 (fun k hk => (h.ent i k hi hk).1)]
  rfl

end Go.Proofs.Ytclffncimaigfaa
