/- What impl.arePoints returns. Conditions: as each theorem says. -/
import Derived.Test.YtclffncimaigfaaMade
namespace Go.Proofs.Ytclffncimaigfaa
set_option linter.unusedVariables false
set_option linter.unusedSimpArgs false
open Go.RowKit Go.Deep

/-- Each of the numbers is a point. -/
def AllPt (d : List (List Int)) (ps : List Int) : Prop := ∀ i, i < ps.length → Pt d (iat ps i)

set_option maxHeartbeats 400000 in
theorem closure_any (lo hi B : Nat) (v : Value) (d : List (List Int)) (p : Int) (w : World) (hd : MMem lo hi w v d) (hc : w.cell? ⟨B, 0, none⟩ = some v) :
    Calls Try.prog 78 #[.int .i64 p, .pointer (some ⟨B, 0, none⟩)] w (Quiet (.bool (!decP (Pt d p))) w) := by
  have call : Calls Try.prog 52 #[v, .int .i64 p] w (Quiet (.bool (decP (Pt d p))) w) := hasPoint_any lo hi v d p w hd
  obtain ⟨b, cap, _, _, rfl, _⟩ := hd.open
  have HC := Lib.hid <| call
  clear call hd
  go_enter Try.func78, Try.ntmps78
  go_wp2_with fail
  refine (HC.out).mono ?_
  rintro e w1 ⟨rfl, hd_w1⟩
  have HW1 : Hid (Dr _ w1) := hd_w1
  clear hd_w1
  go_wp2
  go_ret
  exact ⟨rfl, HW1.out⟩

/-- What a search for one that is no point says. -/
def IdxSays (d : List (List Int)) (ps : List Int) (w : World) (e : Ending) (w' : World) : Prop :=
  ∃ r : Int, e = .returned (.int .i64 r) ∧ (0 ≤ r ↔ ¬ AllPt d ps) ∧ Dr w w'

set_option maxHeartbeats 400000 in
theorem indexFunc_any (lo hi B : Nat) (v u : Value) (d : List (List Int)) (ps : List Int) (w : World) (hd : MMem lo hi w v d) (hc : w.cell? ⟨B, 0, none⟩ = some v) (hp : IIn w u ps) :
    Calls Try.prog 84 #[u, .func (Fn.func 78) #[] #[.pointer (some ⟨B, 0, none⟩)]] w (IdxSays d ps w) := by
  have call : ∀ p w', Dr w w' → Calls Try.prog 78 #[.int .i64 p, .pointer (some ⟨B, 0, none⟩)] w' (Quiet (.bool (!decP (Pt d p))) w') := fun p w' h => closure_any lo hi B v d p w' (hd.dr h) ((h.cell _).trans hc)
  obtain ⟨ao, cap, rfl, hm, hcl⟩ := hp
  rw [maxLen_val] at hm
  have HC := Lib.hid <| call
  have HP := Lib.hid <| hcl
  clear call hcl hd hc
  go_enter Try.func84, Try.ntmps84
  go_wp2
  go_loopw [8] (fun iv wr => ∃ i : Nat, i ≤ ps.length ∧ iv = .int .i64 i ∧ Hid (Dr w wr) ∧ Hid (∀ q, q < i → Pt d (iat ps q))) (fun iv _ => ps.length - (intOf iv).toNat)
  case atStart => exact ⟨0, Nat.zero_le _, rfl, Dr.refl _, none_yet⟩
  case round =>
    obtain ⟨i, hi, rfl, HW, HI⟩ := hrel
    by_cases hilt : i < ps.length
    · obtain ⟨g, off, rfl, _, hcell0⟩ := HP.out i hilt
      have c1 := (HW.out.cell _).trans hcell0
      have call := HC.out (iat ps i) wr HW.out
      clear hcell0
      by_cases ht : Pt d (iat ps i)
      · rw [decP_yes ht] at call
        have HI2 := Lib.hid (all_step HI.out ht)
        have HCC := Lib.hid <| call
        clear call ht
        go_wp2_with fail
        refine (HCC.out).mono ?_
        rintro e w1 ⟨rfl, hd_w1⟩
        have HW1 : Hid (Dr _ w1) := HW.out.trans hd_w1
        clear hd_w1 HW
        go_wp2
        go_roundw
        case rel => exact ⟨i + 1, by omega, by go_num, HW1, HI2⟩
        case measure => simp [intOf]; omega
      · rw [decP_no ht] at call
        have hno : ¬ AllPt d ps := fun h => ht (h i hilt)
        have HN := Lib.hid <| hno
        have HCC := Lib.hid <| call
        clear call ht hno
        go_wp2_with fail
        refine (HCC.out).mono ?_
        rintro e w1 ⟨rfl, hd_w1⟩
        have HW1 : Hid (Dr _ w1) := HW.out.trans hd_w1
        clear hd_w1 HW
        go_wp2
        go_ret
        exact ⟨i, rfl, ⟨fun _ => HN.out, fun _ => by omega⟩, HW1.out⟩
    · have hyes : AllPt d ps := fun q hq => HI.out q (by omega)
      have HY := Lib.hid <| hyes
      clear hyes
      go_wp2
      go_ret
      exact ⟨-1, rfl, ⟨fun h => by omega, fun h => absurd HY.out h⟩, HW.out⟩

set_option maxHeartbeats 400000 in
theorem containsFunc_any (lo hi B : Nat) (v u : Value) (d : List (List Int)) (ps : List Int) (w : World) (hd : MMem lo hi w v d) (hc : w.cell? ⟨B, 0, none⟩ = some v) (hp : IIn w u ps) :
    Calls Try.prog 77 #[u, .func (Fn.func 78) #[] #[.pointer (some ⟨B, 0, none⟩)]] w (Quiet (.bool (!decP (AllPt d ps))) w) := by
  have HC := Lib.hid <| indexFunc_any lo hi B v u d ps w hd hc hp
  obtain ⟨ao, cap, rfl, _⟩ := hp
  clear hd hc
  go_enter Try.func77, Try.ntmps77
  go_wp2_with fail
  refine HC.out.mono ?_
  rintro e w1 ⟨r, rfl, hr, hw⟩
  by_cases h0 : 0 ≤ r
  · have hb : decide (0 ≤ r) = true := by simpa using h0
    have HN := Lib.hid <| decP_no (hr.1 h0)
    have HW := Lib.hid <| hw
    clear hr hw HC
    go_wp2
    go_ret
    exact ⟨by rw [HN.out]; rfl, HW.out⟩
  · have hb : decide (0 ≤ r) = false := by simpa using h0
    have hall : AllPt d ps := Classical.byContradiction fun h => h0 (hr.2 h)
    have HN := Lib.hid <| decP_yes hall
    have HW := Lib.hid <| hw
    clear hr hw HC hall
    go_wp2
    go_ret
    exact ⟨by rw [HN.out]; rfl, HW.out⟩

set_option maxHeartbeats 400000 in
theorem arePoints_any (lo hi : Nat) (v u : Value) (d : List (List Int)) (ps : List Int) (w : World) (hd : MMem lo hi w v d) (hp : IIn w u ps) :
    Calls Try.prog 65 #[v, u] w (Gives (.bool (decP (AllPt d ps))) w) := by
  have hb : ∀ o, Below w.heap.size w (w.alloc o) := fun o => (Below.refl _ _).alloc (Nat.le_refl _) o
  have call : ∀ t, Calls Try.prog 77 #[u, .func (Fn.func 78) #[] #[.pointer (some ⟨w.heap.size, 0, none⟩)]] (w.alloc (.cells #[v] t)) (Quiet (.bool (!decP (AllPt d ps))) (w.alloc (.cells #[v] t))) := fun t =>
    containsFunc_any lo hi w.heap.size v u d ps _ (hd.alloc _) (by rw [cell_of_row _ _ 0 #[v] t (0, 0) (heap_alloc_new _ _)]; rfl) (hp.keep (hb _))
  obtain ⟨b, cap, _, _, rfl, _⟩ := hd.open
  obtain ⟨ao, acap, rfl, _⟩ := hp
  have HC := Lib.hid <| call
  clear hd call hb
  go_enter Try.func65, Try.ntmps65
  go_wp2_with fail
  refine (HC.out _).mono ?_
  rintro e w1 ⟨rfl, hw⟩
  have HW := Lib.hid <| hw
  clear hw HC
  go_wp2
  go_ret
  exact ⟨by simp, ((Below.refl _ _).alloc (Nat.le_refl _) _).trans (HW.out.below _)⟩


end Go.Proofs.Ytclffncimaigfaa
