/- What sameInts and sameRows do, each a contract. Conditions: as each theorem says. -/
import Derived.Test.YtknnelenmedonaaHelp2
namespace Go.Proofs.Ytknnelenmedonaa
set_option linter.unusedVariables false
set_option linter.unusedSimpArgs false
open Go.RowKit Go.Deep

set_option maxHeartbeats 400000 in
theorem sameInts_any (v u : Value) (a b : List Int) (w : World) (ha : IIn w v a) (hb : IIn w u b) :
    Calls Try.prog 41 #[v, u] w (Quiet (.bool (sameB a b)) w) := by
  obtain ⟨ao, cap, rfl, hm, hc⟩ := ha
  obtain ⟨bo, bcap, rfl, hmb, hcb⟩ := hb
  rw [maxLen_val] at hm hmb
  have HC := Lib.hid hc
  have HD := Lib.hid hcb
  clear hc hcb
  by_cases hl : a.length = b.length
  · have hl2 : ((a.length : Int) != (b.length : Int)) = false := by rw [hl]; simp
    have HL := Lib.hid hl
    clear hl
    go_enter Try.func41, Try.ntmps41
    go_wp2
    go_loopw [5] (fun i wr => ∃ k : Nat, k ≤ a.length ∧ i = .int .i64 k ∧ Hid (Dr w wr) ∧ Hid (∀ j, j < k → iat a j = iat b j)) (fun i _ => a.length - (intOf i).toNat)
    case atStart => exact ⟨0, Nat.zero_le _, rfl, Dr.refl _, fun j hj => absurd hj (by omega)⟩
    case round =>
      obtain ⟨k, hk, rfl, HW, HJ⟩ := hrel
      by_cases hlt : k < a.length
      · obtain ⟨g, off, rfl, _, hcell0⟩ := HC.out k hlt
        obtain ⟨g', off', rfl, _, hcell0'⟩ := HD.out k (by rw [← HL.out]; exact hlt)
        have hcell := (HW.out.cell _).trans hcell0
        have hcell' := (HW.out.cell _).trans hcell0'
        have hi2 : (k : Int) < (b.length : Int) := by rw [← HL.out]; omega
        clear hcell0 hcell0'
        by_cases he : iat a k = iat b k
        · have heb : (iat a k != iat b k) = false := by rw [he]; simp
          have HJ2 : Hid (∀ j, j < k + 1 → iat a j = iat b j) := by
            intro j hj
            by_cases e : j < k
            · exact HJ.out j e
            · have : j = k := by omega
              subst this; exact he
          clear he
          go_wp2
          go_quiet (fail)
          go_wp2
          go_roundw
          case rel => exact ⟨k + 1, by omega, by go_num, HW.out.more _, HJ2⟩
          case measure => simp [intOf]; omega
        · have heb : (iat a k != iat b k) = true := by simpa using he
          have hno : sameB a b = false := sameB_no fun e => he (by rw [e])
          have HN := Lib.hid hno
          clear he hno
          go_wp2
          go_quiet (fail)
          go_wp2
          go_ret
          exact ⟨by rw [HN.out]; rfl, HW.out.more _⟩
      · have hke : k = a.length := by omega
        have hyes : sameB a b = true := sameB_yes (ext_iat HL.out fun i hi => HJ.out i (by omega))
        have HY := Lib.hid hyes
        clear hyes hke
        go_wp2
        go_ret
        exact ⟨by rw [HY.out]; rfl, HW.out⟩
  · have hl2 : ((a.length : Int) != (b.length : Int)) = true := by simpa using fun e => hl (by omega)
    have HN := Lib.hid (sameB_no (a := a) (b := b) fun e => hl (by rw [e]))
    clear hl HC HD
    go_enter Try.func41, Try.ntmps41
    go_wp2
    go_ret
    exact ⟨by rw [HN.out]; rfl, Dr.refl _⟩

set_option maxHeartbeats 400000 in
theorem sameRows_any (v u : Value) (a b : List (List Int)) (w : World) (ha : MIn w v a) (hb : MIn w u b) :
    Calls Try.prog 30 #[v, u] w (Quiet (.bool (sameMB a b)) w) := by
  obtain ⟨ao, cap, rfl, hm, hc⟩ := ha
  obtain ⟨bo, bcap, rfl, hmb, hcb⟩ := hb
  rw [maxLen_val] at hm hmb
  have HC := Lib.hid hc
  have HD := Lib.hid hcb
  clear hc hcb
  by_cases hl : a.length = b.length
  · have hl2 : ((a.length : Int) != (b.length : Int)) = false := by rw [hl]; simp
    have HL := Lib.hid hl
    clear hl
    go_enter Try.func30, Try.ntmps30
    go_wp2
    go_loopw [5] (fun i wr => ∃ k : Nat, k ≤ a.length ∧ i = .int .i64 k ∧ Hid (Dr w wr) ∧ Hid (∀ j, j < k → row a j = row b j)) (fun i _ => a.length - (intOf i).toNat)
    case atStart => exact ⟨0, Nat.zero_le _, rfl, Dr.refl _, fun j hj => absurd hj (by omega)⟩
    case round =>
      obtain ⟨k, hk, rfl, HW, HJ⟩ := hrel
      by_cases hlt : k < a.length
      · obtain ⟨g, off, x, rfl, _, hcell0, hx⟩ := HC.out k hlt
        obtain ⟨g', off', y, rfl, _, hcell0', hy⟩ := HD.out k (by rw [← HL.out]; exact hlt)
        have hi2 : (k : Int) < (b.length : Int) := by rw [← HL.out]; omega
        obtain ⟨xo, xc, rfl, hx2⟩ := id hx
        obtain ⟨yo, yc, rfl, hy2⟩ := id hy
        have hcell := (HW.out.cell _).trans hcell0
        have hcell' := (HW.out.cell _).trans hcell0'
        have HX := Lib.hid (hx.dr HW.out)
        have HY := Lib.hid (hy.dr HW.out)
        clear hx hy hx2 hy2 hcell0 hcell0'
        have call : ∀ (m : Nat), Calls Try.prog 41 #[.slice xo (row a k).length xc, .slice yo (row b k).length yc] (wr.drewN m) (Quiet (.bool (sameB (row a k) (row b k))) (wr.drewN m)) := fun m => sameInts_any _ _ _ _ _ (HX.out.drewN m) (HY.out.drewN m)
        have HCALL := Lib.hid call
        clear call
        by_cases he : row a k = row b k
        · have heb : sameB (row a k) (row b k) = true := sameB_yes he
          have HJ2 : Hid (∀ j, j < k + 1 → row a j = row b j) := by
            intro j hj
            by_cases e : j < k
            · exact HJ.out j e
            · have : j = k := by omega
              subst this; exact he
          rw [heb] at HCALL
          clear he heb
          go_wp2_with fail
          go_quiet ((go_at_call 41; exact quiet_in (HCALL.out _)))
          go_wp2
          go_roundw
          case rel => exact ⟨k + 1, by omega, by go_num, HW.out.more _, HJ2⟩
          case measure => simp [intOf]; omega
        · have heb : sameB (row a k) (row b k) = false := sameB_no he
          have hno : sameMB a b = false := sameMB_no fun e => he (by rw [e])
          have HN := Lib.hid hno
          rw [heb] at HCALL
          clear he hno heb
          go_wp2_with fail
          go_quiet ((go_at_call 41; exact quiet_in (HCALL.out _)))
          go_wp2
          go_ret
          exact ⟨by rw [HN.out]; rfl, HW.out.more _⟩
      · have hke : k = a.length := by omega
        have hyes : sameMB a b = true := sameMB_yes (ext_row HL.out fun i hi => HJ.out i (by omega))
        have HY := Lib.hid hyes
        clear hyes hke
        go_wp2
        go_ret
        exact ⟨by rw [HY.out]; rfl, HW.out⟩
  · have hl2 : ((a.length : Int) != (b.length : Int)) = true := by simpa using fun e => hl (by omega)
    have HN := Lib.hid (sameMB_no (a := a) (b := b) fun e => hl (by rw [e]))
    clear hl HC HD
    go_enter Try.func30, Try.ntmps30
    go_wp2
    go_ret
    exact ⟨by rw [HN.out]; rfl, Dr.refl _⟩

end Go.Proofs.Ytknnelenmedonaa
