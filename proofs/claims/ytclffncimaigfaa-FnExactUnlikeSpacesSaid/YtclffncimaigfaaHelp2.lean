/- What szIntS, szIntSS, eqIntS and eqIntSS do, each a contract. Conditions: as each theorem says. -/
import Derived.Test.YtclffncimaigfaaHelp
namespace Go.Proofs.Ytclffncimaigfaa
set_option linter.unusedVariables false
set_option linter.unusedSimpArgs false
open Go.RowKit Go.Deep

set_option maxHeartbeats 400000 in
theorem szIntS_any (v : Value) (zs : List Int) (left : Int) (w : World) (h : IIn w v zs) (h0 : 0 ≤ left) (h1 : left ≤ 1048576) :
    Calls Try.prog 47 #[v, .int .i64 left] w fun e w' => e = .returned (.int .i64 (if left - zs.length < 0 then -1 else left - zs.length)) ∧ w = w' := by
  obtain ⟨ao, cap, rfl, hm, _⟩ := h
  rw [maxLen_val] at hm
  by_cases hlt : left - zs.length < 0
  · rw [if_pos hlt]
    go_enter Try.func47, Try.ntmps47
    go_wp2
    go_ret
    exact ⟨rfl, rfl⟩
  · rw [if_neg hlt]
    go_enter Try.func47, Try.ntmps47
    go_wp2
    go_ret
    exact ⟨rfl, rfl⟩

/-- What szIntSS says. -/
def Sized (left : Int) (d : List (List Int)) (w : World) (e : Ending) (w' : World) : Prop :=
  ∃ r : Int, e = .returned (.int .i64 r) ∧ (r < 0 ∨ (0 ≤ r ∧ r ≤ left ∧ (d.length : Int) ≤ left ∧ ∀ i, i < d.length → ((row d i).length : Int) ≤ left)) ∧ w = w'

set_option maxHeartbeats 400000 in
theorem szIntSS_any (v : Value) (d : List (List Int)) (left : Int) (w : World) (h : MIn w v d) (h0 : 0 ≤ left) (h1 : left ≤ 1048576) :
    Calls Try.prog 15 #[v, .int .i64 left] w (Sized left d w) := by
  obtain ⟨ao, cap, rfl, hm, hc⟩ := h
  rw [maxLen_val] at hm
  have HC := Lib.hid hc
  clear hc
  by_cases hlt : left - d.length < 0
  · clear HC
    go_enter Try.func15, Try.ntmps15
    go_wp2
    go_ret
    exact ⟨-1, rfl, .inl (by omega), rfl⟩
  · go_enter Try.func15, Try.ntmps15
    go_wp2
    go_loop [1, 5] (fun l i => ∃ (k : Nat) (r : Int), k ≤ d.length ∧ i = .int .i64 k ∧ l = .int .i64 r ∧ 0 ≤ r ∧ r ≤ left - d.length ∧ Hid (∀ j, j < k → ((row d j).length : Int) ≤ left))
      (fun _ i => d.length - (intOf i).toNat)
    case atStart => exact ⟨0, _, Nat.zero_le _, rfl, rfl, by omega, by omega, fun j hj => absurd hj (by omega)⟩
    case round =>
      obtain ⟨k, r, hk, rfl, rfl, hr0, hr1, HJ⟩ := hrel
      by_cases hlt2 : k < d.length
      · obtain ⟨b, off, u, rfl, hb, hcell, hu⟩ := HC.out k hlt2
        obtain ⟨uo, uc, rfl, hu2⟩ := id hu
        have HU := Lib.hid hu
        clear hu hu2
        go_wp2_with fail
        refine (szIntS_any _ _ _ _ HU.out (by omega) (by omega)).mono ?_
        rintro e w1 ⟨rfl, rfl⟩
        by_cases hlt3 : r - (row d k).length < 0
        · rw [if_pos hlt3]
          go_wp2
          go_ret
          exact ⟨-1, rfl, .inl (by omega), rfl⟩
        · rw [if_neg hlt3]
          have HJ2 : Hid (∀ j, j < k + 1 → ((row d j).length : Int) ≤ left) := by
            intro j hj
            by_cases e : j < k
            · exact HJ.out j e
            · have : j = k := by omega
              subst this; omega
          go_wp2
          go_round
          case rel => exact ⟨k + 1, _, by omega, by go_num, rfl, by omega, by omega, HJ2⟩
          case measure => simp [intOf]; omega
      · have hke : k = d.length := by omega
        go_wp2
        go_ret
        exact ⟨r, rfl, .inr ⟨by omega, by omega, by omega, fun i hi => HJ.out i (by omega)⟩, rfl⟩

/-- Two lists are one. -/
def sameB (a b : List Int) : Bool := decide (a = b)
def sameMB (a b : List (List Int)) : Bool := decide (a = b)
theorem sameB_yes {a b : List Int} (h : a = b) : sameB a b = true := by simp [sameB, h]
theorem sameB_no {a b : List Int} (h : a ≠ b) : sameB a b = false := by simp [sameB, h]
theorem sameB_iff {a b : List Int} : sameB a b = true ↔ a = b := by simp [sameB]
theorem sameMB_yes {a b : List (List Int)} (h : a = b) : sameMB a b = true := by simp [sameMB, h]
theorem sameMB_no {a b : List (List Int)} (h : a ≠ b) : sameMB a b = false := by simp [sameMB, h]
theorem sameMB_iff {a b : List (List Int)} : sameMB a b = true ↔ a = b := by simp [sameMB]


set_option maxHeartbeats 400000 in
theorem eqIntS_any (v u : Value) (a b : List Int) (w : World) (ha : IIn w v a) (hb : IIn w u b) :
    Calls Try.prog 51 #[v, u] w (Quiet (.bool (sameB a b)) w) := by
  obtain ⟨ao, cap, rfl, hm, hc⟩ := ha
  obtain ⟨bo, bcap, rfl, hmb, hcb⟩ := hb
  rw [maxLen_val] at hm hmb
  have HC := Lib.hid hc
  have HD := Lib.hid hcb
  clear hc hcb
  by_cases hl : a.length = b.length
  · have hl2 : ((a.length : Int) != (b.length : Int)) = false := by rw [hl]; simp
    have HL := Lib.hid hl
    clear hl
    go_enter Try.func51, Try.ntmps51
    go_wp2
    go_loopw [5] (fun i wr => ∃ k : Nat, k ≤ a.length ∧ i = .int .i64 k ∧ Hid (Dr w wr) ∧ Hid (∀ j, j < k → iat a j = iat b j)) (fun i _ => a.length - (intOf i).toNat)
    case atStart => exact ⟨0, Nat.zero_le _, rfl, Dr.refl _, fun j hj => absurd hj (by omega)⟩
    case round =>
      obtain ⟨k, hk, rfl, HW, HJ⟩ := hrel
      by_cases hlt : k < a.length
      · obtain ⟨g, off, rfl, _, hcell0⟩ := HC.out k hlt
        obtain ⟨g', off', rfl, _, hcell0'⟩ := HD.out k (by rw [← HL.out]; exact hlt)
        have hcell := (HW.out.cell _).trans hcell0
        have hcell' := (HW.out.cell _).trans hcell0'
        have hi2 : (k : Int) < (b.length : Int) := by rw [← HL.out]; omega
        clear hcell0 hcell0'
        by_cases he : iat a k = iat b k
        · have heb : (iat a k != iat b k) = false := by rw [he]; simp
          have HJ2 : Hid (∀ j, j < k + 1 → iat a j = iat b j) := by
            intro j hj
            by_cases e : j < k
            · exact HJ.out j e
            · have : j = k := by omega
              subst this; exact he
          clear he
          go_wp2
          go_quiet (fail)
          go_wp2
          go_roundw
          case rel => exact ⟨k + 1, by omega, by go_num, HW.out.more _, HJ2⟩
          case measure => simp [intOf]; omega
        · have heb : (iat a k != iat b k) = true := by simpa using he
          have hno : sameB a b = false := sameB_no fun e => he (by rw [e])
          have HN := Lib.hid hno
          clear he hno
          go_wp2
          go_quiet (fail)
          go_wp2
          go_ret
          exact ⟨by rw [HN.out]; rfl, HW.out.more _⟩
      · have hke : k = a.length := by omega
        have hyes : sameB a b = true := sameB_yes (ext_iat HL.out fun i hi => HJ.out i (by omega))
        have HY := Lib.hid hyes
        clear hyes hke
        go_wp2
        go_ret
        exact ⟨by rw [HY.out]; rfl, HW.out⟩
  · have hl2 : ((a.length : Int) != (b.length : Int)) = true := by simpa using fun e => hl (by omega)
    have HN := Lib.hid (sameB_no (a := a) (b := b) fun e => hl (by rw [e]))
    clear hl HC HD
    go_enter Try.func51, Try.ntmps51
    go_wp2
    go_ret
    exact ⟨by rw [HN.out]; rfl, Dr.refl _⟩

set_option maxHeartbeats 400000 in
theorem eqIntSS_any (v u : Value) (a b : List (List Int)) (w : World) (ha : MIn w v a) (hb : MIn w u b) :
    Calls Try.prog 19 #[v, u] w (Quiet (.bool (sameMB a b)) w) := by
  obtain ⟨ao, cap, rfl, hm, hc⟩ := ha
  obtain ⟨bo, bcap, rfl, hmb, hcb⟩ := hb
  rw [maxLen_val] at hm hmb
  have HC := Lib.hid hc
  have HD := Lib.hid hcb
  clear hc hcb
  by_cases hl : a.length = b.length
  · have hl2 : ((a.length : Int) != (b.length : Int)) = false := by rw [hl]; simp
    have HL := Lib.hid hl
    clear hl
    go_enter Try.func19, Try.ntmps19
    go_wp2
    go_loopw [5] (fun i wr => ∃ k : Nat, k ≤ a.length ∧ i = .int .i64 k ∧ Hid (Dr w wr) ∧ Hid (∀ j, j < k → row a j = row b j)) (fun i _ => a.length - (intOf i).toNat)
    case atStart => exact ⟨0, Nat.zero_le _, rfl, Dr.refl _, fun j hj => absurd hj (by omega)⟩
    case round =>
      obtain ⟨k, hk, rfl, HW, HJ⟩ := hrel
      by_cases hlt : k < a.length
      · obtain ⟨g, off, x, rfl, _, hcell0, hx⟩ := HC.out k hlt
        obtain ⟨g', off', y, rfl, _, hcell0', hy⟩ := HD.out k (by rw [← HL.out]; exact hlt)
        have hi2 : (k : Int) < (b.length : Int) := by rw [← HL.out]; omega
        obtain ⟨xo, xc, rfl, hx2⟩ := id hx
        obtain ⟨yo, yc, rfl, hy2⟩ := id hy
        have hcell := (HW.out.cell _).trans hcell0
        have hcell' := (HW.out.cell _).trans hcell0'
        have HX := Lib.hid (hx.dr HW.out)
        have HY := Lib.hid (hy.dr HW.out)
        clear hx hy hx2 hy2 hcell0 hcell0'
        have call : ∀ (m : Nat), Calls Try.prog 51 #[.slice xo (row a k).length xc, .slice yo (row b k).length yc] (wr.drewN m) (Quiet (.bool (sameB (row a k) (row b k))) (wr.drewN m)) := fun m => eqIntS_any _ _ _ _ _ (HX.out.drewN m) (HY.out.drewN m)
        have HCALL := Lib.hid call
        clear call
        by_cases he : row a k = row b k
        · have heb : sameB (row a k) (row b k) = true := sameB_yes he
          have HJ2 : Hid (∀ j, j < k + 1 → row a j = row b j) := by
            intro j hj
            by_cases e : j < k
            · exact HJ.out j e
            · have : j = k := by omega
              subst this; exact he
          rw [heb] at HCALL
          clear he heb
          go_wp2_with fail
          go_quiet ((go_at_call 51; exact quiet_in (HCALL.out _)))
          go_wp2
          go_roundw
          case rel => exact ⟨k + 1, by omega, by go_num, HW.out.more _, HJ2⟩
          case measure => simp [intOf]; omega
        · have heb : sameB (row a k) (row b k) = false := sameB_no he
          have hno : sameMB a b = false := sameMB_no fun e => he (by rw [e])
          have HN := Lib.hid hno
          rw [heb] at HCALL
          clear he hno heb
          go_wp2_with fail
          go_quiet ((go_at_call 51; exact quiet_in (HCALL.out _)))
          go_wp2
          go_ret
          exact ⟨by rw [HN.out]; rfl, HW.out.more _⟩
      · have hke : k = a.length := by omega
        have hyes : sameMB a b = true := sameMB_yes (ext_row HL.out fun i hi => HJ.out i (by omega))
        have HY := Lib.hid hyes
        clear hyes hke
        go_wp2
        go_ret
        exact ⟨by rw [HY.out]; rfl, HW.out⟩
  · have hl2 : ((a.length : Int) != (b.length : Int)) = true := by simpa using fun e => hl (by omega)
    have HN := Lib.hid (sameMB_no (a := a) (b := b) fun e => hl (by rw [e]))
    clear hl HC HD
    go_enter Try.func19, Try.ntmps19
    go_wp2
    go_ret
    exact ⟨by rw [HN.out]; rfl, Dr.refl _⟩

end Go.Proofs.Ytclffncimaigfaa
