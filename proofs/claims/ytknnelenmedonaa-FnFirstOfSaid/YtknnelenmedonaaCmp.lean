/- What slices.Compare, compareRows, l7Same and l7Less return. Conditions: as each theorem says. -/
import Derived.Test.YtknnelenmedonaaLex
import Derived.StillTailTactics
namespace Go.Proofs.Ytknnelenmedonaa
set_option linter.unusedVariables false
set_option linter.unusedSimpArgs false
open Go.RowKit Go.Deep

def cmpI (x y : Int) : Int := if x < y then -1 else if y < x then 1 else 0
set_option maxHeartbeats 400000 in
theorem cmpCompare_any (x y : Int) (w : World) : Calls Try.prog 81 #[.int .i64 x, .int .i64 y] w (Quiet (.int .i64 (cmpI x y)) w) := by
  have hx : (x != x) = false := by simp
  have hy : (y != y) = false := by simp
  by_cases h1 : x < y
  · have HV : Hid (cmpI x y = -1) := by unfold cmpI; exact if_pos h1
    go_enter Try.func81, Try.ntmps81
    go_wp2
    go_ret
    exact ⟨by rw [HV.out]; rfl, Dr.refl _⟩
  · by_cases h2 : y < x
    · have HV : Hid (cmpI x y = 1) := by unfold cmpI; rw [if_neg h1]; exact if_pos h2
      go_enter Try.func81, Try.ntmps81
      go_wp2
      go_ret
      exact ⟨by rw [HV.out]; rfl, Dr.refl _⟩
    · have HV : Hid (cmpI x y = 0) := by unfold cmpI; rw [if_neg h1]; exact if_neg h2
      go_enter Try.func81, Try.ntmps81
      go_wp2
      go_ret
      exact ⟨by rw [HV.out]; rfl, Dr.refl _⟩

set_option maxHeartbeats 1000000 in
theorem slicesCompare_any (v u : Value) (a b : List Int) (w : World) (ha : IIn w v a) (hb : IIn w u b) : Calls Try.prog 78 #[v, u] w (Quiet (.int .i64 (lexR a b)) w) := by
  obtain ⟨ao, ac, rfl, hma, hca⟩ := ha
  obtain ⟨bo, bc, rfl, hmb, hcb⟩ := hb
  rw [maxLen_val] at hma hmb
  have HA := Lib.hid hca
  have HB := Lib.hid hcb
  clear hca hcb
  go_enter Try.func78, Try.ntmps78
  go_wp2
  go_loopw [11] (fun i wr => ∃ k : Nat, k ≤ a.length ∧ k ≤ b.length ∧ i = .int .i64 k ∧ Hid (Dr w wr) ∧ Hid (∀ j, j < k → iat a j = iat b j)) (fun i _ => a.length - (intOf i).toNat)
  case atStart => exact ⟨0, Nat.zero_le _, Nat.zero_le _, rfl, Dr.refl _, fun j hj => absurd hj (by omega)⟩
  case round =>
    obtain ⟨k, hk, hkb, rfl, HW, HJ⟩ := hrel
    by_cases hlt : k < a.length
    · obtain ⟨g, off, rfl, _, hcell0⟩ := HA.out k hlt
      have c1 := (HW.out.cell _).trans hcell0
      clear hcell0
      by_cases hltb : k < b.length
      · obtain ⟨g', off', rfl, _, hcell0'⟩ := HB.out k hltb
        have c2 := (HW.out.cell _).trans hcell0'
        clear hcell0'
        by_cases h1 : iat a k < iat b k
        · have hv : cmpI (iat a k) (iat b k) = -1 := by unfold cmpI; exact if_pos h1
          have HV : Hid (lexR a b = -1) := by show _ = _; rw [lexR_at hlt hltb HJ.out]; exact if_pos h1
          have hc := cmpCompare_any (iat a k) (iat b k) wr
          rw [hv] at hc
          have HC := Lib.hid <| hc
          clear hc hv h1
          go_wp2_with fail
          refine (HC.out).mono ?_
          rintro e w1 ⟨rfl, hd_w1⟩
          have HW1 : Hid (Dr _ w1) := HW.out.trans hd_w1
          clear hd_w1 HW
          go_wp2
          go_ret
          exact ⟨by rw [HV.out]; rfl, HW1.out⟩
        · by_cases h2 : iat b k < iat a k
          · have hv : cmpI (iat a k) (iat b k) = 1 := by unfold cmpI; rw [if_neg h1]; exact if_pos h2
            have HV : Hid (lexR a b = 1) := by show _ = _; rw [lexR_at hlt hltb HJ.out, if_neg h1]; exact if_pos h2
            have hc := cmpCompare_any (iat a k) (iat b k) wr
            rw [hv] at hc
            have HC := Lib.hid <| hc
            clear hc hv h1 h2
            go_wp2_with fail
            refine (HC.out).mono ?_
            rintro e w1 ⟨rfl, hd_w1⟩
            have HW1 : Hid (Dr _ w1) := HW.out.trans hd_w1
            clear hd_w1 HW
            go_wp2
            go_ret
            exact ⟨by rw [HV.out]; rfl, HW1.out⟩
          · have hv : cmpI (iat a k) (iat b k) = 0 := by unfold cmpI; rw [if_neg h1]; exact if_neg h2
            have HJ2 : Hid (∀ j, j < k + 1 → iat a j = iat b j) := all_step HJ.out (by omega)
            have hc := cmpCompare_any (iat a k) (iat b k) wr
            rw [hv] at hc
            have HC := Lib.hid <| hc
            clear hc hv h1 h2
            go_wp2_with fail
            refine (HC.out).mono ?_
            rintro e w1 ⟨rfl, hd_w1⟩
            have HW1 : Hid (Dr _ w1) := HW.out.trans hd_w1
            clear hd_w1 HW
            go_wp2
            go_roundw
            case rel => exact ⟨k + 1, by omega, by omega, by go_num, HW1, HJ2⟩
            case measure => simp [intOf]; omega
      · have hke : k = b.length := by omega
        subst hke
        have HV : Hid (lexR a b = 1) := lexR_long hlt HJ.out
        go_wp2
        go_ret
        exact ⟨by rw [HV.out]; rfl, HW.out⟩
    · have hke : k = a.length := by omega
      subst hke
      by_cases hl : a.length < b.length
      · have HV : Hid (lexR a b = -1) := lexR_short hl HJ.out
        go_wp2
        go_ret
        exact ⟨by rw [HV.out]; rfl, HW.out⟩
      · have HV : Hid (lexR a b = 0) := lexR_same (by omega) HJ.out
        have hlb : ¬ (a.length : Int) < (b.length : Int) := by omega
        go_wp2
        go_ret
        exact ⟨by rw [HV.out]; rfl, HW.out⟩

set_option maxHeartbeats 1000000 in
theorem compareRows_any (v u : Value) (a b : List (List Int)) (w : World) (ha : MIn w v a) (hb : MIn w u b) : Calls Try.prog 65 #[v, u] w (Quiet (.int .i64 (lexM a b)) w) := by
  obtain ⟨ao, ac, rfl, hma, hca⟩ := ha
  obtain ⟨bo, bc, rfl, hmb, hcb⟩ := hb
  rw [maxLen_val] at hma hmb
  have HA := Lib.hid hca
  have HB := Lib.hid hcb
  clear hca hcb
  go_enter Try.func65, Try.ntmps65
  go_wp2
  go_loopw [13] (fun i wr => ∃ k : Nat, k ≤ a.length ∧ k ≤ b.length ∧ i = .int .i64 k ∧ Hid (Dr w wr) ∧ Hid (∀ j, j < k → row a j = row b j)) (fun i _ => a.length - (intOf i).toNat)
  case atStart => exact ⟨0, Nat.zero_le _, Nat.zero_le _, rfl, Dr.refl _, fun j hj => absurd hj (by omega)⟩
  case round =>
    obtain ⟨k, hk, hkb, rfl, HW, HJ⟩ := hrel
    by_cases hlt : k < a.length
    · obtain ⟨g, off, x, rfl, _, hcell0, hx⟩ := HA.out k hlt
      obtain ⟨xo, xc, rfl, -⟩ := id hx
      have c1 := (HW.out.cell _).trans hcell0
      have HX := Lib.hid (hx.dr HW.out)
      clear hcell0 hx
      by_cases hltb : k < b.length
      · obtain ⟨g', off', y, rfl, _, hcell0', hy⟩ := HB.out k hltb
        obtain ⟨yo, yc, rfl, -⟩ := id hy
        have c2 := (HW.out.cell _).trans hcell0'
        have hc := slicesCompare_any _ _ _ _ wr HX.out (hy.dr HW.out)
        have HC := Lib.hid <| hc
        clear hcell0' hy hc
        by_cases h0 : lexR (row a k) (row b k) = 0
        · have HJ2 : Hid (∀ j, j < k + 1 → row a j = row b j) := all_step HJ.out (lexR_zero.1 h0)
          rw [h0] at HC
          clear h0
          go_wp2_with fail
          refine (HC.out).mono ?_
          rintro e w1 ⟨rfl, hd_w1⟩
          have HW1 : Hid (Dr _ w1) := HW.out.trans hd_w1
          clear hd_w1 HW
          go_wp2
          go_roundw
          case rel => exact ⟨k + 1, by omega, by omega, by go_num, HW1, HJ2⟩
          case measure => simp [intOf]; omega
        · have HV : Hid (lexM a b = lexR (row a k) (row b k)) := lexM_at hlt hltb HJ.out h0
          have h0b : (lexR (row a k) (row b k) != 0) = true := by simpa using h0
          clear h0
          go_wp2_with fail
          refine (HC.out).mono ?_
          rintro e w1 ⟨rfl, hd_w1⟩
          have HW1 : Hid (Dr _ w1) := HW.out.trans hd_w1
          clear hd_w1 HW
          go_wp2
          go_ret
          exact ⟨by rw [HV.out]; rfl, HW1.out⟩
      · have hke : k = b.length := by omega
        subst hke
        have HV : Hid (lexM a b = 1) := lexM_long hlt HJ.out
        go_wp2
        go_ret
        exact ⟨by rw [HV.out]; rfl, HW.out⟩
    · have hke : k = a.length := by omega
      subst hke
      by_cases hl : a.length < b.length
      · have HV : Hid (lexM a b = -1) := lexM_short hl HJ.out
        go_wp2
        go_ret
        exact ⟨by rw [HV.out]; rfl, HW.out⟩
      · have HV : Hid (lexM a b = 0) := lexM_same (by omega) HJ.out
        have hlb : ¬ (a.length : Int) < (b.length : Int) := by omega
        go_wp2
        go_ret
        exact ⟨by rw [HV.out]; rfl, HW.out⟩

/-- Up to a place two squares are equal. -/
def EqTo (a b : List (List Int)) (k j : Nat) : Prop := (∀ i, i < k → row a i = row b i) ∧ ∀ i, i < j → at2 a k i = at2 b k i
theorem EqTo.step {a b : List (List Int)} {k j : Nat} (h : EqTo a b k j) (e : at2 a k j = at2 b k j) : EqTo a b k (j + 1) := ⟨h.1, all_step h.2 e⟩
theorem EqTo.next {a b : List (List Int)} {k n : Nat} (h : EqTo a b k n) (ha : (row a k).length = n) (hb : (row b k).length = n) : EqTo a b (k + 1) 0 :=
  ⟨all_step h.1 (ext_iat (by omega) fun i hi => h.2 i (by omega)), fun i hi => absurd hi (by omega)⟩
theorem EqTo.start (a b : List (List Int)) : EqTo a b 0 0 := ⟨fun i hi => absurd hi (by omega), fun i hi => absurd hi (by omega)⟩

set_option maxHeartbeats 1000000 in
theorem l7Same_any (lo hi lo' hi' : Nat) (v u : Value) (a b : List (List Int)) (w : World) (ha : MMem lo hi w v a) (hb : MMem lo' hi' w u b) (sa : Space a) (sb : Space b) (hl : a.length = b.length) :
    Calls Try.prog 61 #[v, u] w (Quiet (.bool (decP (a = b))) w) := by
  obtain ⟨ab, ac, AB, AC, rfl, hA⟩ := ha.space sa
  obtain ⟨bb, bc, BB, BC, rfl, hB⟩ := hb.space sb
  have hsix := sa.six
  have HA := Lib.hid hA
  have HB := Lib.hid hB
  have HL := Lib.hid hl
  have HS := Lib.hid (EqTo.start a b)
  clear hA hB ha hb sa sb hl
  go_enter Try.func61, Try.ntmps61
  rw [← HL.out]
  go_wp2
  go_loopw [5] (fun kv wr => ∃ k : Nat, k ≤ a.length ∧ kv = .int .i64 k ∧ Hid (Dr w wr) ∧ Hid (EqTo a b k 0)) (fun kv _ => a.length - (intOf kv).toNat)
  case atStart => exact ⟨0, Nat.zero_le _, rfl, Dr.refl _, HS⟩
  case round =>
    clear HS
    obtain ⟨k, hk', rfl, HW, HS⟩ := hrel
    by_cases hk : k < a.length
    · go_wp2
      go_loopw [6] (fun jv wr => ∃ j : Nat, j ≤ a.length ∧ jv = .int .i64 j ∧ Hid (Dr w wr) ∧ Hid (EqTo a b k j)) (fun jv _ => a.length - (intOf jv).toNat)
      case atStart => exact ⟨0, Nat.zero_le _, rfl, HW, HS⟩
      case round =>
        clear HW HS
        obtain ⟨j, hj', rfl, HW, HS⟩ := hrel
        by_cases hj : j < a.length
        · have a1 := (HA.out.dr HW.out).top k hk
          have a2 := (HA.out.dr HW.out).cell k j hk hj
          have b1 := (HB.out.dr HW.out).top k (by rw [← HL.out]; exact hk)
          have b2 := (HB.out.dr HW.out).cell k j (by rw [← HL.out]; exact hk) (by rw [← HL.out]; exact hj)
          rw [← HL.out] at b1
          have hki : (k : Int) < (a.length : Int) := by omega
          have hji : (j : Int) < (a.length : Int) := by omega
          by_cases he : at2 a k j = at2 b k j
          · have heb : (at2 a k j != at2 b k j) = false := by simpa using he
            have HS2 := Lib.hid (HS.out.step he)
            clear he
            go_wp2_with fail
            go_quiet (fail)
            clear a1 a2 b1 b2
            go_wp2
            go_roundw
            case rel => exact ⟨j + 1, by omega, by go_num, HW.out.more _, HS2⟩
            case measure => simp [intOf]; omega
          · have heb : (at2 a k j != at2 b k j) = true := by simpa using he
            have HN := Lib.hid (decP_no (p := a = b) fun e => he (by rw [e]))
            clear he
            go_wp2_with fail
            go_quiet (fail)
            go_wp2
            go_ret
            exact ⟨by rw [HN.out]; rfl, HW.out.more _⟩
        · have hje : j = a.length := by omega
          have HS2 : Hid (EqTo a b (k + 1) 0) := HS.out.next (by rw [HA.out.len k hk]; omega) (by rw [HB.out.len k (by rw [← HL.out]; exact hk), ← HL.out]; omega)
          clear hje
          go_wp2
          go_roundw
          case rel => exact ⟨k + 1, by omega, by go_num, HW, HS2⟩
          case measure => simp [intOf]; omega
    · have HY := Lib.hid (decP_yes (p := a = b) (ext_row HL.out fun i hi => HS.out.1 i (by omega)))
      go_wp2
      go_ret
      exact ⟨by rw [HY.out]; rfl, HW.out⟩

set_option maxHeartbeats 1000000 in
theorem l7Less_any (lo hi lo' hi' : Nat) (v u : Value) (a b : List (List Int)) (w : World) (ha : MMem lo hi w v a) (hb : MMem lo' hi' w u b) (sa : Space a) (sb : Space b) (hl : a.length = b.length) :
    Calls Try.prog 66 #[v, u] w (Quiet (.bool (decide (lexM a b < 0))) w) := by
  obtain ⟨ab, ac, AB, AC, rfl, hA⟩ := ha.space sa
  obtain ⟨bb, bc, BB, BC, rfl, hB⟩ := hb.space sb
  have hsix := sa.six
  have HA := Lib.hid hA
  have HB := Lib.hid hB
  have HL := Lib.hid hl
  have HS := Lib.hid (EqTo.start a b)
  clear hA hB ha hb sa sb hl
  go_enter Try.func66, Try.ntmps66
  rw [← HL.out]
  go_wp2
  go_loopw [5] (fun kv wr => ∃ k : Nat, k ≤ a.length ∧ kv = .int .i64 k ∧ Hid (Dr w wr) ∧ Hid (EqTo a b k 0)) (fun kv _ => a.length - (intOf kv).toNat)
  case atStart => exact ⟨0, Nat.zero_le _, rfl, Dr.refl _, HS⟩
  case round =>
    clear HS
    obtain ⟨k, hk', rfl, HW, HS⟩ := hrel
    by_cases hk : k < a.length
    · go_wp2
      go_loopw [6] (fun jv wr => ∃ j : Nat, j ≤ a.length ∧ jv = .int .i64 j ∧ Hid (Dr w wr) ∧ Hid (EqTo a b k j)) (fun jv _ => a.length - (intOf jv).toNat)
      case atStart => exact ⟨0, Nat.zero_le _, rfl, HW, HS⟩
      case round =>
        clear HW HS
        obtain ⟨j, hj', rfl, HW, HS⟩ := hrel
        by_cases hj : j < a.length
        · have a1 := (HA.out.dr HW.out).top k hk
          have a2 := (HA.out.dr HW.out).cell k j hk hj
          have b1 := (HB.out.dr HW.out).top k (by rw [← HL.out]; exact hk)
          have b2 := (HB.out.dr HW.out).cell k j (by rw [← HL.out]; exact hk) (by rw [← HL.out]; exact hj)
          rw [← HL.out] at b1
          have hki : (k : Int) < (a.length : Int) := by omega
          have hji : (j : Int) < (a.length : Int) := by omega
          by_cases he : at2 a k j = at2 b k j
          · have heb : (at2 a k j != at2 b k j) = false := by simpa using he
            have HS2 := Lib.hid (HS.out.step he)
            clear he
            go_wp2_with fail
            go_quiet (fail)
            clear a1 a2 b1 b2
            go_wp2
            go_roundw
            case rel => exact ⟨j + 1, by omega, by go_num, HW.out.more _, HS2⟩
            case measure => simp [intOf]; omega
          · have heb : (at2 a k j != at2 b k j) = true := by simpa using he
            have hnum := lexM_num (a := a) (b := b) (n := a.length) rfl HL.out.symm (fun i hi => HA.out.len i hi) (fun i hi => by rw [HB.out.len i (by rw [← HL.out]; exact hi), HL.out]) hk hj HS.out.1 HS.out.2 he
            have HN : Hid (decide (lexM a b < 0) = decide (at2 a k j < at2 b k j)) := decide_eq_decide.2 hnum
            clear he hnum
            go_wp2_with fail
            go_quiet (fail)
            go_wp2_with fail
            have a1 := (HA.out.dr (HW.out.more nq)).top k hk
            have a2 := (HA.out.dr (HW.out.more nq)).cell k j hk hj
            have b1 := (HB.out.dr (HW.out.more nq)).top k (by rw [← HL.out]; exact hk)
            have b2 := (HB.out.dr (HW.out.more nq)).cell k j (by rw [← HL.out]; exact hk) (by rw [← HL.out]; exact hj)
            rw [← HL.out] at b1
            go_quiet (fail)
            go_wp2
            go_ret
            exact ⟨by rw [HN.out]; rfl, (HW.out.more _).more _⟩
        · have hje : j = a.length := by omega
          have HS2 : Hid (EqTo a b (k + 1) 0) := HS.out.next (by rw [HA.out.len k hk]; omega) (by rw [HB.out.len k (by rw [← HL.out]; exact hk), ← HL.out]; omega)
          clear hje
          go_wp2
          go_roundw
          case rel => exact ⟨k + 1, by omega, by go_num, HW, HS2⟩
          case measure => simp [intOf]; omega
    · have HY : Hid (decide (lexM a b < 0) = false) := by
        have h0 := lexM_same HL.out (fun i hi => HS.out.1 i (by omega))
        show _ = _
        rw [h0]; rfl
      go_wp2
      go_ret
      exact ⟨by rw [HY.out]; rfl, HW.out⟩

end Go.Proofs.Ytknnelenmedonaa
