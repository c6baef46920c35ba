/- What impl.isSpace, spec.SpaceOk and impl.hasPoint return, each a contract. Conditions: as each theorem says. -/
import Derived.Test.YtclffncimaigfaaSpace2
namespace Go.Proofs.Ytclffncimaigfaa
set_option linter.unusedVariables false
set_option linter.unusedSimpArgs false
open Go.RowKit Go.Deep

set_option maxHeartbeats 1000000 in
theorem isSpace_any (lo hi : Nat) (v : Value) (d : List (List Int)) (w : World) (h : MMem lo hi w v d) :
    Calls Try.prog 61 #[v] w (Quiet (.bool (decP (Space d))) w) := by
  have hfar := areFar_any lo hi v d w h
  obtain ⟨b, cap, BB, CC, rfl, _, _, _, hm1, hm2, hc, hr, hcc, _⟩ := h.open
  rw [maxLen_val] at hm2
  have HC := Lib.hid hc
  have HCC := Lib.hid hcc
  clear hc hcc hr h
  by_cases hF : Far d
  · have hsix := hF.six
    have HF := Lib.hid hF
    rw [decP_yes hF] at hfar
    have HCALL := Lib.hid hfar
    clear hF hfar
    go_enter Try.func61, Try.ntmps61
    go_wp2_with fail
    refine HCALL.out.mono ?_
    rintro e w1 ⟨rfl, hd1⟩
    have HW1 : Hid (Dr w w1) := hd1
    clear hd1 HCALL
    go_wp2
    go_loopw [11] (fun iv wr => ∃ i : Nat, i ≤ d.length ∧ iv = .int .i64 i ∧ Hid (Dr w wr) ∧ Hid (∀ p q r, p < i → q < d.length → r < d.length → at2 d p r ≤ at2 d p q + at2 d q r)) (fun iv _ => d.length - (intOf iv).toNat)
    case atStart => exact ⟨0, Nat.zero_le _, rfl, HW1, fun p q r hp => absurd hp (by omega)⟩
    case round =>
      clear HW1
      obtain ⟨i, hi, rfl, HW, HI⟩ := hrel
      by_cases hilt : i < d.length
      · go_wp2
        go_loopw [16] (fun kv wr => ∃ k : Nat, k ≤ d.length ∧ kv = .int .i64 k ∧ Hid (Dr w wr) ∧ Hid (∀ q r, r < k → q < d.length → at2 d i r ≤ at2 d i q + at2 d q r)) (fun kv _ => d.length - (intOf kv).toNat)
        case atStart => exact ⟨0, Nat.zero_le _, rfl, HW, fun q r hr => absurd hr (by omega)⟩
        case round =>
          clear HW
          obtain ⟨k, hk, rfl, HW, HK⟩ := hrel
          by_cases hklt : k < d.length
          · go_wp2
            go_loopw [21] (fun jv wr => ∃ j : Nat, j ≤ d.length ∧ jv = .int .i64 j ∧ Hid (Dr w wr) ∧ Hid (∀ q, q < j → at2 d i k ≤ at2 d i q + at2 d q k)) (fun jv _ => d.length - (intOf jv).toNat)
            case atStart => exact ⟨0, Nat.zero_le _, rfl, HW, fun q hq => absurd hq (by omega)⟩
            case round =>
              clear HW
              obtain ⟨j, hj, rfl, HW, HJ⟩ := hrel
              by_cases hjlt : j < d.length
              · have c1 := (HW.out.cell _).trans (HC.out i hilt)
                have c2 := (HW.out.cell _).trans (HC.out j hjlt)
                have l1 : (k : Int) < ((row d i).length : Int) := by rw [HF.out.sq i hilt]; omega
                have l2 : (j : Int) < ((row d i).length : Int) := by rw [HF.out.sq i hilt]; omega
                have l3 : (k : Int) < ((row d j).length : Int) := by rw [HF.out.sq j hjlt]; omega
                have c3 := (HW.out.cell _).trans (HCC.out i hilt k (by omega))
                have c4 := (HW.out.cell _).trans (HCC.out i hilt j (by omega))
                have c5 := (HW.out.cell _).trans (HCC.out j hjlt k (by omega))
                have b1 := (HF.out.ent i k hilt hklt).2.1
                have b2 := (HF.out.ent i j hilt hjlt).2.1
                have b3 := (HF.out.ent j k hjlt hklt).2.1
                have b4 := (HF.out.ent i k hilt hklt).1
                have b5 := (HF.out.ent i j hilt hjlt).1
                have b6 := (HF.out.ent j k hjlt hklt).1
                have hw : IntKind.i64.wrap (at2 d i j + at2 d j k) = at2 d i j + at2 d j k := IntWalk.i64_in _ (by omega)
                by_cases ht : at2 d i k ≤ at2 d i j + at2 d j k
                · have HJ2 : Hid (∀ q, q < j + 1 → at2 d i k ≤ at2 d i q + at2 d q k) := by
                    intro q hq
                    by_cases e : q < j
                    · exact HJ.out q e
                    · have : q = j := by omega
                      subst this; exact ht
                  go_wp2_with fail
                  go_quiet (fail)
                  clear hw
                  go_wp2
                  go_roundw
                  case rel => exact ⟨j + 1, by omega, by go_num, HW.out.more _, HJ2⟩
                  case measure => simp [intOf]; omega
                · have ht2 : at2 d i j + at2 d j k < at2 d i k := by omega
                  have HN := Lib.hid (decP_no (p := Space d) fun hs => ht (hs.tri i j k hilt hjlt hklt))
                  clear ht
                  go_wp2_with fail
                  go_quiet (fail)
                  clear hw
                  go_wp2
                  go_ret
                  exact ⟨by rw [HN.out]; rfl, HW.out.more _⟩
              · have HK2 : Hid (∀ q r, r < k + 1 → q < d.length → at2 d i r ≤ at2 d i q + at2 d q r) := by
                  intro q r hr hq
                  by_cases e : r < k
                  · exact HK.out q r e hq
                  · have : r = k := by omega
                    subst this; exact HJ.out q (by omega)
                go_wp2
                go_roundw
                case rel => exact ⟨k + 1, by omega, by go_num, HW, HK2⟩
                case measure => simp [intOf]; omega
          · have HI2 : Hid (∀ p q r, p < i + 1 → q < d.length → r < d.length → at2 d p r ≤ at2 d p q + at2 d q r) := by
              intro p q r hp hq hr
              by_cases e : p < i
              · exact HI.out p q r e hq hr
              · have : p = i := by omega
                subst this; exact HK.out q r (by omega) hq
            go_wp2
            go_roundw
            case rel => exact ⟨i + 1, by omega, by go_num, HW, HI2⟩
            case measure => simp [intOf]; omega
      · have HY := Lib.hid (decP_yes (p := Space d) ⟨HF.out, fun p q r hp hq hr => HI.out p q r (by omega) hq hr⟩)
        go_wp2
        go_ret
        exact ⟨by rw [HY.out]; rfl, HW.out⟩
  · have HN := Lib.hid (decP_no (p := Space d) fun hs => hF hs.toFar)
    rw [decP_no hF] at hfar
    have HCALL := Lib.hid hfar
    clear hF hfar HC HCC
    go_enter Try.func61, Try.ntmps61
    go_wp2_with fail
    refine HCALL.out.mono ?_
    rintro e w1 ⟨rfl, hd1⟩
    have HW1 : Hid (Dr w w1) := hd1
    clear hd1 HCALL
    go_wp2
    go_ret
    exact ⟨by rw [HN.out]; rfl, HW1.out⟩

set_option maxHeartbeats 1000000 in
theorem specSpaceOk_any (lo hi : Nat) (v : Value) (d : List (List Int)) (w : World) (h : MMem lo hi w v d) :
    Calls Try.prog 23 #[v] w (Quiet (.bool (decP (Space d))) w) := by
  have hfar := specFarOk_any lo hi v d w h
  obtain ⟨b, cap, BB, CC, rfl, _, _, _, hm1, hm2, hc, hr, hcc, _⟩ := h.open
  rw [maxLen_val] at hm2
  have HC := Lib.hid hc
  have HCC := Lib.hid hcc
  clear hc hcc hr h
  by_cases hF : Far d
  · have hsix := hF.six
    have HF := Lib.hid hF
    rw [decP_yes hF] at hfar
    have HCALL := Lib.hid hfar
    clear hF hfar
    go_enter Try.func23, Try.ntmps23
    go_wp2_with fail
    refine HCALL.out.mono ?_
    rintro e w1 ⟨rfl, hd1⟩
    have HW1 : Hid (Dr w w1) := hd1
    clear hd1 HCALL
    go_wp2
    go_loopw [3] (fun iv wr => ∃ i : Nat, i ≤ d.length ∧ iv = .int .i64 i ∧ Hid (Dr w wr) ∧ Hid (∀ p q r, p < i → q < d.length → r < d.length → at2 d p r ≤ at2 d p q + at2 d q r)) (fun iv _ => d.length - (intOf iv).toNat)
    case atStart => exact ⟨0, Nat.zero_le _, rfl, HW1, fun p q r hp => absurd hp (by omega)⟩
    case round =>
      clear HW1
      obtain ⟨i, hi, rfl, HW, HI⟩ := hrel
      by_cases hilt : i < d.length
      · go_wp2
        go_loopw [4] (fun kv wr => ∃ k : Nat, k ≤ d.length ∧ kv = .int .i64 k ∧ Hid (Dr w wr) ∧ Hid (∀ q r, r < k → q < d.length → at2 d i r ≤ at2 d i q + at2 d q r)) (fun kv _ => d.length - (intOf kv).toNat)
        case atStart => exact ⟨0, Nat.zero_le _, rfl, HW, fun q r hr => absurd hr (by omega)⟩
        case round =>
          clear HW
          obtain ⟨k, hk, rfl, HW, HK⟩ := hrel
          by_cases hklt : k < d.length
          · go_wp2
            go_loopw [5] (fun jv wr => ∃ j : Nat, j ≤ d.length ∧ jv = .int .i64 j ∧ Hid (Dr w wr) ∧ Hid (∀ q, q < j → at2 d i k ≤ at2 d i q + at2 d q k)) (fun jv _ => d.length - (intOf jv).toNat)
            case atStart => exact ⟨0, Nat.zero_le _, rfl, HW, fun q hq => absurd hq (by omega)⟩
            case round =>
              clear HW
              obtain ⟨j, hj, rfl, HW, HJ⟩ := hrel
              by_cases hjlt : j < d.length
              · have c1 := (HW.out.cell _).trans (HC.out i hilt)
                have c2 := (HW.out.cell _).trans (HC.out j hjlt)
                have l1 : (k : Int) < ((row d i).length : Int) := by rw [HF.out.sq i hilt]; omega
                have l2 : (j : Int) < ((row d i).length : Int) := by rw [HF.out.sq i hilt]; omega
                have l3 : (k : Int) < ((row d j).length : Int) := by rw [HF.out.sq j hjlt]; omega
                have c3 := (HW.out.cell _).trans (HCC.out i hilt k (by omega))
                have c4 := (HW.out.cell _).trans (HCC.out i hilt j (by omega))
                have c5 := (HW.out.cell _).trans (HCC.out j hjlt k (by omega))
                have b1 := (HF.out.ent i k hilt hklt).2.1
                have b2 := (HF.out.ent i j hilt hjlt).2.1
                have b3 := (HF.out.ent j k hjlt hklt).2.1
                have b4 := (HF.out.ent i k hilt hklt).1
                have b5 := (HF.out.ent i j hilt hjlt).1
                have b6 := (HF.out.ent j k hjlt hklt).1
                have hw : IntKind.i64.wrap (at2 d i j + at2 d j k) = at2 d i j + at2 d j k := IntWalk.i64_in _ (by omega)
                by_cases ht : at2 d i k ≤ at2 d i j + at2 d j k
                · have HJ2 : Hid (∀ q, q < j + 1 → at2 d i k ≤ at2 d i q + at2 d q k) := by
                    intro q hq
                    by_cases e : q < j
                    · exact HJ.out q e
                    · have : q = j := by omega
                      subst this; exact ht
                  go_wp2_with fail
                  go_quiet (fail)
                  clear hw
                  go_wp2
                  go_roundw
                  case rel => exact ⟨j + 1, by omega, by go_num, HW.out.more _, HJ2⟩
                  case measure => simp [intOf]; omega
                · have ht2 : at2 d i j + at2 d j k < at2 d i k := by omega
                  have HN := Lib.hid (decP_no (p := Space d) fun hs => ht (hs.tri i j k hilt hjlt hklt))
                  clear ht
                  go_wp2_with fail
                  go_quiet (fail)
                  clear hw
                  go_wp2
                  go_ret
                  exact ⟨by rw [HN.out]; rfl, HW.out.more _⟩
              · have HK2 : Hid (∀ q r, r < k + 1 → q < d.length → at2 d i r ≤ at2 d i q + at2 d q r) := by
                  intro q r hr hq
                  by_cases e : r < k
                  · exact HK.out q r e hq
                  · have : r = k := by omega
                    subst this; exact HJ.out q (by omega)
                go_wp2
                go_roundw
                case rel => exact ⟨k + 1, by omega, by go_num, HW, HK2⟩
                case measure => simp [intOf]; omega
          · have HI2 : Hid (∀ p q r, p < i + 1 → q < d.length → r < d.length → at2 d p r ≤ at2 d p q + at2 d q r) := by
              intro p q r hp hq hr
              by_cases e : p < i
              · exact HI.out p q r e hq hr
              · have : p = i := by omega
                subst this; exact HK.out q r (by omega) hq
            go_wp2
            go_roundw
            case rel => exact ⟨i + 1, by omega, by go_num, HW, HI2⟩
            case measure => simp [intOf]; omega
      · have HY := Lib.hid (decP_yes (p := Space d) ⟨HF.out, fun p q r hp hq hr => HI.out p q r (by omega) hq hr⟩)
        go_wp2
        go_ret
        exact ⟨by rw [HY.out]; rfl, HW.out⟩
  · have HN := Lib.hid (decP_no (p := Space d) fun hs => hF hs.toFar)
    rw [decP_no hF] at hfar
    have HCALL := Lib.hid hfar
    clear hF hfar HC HCC
    go_enter Try.func23, Try.ntmps23
    go_wp2_with fail
    refine HCALL.out.mono ?_
    rintro e w1 ⟨rfl, hd1⟩
    have HW1 : Hid (Dr w w1) := hd1
    clear hd1 HCALL
    go_wp2
    go_ret
    exact ⟨by rw [HN.out]; rfl, HW1.out⟩

/-- Is p a point of the space d? -/
def Pt (d : List (List Int)) (p : Int) : Prop := Space d ∧ 0 ≤ p ∧ p < d.length

set_option maxHeartbeats 400000 in
theorem hasPoint_any (lo hi : Nat) (v : Value) (d : List (List Int)) (p : Int) (w : World) (h : MMem lo hi w v d) :
    Calls Try.prog 52 #[v, .int .i64 p] w (Quiet (.bool (decP (Pt d p))) w) := by
  have hs := isSpace_any lo hi v d w h
  obtain ⟨b, cap, BB, CC, rfl, _⟩ := h.open
  clear h
  by_cases hS : Space d
  · rw [decP_yes hS] at hs
    have HCALL := Lib.hid hs
    have HS := Lib.hid hS
    clear hs hS
    by_cases h0 : 0 ≤ p
    · by_cases h1 : p < d.length
      · have HY := Lib.hid (decP_yes (p := Pt d p) ⟨HS.out, h0, h1⟩)
        go_enter Try.func52, Try.ntmps52
        go_wp2_with fail
        refine HCALL.out.mono ?_
        rintro e w1 ⟨rfl, hd1⟩
        have HW1 : Hid (Dr _ w1) := hd1
        clear hd1 HCALL
        go_wp2
        go_ret
        exact ⟨by rw [HY.out]; rfl, HW1.out⟩
      · have HY := Lib.hid (decP_no (p := Pt d p) fun h => h1 h.2.2)
        have hb : decide (p < (d.length : Int)) = false := by simpa using h1
        go_enter Try.func52, Try.ntmps52
        go_wp2_with fail
        refine HCALL.out.mono ?_
        rintro e w1 ⟨rfl, hd1⟩
        have HW1 : Hid (Dr _ w1) := hd1
        clear hd1 HCALL
        go_wp2
        go_ret
        exact ⟨by rw [HY.out]; rfl, HW1.out⟩
    · have HY := Lib.hid (decP_no (p := Pt d p) fun h => h0 h.2.1)
      go_enter Try.func52, Try.ntmps52
      go_wp2_with fail
      refine HCALL.out.mono ?_
      rintro e w1 ⟨rfl, hd1⟩
      have HW1 : Hid (Dr _ w1) := hd1
      clear hd1 HCALL
      go_wp2
      go_ret
      exact ⟨by rw [HY.out]; rfl, HW1.out⟩
  · have HY := Lib.hid (decP_no (p := Pt d p) fun h => hS h.1)
    rw [decP_no hS] at hs
    have HCALL := Lib.hid hs
    clear hs hS
    go_enter Try.func52, Try.ntmps52
    go_wp2_with fail
    refine HCALL.out.mono ?_
    rintro e w1 ⟨rfl, hd1⟩
    have HW1 : Hid (Dr _ w1) := hd1
    clear hd1 HCALL
    go_wp2
    go_ret
    exact ⟨by rw [HY.out]; rfl, HW1.out⟩

end Go.Proofs.Ytclffncimaigfaa
