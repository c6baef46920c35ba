/- What impl.TameOk and spec.TameOk return. Conditions: as each theorem says. -/
import Derived.Test.YtapllhnlngnobaaAppend
import Derived.Test.YtapllhnlngnobaaVals
namespace Go.Proofs.Ytapllhnlngnobaa
set_option linter.unusedVariables false
set_option linter.unusedSimpArgs false
open Go.RowKit Go.Deep

structure Tame (d : List (List Int)) (f : List Int) : Prop where
  sp : Space d
  vals : Vals f d.length
  ok : ∀ i k, i < d.length → k < d.length → iat f i - iat f k ≤ at2 d i k

theorem Vals.len {f : List Int} {n : Nat} (h : Vals f n) : f.length = n := by have := h.1; omega
theorem Vals.bd {f : List Int} {n i : Nat} (h : Vals f n) (hi : i < n) : -200 ≤ iat f i ∧ iat f i ≤ 200 := h.2 i (by rw [h.len]; exact hi)

set_option maxHeartbeats 1000000 in
theorem implTameOk_any (lo hi lo' hi' : Nat) (v u : Value) (d : List (List Int)) (f : List Int) (w : World) (hd : MMem lo hi w v d) (hf : IMem lo' hi' w u f) :
    Calls Try.prog 22 #[v, u] w (Quiet (.bool (decP (Tame d f))) w) := by
  by_cases hS : Space d
  · have cs := isSpace_any lo hi v d w hd
    rw [decP_yes hS] at cs
    have HCS := Lib.hid <| cs
    have cf : ∀ w', Dr w w' → Calls Try.prog 66 #[u, .int .i64 d.length] w' (Quiet (.bool (decP (Vals f d.length))) w') := fun w' h => areValues_any _ _ _ _ (hf.inn.dr h)
    by_cases hV : Vals f d.length
    · rw [decP_yes hV] at cf
      have HCF := Lib.hid <| cf
      obtain ⟨b, cap, BB, CC, rfl, hO⟩ := hd.space hS
      obtain ⟨fb, fc, rfl, _, _, _, _, _, hc, _⟩ := hf.open
      have hl := hV.len
      have hsix := hS.six
      rw [hl] at HCF ⊢
      have HO := Lib.hid <| hO
      have HC := Lib.hid <| hc
      have HL := Lib.hid <| hl
      have HV := Lib.hid <| hV
      clear cs cf hS hV hd hf hO hc hl
      go_enter Try.func22, Try.ntmps22
      go_wp2_with fail
      refine (HCS.out).mono ?_
      rintro e w1 ⟨rfl, hd_w1⟩
      have HW1 : Hid (Dr _ w1) := hd_w1
      clear hd_w1
      go_wp2_with fail
      refine (HCF.out _ HW1.out).mono ?_
      rintro e w2 ⟨rfl, hd_w2⟩
      have HW2 : Hid (Dr _ w2) := HW1.out.trans hd_w2
      clear hd_w2 HW1
      clear HCS HCF
      go_wp2
      go_loopw [21] (fun iv wr => ∃ i : Nat, i ≤ d.length ∧ iv = .int .i64 i ∧ Hid (Dr w wr) ∧ Hid (∀ p, p < i → ∀ q, q < d.length → iat f p - iat f q ≤ at2 d p q)) (fun iv _ => d.length - (intOf iv).toNat)
      case atStart => exact ⟨0, Nat.zero_le _, rfl, HW2, none_yet⟩
      case round =>
        clear HW2
        obtain ⟨i, hi, rfl, HW, HI⟩ := hrel
        by_cases hilt : i < d.length
        · have c1 := (HW.out.cell _).trans (HC.out i (by rw [HL.out]; exact hilt))
          have bi := HV.out.bd hilt
          go_wp2
          clear c1
          go_loopw [28] (fun kv wr => ∃ k : Nat, k ≤ d.length ∧ kv = .int .i64 k ∧ Hid (Dr w wr) ∧ Hid (∀ q, q < k → iat f i - iat f q ≤ at2 d i q)) (fun kv _ => d.length - (intOf kv).toNat)
          case atStart => exact ⟨0, Nat.zero_le _, rfl, HW, none_yet⟩
          case round =>
            clear HW
            obtain ⟨k, hk, rfl, HW, HK⟩ := hrel
            by_cases hklt : k < d.length
            · have c2 := (HW.out.cell _).trans (HC.out k (by rw [HL.out]; exact hklt))
              have bk := HV.out.bd hklt
              have c3 := (HO.out.dr HW.out).top i hilt
              have c4 := (HO.out.dr HW.out).cell i k hilt hklt
              by_cases ht : iat f i - iat f k ≤ at2 d i k
              · have HK2 := Lib.hid (all_step HK.out ht)
                go_wp2
                go_roundw
                case rel => exact ⟨k + 1, by omega, by go_num, HW, HK2⟩
                case measure => simp [intOf]; omega
              · have HN := Lib.hid <| decP_no (p := Tame d f) fun h => ht (h.ok i k hilt hklt)
                have ht2 : at2 d i k < iat f i - iat f k := by omega
                clear ht
                go_wp2
                go_ret
                exact ⟨by rw [HN.out]; rfl, HW.out⟩
            · have HI2 := Lib.hid (all_step HI.out (fun q hq => HK.out q (by omega)))
              go_wp2
              go_roundw
              case rel => exact ⟨i + 1, by omega, by go_num, HW, HI2⟩
              case measure => simp [intOf]; omega
        · have HY := Lib.hid <| decP_yes (p := Tame d f) ⟨HO.out.sp, HV.out, fun p q hp hq => HI.out p (by omega) q hq⟩
          go_wp2
          go_ret
          exact ⟨by rw [HY.out]; rfl, HW.out⟩
    · rw [decP_no hV] at cf
      have HCF := Lib.hid <| cf
      have HN := Lib.hid <| decP_no (p := Tame d f) fun h => hV h.vals
      obtain ⟨b, cap, BB, CC, rfl, hO⟩ := hd.space hS
      clear cs cf hS hV hd hf hO
      go_enter Try.func22, Try.ntmps22
      go_wp2_with fail
      refine (HCS.out).mono ?_
      rintro e w1 ⟨rfl, hd_w1⟩
      have HW1 : Hid (Dr _ w1) := hd_w1
      clear hd_w1
      go_wp2_with fail
      refine (HCF.out _ HW1.out).mono ?_
      rintro e w2 ⟨rfl, hd_w2⟩
      have HW2 : Hid (Dr _ w2) := HW1.out.trans hd_w2
      clear hd_w2 HW1
      clear HCS HCF
      go_wp2
      go_ret
      exact ⟨by rw [HN.out]; rfl, HW2.out⟩
  · have cs := isSpace_any lo hi v d w hd
    rw [decP_no hS] at cs
    have HCS := Lib.hid <| cs
    have HN := Lib.hid <| decP_no (p := Tame d f) fun h => hS h.sp
    clear cs hS hd hf
    go_enter Try.func22, Try.ntmps22
    go_wp2_with fail
    refine (HCS.out).mono ?_
    rintro e w1 ⟨rfl, hd_w1⟩
    have HW1 : Hid (Dr _ w1) := hd_w1
    clear hd_w1
    clear HCS
    go_wp2
    go_ret
    exact ⟨by rw [HN.out]; rfl, HW1.out⟩

set_option maxHeartbeats 1000000 in
theorem specTameOk_any (lo hi lo' hi' : Nat) (v u : Value) (d : List (List Int)) (f : List Int) (w : World) (hd : MMem lo hi w v d) (hf : IMem lo' hi' w u f) :
    Calls Try.prog 23 #[v, u] w (Quiet (.bool (decP (Tame d f))) w) := by
  obtain ⟨fb, fc, rfl, _, _, _, hfm, hfm2, hc, _⟩ := hf.open
  rw [maxLen_val] at hfm2
  by_cases hS : Space d
  · have cs := specSpaceOk_any lo hi v d w hd
    rw [decP_yes hS] at cs
    have HCS := Lib.hid <| cs
    obtain ⟨b, cap, BB, CC, rfl, hO⟩ := hd.space hS
    have hsix := hS.six
    by_cases hl : f.length = d.length
    · have hl2 : ((f.length : Int) != (d.length : Int)) = false := by rw [hl]; simp
      rw [hl] at hl2 ⊢
      have HO := Lib.hid <| hO
      have HC := Lib.hid <| hc
      have HL := Lib.hid <| hl
      clear cs hS hd hf hO hc hl hfm
      go_enter Try.func23, Try.ntmps23
      go_wp2_with fail
      refine (HCS.out).mono ?_
      rintro e w1 ⟨rfl, hd_w1⟩
      have HW1 : Hid (Dr _ w1) := hd_w1
      clear hd_w1
      clear HCS
      go_wp2
      go_loopw [5] (fun iv wr => ∃ i : Nat, i ≤ d.length ∧ iv = .int .i64 i ∧ Hid (Dr w wr) ∧ Hid (∀ p, p < i → (-200 ≤ iat f p ∧ iat f p ≤ 200) ∧ ∀ q, q < d.length → IntKind.i64.wrap (iat f p - iat f q) ≤ at2 d p q)) (fun iv _ => d.length - (intOf iv).toNat)
      case atStart => exact ⟨0, Nat.zero_le _, rfl, HW1, none_yet⟩
      case round =>
        clear HW1
        obtain ⟨i, hi, rfl, HW, HI⟩ := hrel
        by_cases hilt : i < d.length
        · go_wp2
          go_loopw [6] (fun kv wr => ∃ k : Nat, k ≤ d.length ∧ kv = .int .i64 k ∧ Hid (Dr w wr) ∧ Hid (∀ q, q < k → (-200 ≤ iat f i ∧ iat f i ≤ 200) ∧ IntKind.i64.wrap (iat f i - iat f q) ≤ at2 d i q)) (fun kv _ => d.length - (intOf kv).toNat)
          case atStart => exact ⟨0, Nat.zero_le _, rfl, HW, none_yet⟩
          case round =>
            clear HW
            obtain ⟨k, hk, rfl, HW, HK⟩ := hrel
            by_cases hklt : k < d.length
            · have c1 := (HW.out.cell _).trans (HC.out i (by rw [HL.out]; exact hilt))
              have c2 := (HW.out.cell _).trans (HC.out k (by rw [HL.out]; exact hklt))
              have c3 := (HO.out.dr HW.out).top i hilt
              have c4 := (HO.out.dr HW.out).cell i k hilt hklt
              by_cases hb : -200 ≤ iat f i ∧ iat f i ≤ 200
              · have HIN : Hid (∀ m, Calls Try.prog 67 #[.int .i64 (iat f i), .int .i64 (-200), .int .i64 200] (wr.drewN m) (Quiet (.bool true) (wr.drewN m))) := fun m => l1In_yes _ _ _ _ (by omega) (by omega)
                obtain ⟨x, hx⟩ : ∃ x, IntKind.i64.wrap (iat f i - iat f k) = x := ⟨_, rfl⟩
                have HX := Lib.hid <| hx
                by_cases ht : x ≤ at2 d i k
                · have HK2 := Lib.hid (all_step HK.out ⟨hb, by rw [hx]; exact ht⟩)
                  clear hb
                  go_wp2_with fail
                  go_quiet ((go_at_call 67; exact quiet_in (HIN.out _)))
                  clear hx
                  go_wp2
                  go_roundw
                  case rel => exact ⟨k + 1, by omega, by go_num, HW.out.more _, HK2⟩
                  case measure => simp [intOf]; omega
                · have HN := Lib.hid <| decP_no (p := Tame d f) fun h => ht (by
                    have b1 := h.vals.bd hilt
                    have b2 := h.vals.bd hklt
                    have b3 := h.ok i k hilt hklt
                    rw [← hx, IntWalk.i64_in _ (by omega)]
                    exact b3)
                  have ht2 : at2 d i k < x := by omega
                  clear ht hb
                  go_wp2_with fail
                  go_quiet ((go_at_call 67; exact quiet_in (HIN.out _)))
                  clear hx
                  go_wp2
                  go_ret
                  exact ⟨by rw [HN.out]; rfl, HW.out.more _⟩
              · have HIN : Hid (∀ m, Calls Try.prog 67 #[.int .i64 (iat f i), .int .i64 (-200), .int .i64 200] (wr.drewN m) (Quiet (.bool false) (wr.drewN m))) := fun m => l1In_no _ _ _ _ hb
                have HN := Lib.hid <| decP_no (p := Tame d f) fun h => hb (h.vals.bd hilt)
                clear hb
                go_wp2_with fail
                go_quiet ((go_at_call 67; exact quiet_in (HIN.out _)))
                go_wp2
                go_ret
                exact ⟨by rw [HN.out]; rfl, HW.out.more _⟩
            · have HI2 := Lib.hid (all_step HI.out ⟨(HK.out 0 (by omega)).1, fun q hq => (HK.out q (by omega)).2⟩)
              go_wp2
              go_roundw
              case rel => exact ⟨i + 1, by omega, by go_num, HW, HI2⟩
              case measure => simp [intOf]; omega
        · have hV : Vals f d.length := ⟨by rw [HL.out], fun p hp => (HI.out p (by rw [HL.out] at hp; omega)).1⟩
          have HY := Lib.hid <| decP_yes (p := Tame d f) ⟨HO.out.sp, hV, fun p q hp hq => by
            have b1 := hV.bd hp
            have b2 := hV.bd hq
            have b3 := (HI.out p (by omega)).2 q hq
            rw [IntWalk.i64_in _ (by omega)] at b3
            exact b3⟩
          clear hV
          go_wp2
          go_ret
          exact ⟨by rw [HY.out]; rfl, HW.out⟩
    · have hl2 : ((f.length : Int) != (d.length : Int)) = true := by simpa using fun e => hl (by omega)
      have HN := Lib.hid <| decP_no (p := Tame d f) fun h => hl h.vals.len
      clear cs hS hd hf hO hc hl
      go_enter Try.func23, Try.ntmps23
      go_wp2_with fail
      refine (HCS.out).mono ?_
      rintro e w1 ⟨rfl, hd_w1⟩
      have HW1 : Hid (Dr _ w1) := hd_w1
      clear hd_w1
      clear HCS
      go_wp2
      go_ret
      exact ⟨by rw [HN.out]; rfl, HW1.out⟩
  · have cs := specSpaceOk_any lo hi v d w hd
    rw [decP_no hS] at cs
    have HCS := Lib.hid <| cs
    have HN := Lib.hid <| decP_no (p := Tame d f) fun h => hS h.sp
    clear cs hS hd hf hc
    go_enter Try.func23, Try.ntmps23
    go_wp2_with fail
    refine (HCS.out).mono ?_
    rintro e w1 ⟨rfl, hd_w1⟩
    have HW1 : Hid (Dr _ w1) := hd_w1
    clear hd_w1
    clear HCS
    go_wp2
    go_ret
    exact ⟨by rw [HN.out]; rfl, HW1.out⟩

end Go.Proofs.Ytapllhnlngnobaa
