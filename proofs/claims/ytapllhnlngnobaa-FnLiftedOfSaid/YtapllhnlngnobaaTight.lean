/- What impl.TightOk and spec.TightOk return. Conditions: as each theorem says. -/
import Derived.Test.YtapllhnlngnobaaCovers
namespace Go.Proofs.Ytapllhnlngnobaa
set_option linter.unusedVariables false
set_option linter.unusedSimpArgs false
open Go.RowKit Go.Deep

/-- A point has a partner. -/
def Part (d : List (List Int)) (f : List Int) (i : Nat) : Prop := ∃ q, q < d.length ∧ iat f i + iat f q = at2 d i q
/-- t tells whether one of the first k points is a partner of i. -/
def TIf (t : Bool) (d : List (List Int)) (f : List Int) (i k : Nat) : Prop := t = true ↔ ∃ q, q < k ∧ iat f i + iat f q = at2 d i q
structure TightP (d : List (List Int)) (f : List Int) : Prop where
  cov : Cov d f
  part : ∀ i, i < d.length → Part d f i

set_option maxHeartbeats 1000000 in
theorem implTightOk_any (lo hi lo' hi' : Nat) (v u : Value) (d : List (List Int)) (f : List Int) (w : World) (hd : MMem lo hi w v d) (hf : IMem lo' hi' w u f) :
    Calls Try.prog 41 #[v, u] w (Quiet (.bool (decP (TightP d f))) w) := by
  have cs := covers_any lo hi lo' hi' v u d f w hd hf
  by_cases hC : Cov d f
  · rw [decP_yes hC] at cs
    obtain ⟨b, cap, BB, CC, rfl, hO⟩ := hd.space hC.sp
    obtain ⟨fb, fc, rfl, _, _, _, _, _, hc, _⟩ := hf.open
    have hl := hC.vals.len
    have hsix := hC.sp.six
    rw [hl] at cs ⊢
    have HCS := Lib.hid <| cs
    have HO := Lib.hid <| hO
    have HC := Lib.hid <| hc
    have HL := Lib.hid <| hl
    have HV := Lib.hid <| hC
    clear cs hC hd hf hO hc hl
    go_enter Try.func41, Try.ntmps41
    go_wp2_with fail
    refine (HCS.out).mono ?_
    rintro e w1 ⟨rfl, hd_w1⟩
    have HW1 : Hid (Dr _ w1) := hd_w1
    clear hd_w1
    clear HCS
    go_wp2
    go_loopw [16] (fun iv wr => ∃ i : Nat, i ≤ d.length ∧ iv = .int .i64 i ∧ Hid (Dr w wr) ∧ Hid (∀ p, p < i → Part d f p)) (fun iv _ => d.length - (intOf iv).toNat)
    case atStart => exact ⟨0, Nat.zero_le _, rfl, HW1, none_yet⟩
    case round =>
      clear HW1
      obtain ⟨i, hi, rfl, HW, HI⟩ := hrel
      by_cases hilt : i < d.length
      · have c1 := (HW.out.cell _).trans (HC.out i (by rw [HL.out]; exact hilt))
        have bi := HV.out.vals.bd hilt
        go_wp2
        clear c1
        go_loopw [7, 23] (fun tv kv wr => ∃ (k : Nat) (t : Bool), k ≤ d.length ∧ kv = .int .i64 k ∧ tv = .bool t ∧ Hid (Dr w wr) ∧ TIf t d f i k) (fun _ kv _ => d.length - (intOf kv).toNat)
        case atStart => exact ⟨0, false, Nat.zero_le _, rfl, rfl, HW, by unfold TIf; simp⟩
        case round =>
          clear HW
          obtain ⟨k, t, hk, rfl, rfl, HW, HK⟩ := hrel
          by_cases hklt : k < d.length
          · have c1 := (HW.out.cell _).trans (HC.out i (by rw [HL.out]; exact hilt))
            have c2 := (HW.out.cell _).trans (HC.out k (by rw [HL.out]; exact hklt))
            have bk := HV.out.vals.bd hklt
            have c3 := (HO.out.dr HW.out).top i hilt
            have c4 := (HO.out.dr HW.out).cell i k hilt hklt
            cases t with
            | true =>
              have HK2 : TIf true d f i (k + 1) := ⟨fun _ => by
                obtain ⟨q, hq, e⟩ := HK.1 rfl
                exact ⟨q, by omega, e⟩, fun _ => rfl⟩
              skip
              skip
              go_wp2
              go_roundw
              case rel => exact ⟨k + 1, true, by omega, by go_num, rfl, HW.out, HK2⟩
              case measure => simp [intOf]; omega
            | false =>
              have hno : ¬ ∃ q, q < k ∧ iat f i + iat f q = at2 d i q := fun h => by have := HK.2 h; cases this
              have e1 : IntKind.i64.wrap (iat f i + iat f k) = iat f i + iat f k := IntWalk.i64_in _ (by omega)
              by_cases he : iat f i + iat f k = at2 d i k
              · have heb : (iat f i + iat f k == at2 d i k) = true := by simpa using he
                have HK2 : TIf true d f i (k + 1) := ⟨fun _ => ⟨k, by omega, he⟩, fun _ => rfl⟩
                clear he hno HK
                clear e1
                skip
                skip
                go_wp2
                go_roundw
                case rel => exact ⟨k + 1, true, by omega, by go_num, rfl, HW.out, HK2⟩
                case measure => simp [intOf]; omega
              · have heb : (iat f i + iat f k == at2 d i k) = false := by simpa using he
                have HK2 : TIf false d f i (k + 1) := ⟨fun h => (by cases h), fun ⟨q, hq, e⟩ => by
                  by_cases eq : q = k
                  · subst eq; exact absurd e he
                  · exact absurd ⟨q, by omega, e⟩ hno⟩
                clear he hno HK
                clear e1
                skip
                skip
                go_wp2
                go_roundw
                case rel => exact ⟨k + 1, false, by omega, by go_num, rfl, HW.out, HK2⟩
                case measure => simp [intOf]; omega
          · have hke : k = d.length := by omega
            cases t with
            | true =>
              have HI2 := Lib.hid (all_step HI.out (show Part d f i from by
                obtain ⟨q, hq, e⟩ := HK.1 rfl
                exact ⟨q, by omega, e⟩))
              clear HK
              go_wp2
              go_roundw
              case rel => exact ⟨i + 1, by omega, by go_num, HW, HI2⟩
              case measure => simp [intOf]; omega
            | false =>
              have HN := Lib.hid <| decP_no (p := TightP d f) fun h => by
                obtain ⟨q, hq, e⟩ := h.part i hilt
                have := HK.2 ⟨q, by omega, e⟩
                cases this
              clear HK
              go_wp2
              go_ret
              exact ⟨by rw [HN.out]; rfl, HW.out⟩
      · have HY := Lib.hid <| decP_yes (p := TightP d f) ⟨HV.out, fun p hp => HI.out p (by omega)⟩
        go_wp2
        go_ret
        exact ⟨by rw [HY.out]; rfl, HW.out⟩
  · rw [decP_no hC] at cs
    have HN := Lib.hid <| decP_no (p := TightP d f) fun h => hC h.cov
    obtain ⟨b, cap, _, _, rfl, _⟩ := hd.open
    obtain ⟨fb, fc, rfl, _⟩ := hf.open
    have HCS := Lib.hid <| cs
    clear cs hC hd hf
    go_enter Try.func41, Try.ntmps41
    go_wp2_with fail
    refine (HCS.out).mono ?_
    rintro e w1 ⟨rfl, hd_w1⟩
    have HW1 : Hid (Dr _ w1) := hd_w1
    clear hd_w1
    clear HCS
    go_wp2
    go_ret
    exact ⟨by rw [HN.out]; rfl, HW1.out⟩

set_option maxHeartbeats 1000000 in
theorem specTightOk_any (lo hi lo' hi' : Nat) (v u : Value) (d : List (List Int)) (f : List Int) (w : World) (hd : MMem lo hi w v d) (hf : IMem lo' hi' w u f) :
    Calls Try.prog 49 #[v, u] w (Quiet (.bool (decP (TightP d f))) w) := by
  have cs := specCoversOk_any lo hi lo' hi' v u d f w hd hf
  by_cases hC : Cov d f
  · rw [decP_yes hC] at cs
    obtain ⟨b, cap, BB, CC, rfl, hO⟩ := hd.space hC.sp
    obtain ⟨fb, fc, rfl, _, _, _, _, _, hc, _⟩ := hf.open
    have hl := hC.vals.len
    have hsix := hC.sp.six
    rw [hl] at cs ⊢
    have HCS := Lib.hid <| cs
    have HO := Lib.hid <| hO
    have HC := Lib.hid <| hc
    have HL := Lib.hid <| hl
    have HV := Lib.hid <| hC
    clear cs hC hd hf hO hc hl
    go_enter Try.func49, Try.ntmps49
    go_wp2_with fail
    refine (HCS.out).mono ?_
    rintro e w1 ⟨rfl, hd_w1⟩
    have HW1 : Hid (Dr _ w1) := hd_w1
    clear hd_w1
    clear HCS
    go_wp2
    go_loopw [5] (fun iv wr => ∃ i : Nat, i ≤ d.length ∧ iv = .int .i64 i ∧ Hid (Dr w wr) ∧ Hid (∀ p, p < i → Part d f p)) (fun iv _ => d.length - (intOf iv).toNat)
    case atStart => exact ⟨0, Nat.zero_le _, rfl, HW1, none_yet⟩
    case round =>
      clear HW1
      obtain ⟨i, hi, rfl, HW, HI⟩ := hrel
      by_cases hilt : i < d.length
      · have c1 := (HW.out.cell _).trans (HC.out i (by rw [HL.out]; exact hilt))
        have bi := HV.out.vals.bd hilt
        go_wp2
        clear c1
        go_loopw [6, 7] (fun tv kv wr => ∃ (k : Nat) (t : Bool), k ≤ d.length ∧ kv = .int .i64 k ∧ tv = .bool t ∧ Hid (Dr w wr) ∧ TIf t d f i k) (fun _ kv _ => d.length - (intOf kv).toNat)
        case atStart => exact ⟨0, false, Nat.zero_le _, rfl, rfl, HW, by unfold TIf; simp⟩
        case round =>
          clear HW
          obtain ⟨k, t, hk, rfl, rfl, HW, HK⟩ := hrel
          by_cases hklt : k < d.length
          · have c1 := (HW.out.cell _).trans (HC.out i (by rw [HL.out]; exact hilt))
            have c2 := (HW.out.cell _).trans (HC.out k (by rw [HL.out]; exact hklt))
            have bk := HV.out.vals.bd hklt
            have c3 := (HO.out.dr HW.out).top i hilt
            have c4 := (HO.out.dr HW.out).cell i k hilt hklt
            cases t with
            | true =>
              have HK2 : TIf true d f i (k + 1) := ⟨fun _ => by
                obtain ⟨q, hq, e⟩ := HK.1 rfl
                exact ⟨q, by omega, e⟩, fun _ => rfl⟩
              go_wp2_with fail
              go_quiet (fail)
              go_wp2
              go_roundw
              case rel => exact ⟨k + 1, true, by omega, by go_num, rfl, HW.out.more _, HK2⟩
              case measure => simp [intOf]; omega
            | false =>
              have hno : ¬ ∃ q, q < k ∧ iat f i + iat f q = at2 d i q := fun h => by have := HK.2 h; cases this
              have e1 : IntKind.i64.wrap (iat f i + iat f k) = iat f i + iat f k := IntWalk.i64_in _ (by omega)
              by_cases he : iat f i + iat f k = at2 d i k
              · have heb : (iat f i + iat f k == at2 d i k) = true := by simpa using he
                have HK2 : TIf true d f i (k + 1) := ⟨fun _ => ⟨k, by omega, he⟩, fun _ => rfl⟩
                clear he hno HK
                go_wp2_with fail
                go_quiet (fail)
                clear e1
                go_wp2
                go_roundw
                case rel => exact ⟨k + 1, true, by omega, by go_num, rfl, HW.out.more _, HK2⟩
                case measure => simp [intOf]; omega
              · have heb : (iat f i + iat f k == at2 d i k) = false := by simpa using he
                have HK2 : TIf false d f i (k + 1) := ⟨fun h => (by cases h), fun ⟨q, hq, e⟩ => by
                  by_cases eq : q = k
                  · subst eq; exact absurd e he
                  · exact absurd ⟨q, by omega, e⟩ hno⟩
                clear he hno HK
                go_wp2_with fail
                go_quiet (fail)
                clear e1
                go_wp2
                go_roundw
                case rel => exact ⟨k + 1, false, by omega, by go_num, rfl, HW.out.more _, HK2⟩
                case measure => simp [intOf]; omega
          · have hke : k = d.length := by omega
            cases t with
            | true =>
              have HI2 := Lib.hid (all_step HI.out (show Part d f i from by
                obtain ⟨q, hq, e⟩ := HK.1 rfl
                exact ⟨q, by omega, e⟩))
              clear HK
              go_wp2
              go_roundw
              case rel => exact ⟨i + 1, by omega, by go_num, HW, HI2⟩
              case measure => simp [intOf]; omega
            | false =>
              have HN := Lib.hid <| decP_no (p := TightP d f) fun h => by
                obtain ⟨q, hq, e⟩ := h.part i hilt
                have := HK.2 ⟨q, by omega, e⟩
                cases this
              clear HK
              go_wp2
              go_ret
              exact ⟨by rw [HN.out]; rfl, HW.out⟩
      · have HY := Lib.hid <| decP_yes (p := TightP d f) ⟨HV.out, fun p hp => HI.out p (by omega)⟩
        go_wp2
        go_ret
        exact ⟨by rw [HY.out]; rfl, HW.out⟩
  · rw [decP_no hC] at cs
    have HN := Lib.hid <| decP_no (p := TightP d f) fun h => hC h.cov
    obtain ⟨b, cap, _, _, rfl, _⟩ := hd.open
    obtain ⟨fb, fc, rfl, _⟩ := hf.open
    have HCS := Lib.hid <| cs
    clear cs hC hd hf
    go_enter Try.func49, Try.ntmps49
    go_wp2_with fail
    refine (HCS.out).mono ?_
    rintro e w1 ⟨rfl, hd_w1⟩
    have HW1 : Hid (Dr _ w1) := hd_w1
    clear hd_w1
    clear HCS
    go_wp2
    go_ret
    exact ⟨by rw [HN.out]; rfl, HW1.out⟩

end Go.Proofs.Ytapllhnlngnobaa
