/- What impl.areKnown, impl.KnownOk and spec.KnownOk return. Conditions: as each theorem says. -/
import Derived.Test.YtapllhnlngnobaaTame
namespace Go.Proofs.Ytapllhnlngnobaa
set_option linter.unusedVariables false
set_option linter.unusedSimpArgs false
open Go.RowKit Go.Deep

/-- One point: known with a value, or not known and 0. -/
def KnAt (kn f : List Int) (i : Nat) : Prop := (iat kn i = 1 ∧ -100 ≤ iat f i ∧ iat f i ≤ 100) ∨ (iat kn i = 0 ∧ iat f i = 0)
def KnPair (d : List (List Int)) (kn f : List Int) (i k : Nat) : Prop := iat kn i = 1 → iat kn k = 1 → iat f i - iat f k ≤ at2 d i k
structure Known (d : List (List Int)) (kn f : List Int) : Prop where
  sp : Space d
  kl : kn.length = d.length
  fl : f.length = d.length
  each : ∀ i, i < d.length → KnAt kn f i
  some : ∃ i, i < d.length ∧ iat kn i = 1
  tame : ∀ i k, i < d.length → k < d.length → KnPair d kn f i k
/-- t tells whether one of the first k is known. -/
def SomeTo (t : Bool) (kn : List Int) (k : Nat) : Prop := t = true ↔ ∃ q, q < k ∧ iat kn q = 1
theorem SomeTo.yes {kn : List Int} {k : Nat} (h : iat kn k = 1) : SomeTo true kn (k + 1) := ⟨fun _ => ⟨k, by omega, h⟩, fun _ => rfl⟩
theorem SomeTo.no {t : Bool} {kn : List Int} {k : Nat} (hs : SomeTo t kn k) (h : iat kn k = 0) : SomeTo t kn (k + 1) :=
  ⟨fun ht => by
    obtain ⟨q, hq, e⟩ := hs.1 ht
    exact ⟨q, by omega, e⟩, fun ⟨q, hq, e⟩ => by
    by_cases hqk : q = k
    · subst hqk; omega
    · exact hs.2 ⟨q, by omega, e⟩⟩
/-- How many of the first k are known. -/
def cntK (kn : List Int) : Nat → Int
  | 0 => 0
  | k + 1 => cntK kn k + iat kn k
theorem cntK_bd {kn : List Int} {k : Nat} (h : ∀ i, i < k → 0 ≤ iat kn i ∧ iat kn i ≤ 1) : 0 ≤ cntK kn k ∧ cntK kn k ≤ k := by
  induction k with
  | zero => simp [cntK]
  | succ k ih =>
    have h1 := ih (fun i hi => h i (by omega))
    have h2 := h k (by omega)
    simp only [cntK]; omega
theorem cntK_pos {kn : List Int} {k : Nat} (h : ∀ i, i < k → 0 ≤ iat kn i ∧ iat kn i ≤ 1) : 0 < cntK kn k ↔ ∃ q, q < k ∧ iat kn q = 1 := by
  induction k with
  | zero => simp [cntK]
  | succ k ih =>
    have h1 := cntK_bd (fun i (hi : i < k) => h i (by omega))
    have h2 := h k (by omega)
    have h3 := ih (fun i hi => h i (by omega))
    simp only [cntK]
    constructor
    · intro hp
      by_cases e : iat kn k = 1
      · exact ⟨k, by omega, e⟩
      · obtain ⟨q, hq, e⟩ := h3.1 (by omega)
        exact ⟨q, by omega, e⟩
    · rintro ⟨q, hq, e⟩
      by_cases hqk : q = k
      · subst hqk; omega
      · have := h3.2 ⟨q, by omega, e⟩; omega

set_option maxHeartbeats 2000000 in
theorem areKnown_any (lo hi lo' hi' lo'' hi'' : Nat) (v u x : Value) (d : List (List Int)) (kn f : List Int) (w : World) (hd : MMem lo hi w v d) (hk : IMem lo' hi' w u kn) (hf : IMem lo'' hi'' w x f) :
    Calls Try.prog 75 #[v, u, x] w (Quiet (.bool (decP (Known d kn f))) w) := by
  obtain ⟨kb, kc, rfl, _, _, _, hkm, hkm2, hkc, _⟩ := hk.open
  obtain ⟨fb, fc, rfl, _, _, _, hfm, hfm2, hfc, _⟩ := hf.open
  rw [maxLen_val] at hkm2 hfm2
  by_cases hS : Space d
  · have cs := isSpace_any lo hi v d w hd
    rw [decP_yes hS] at cs
    have HCS := Lib.hid <| cs
    obtain ⟨b, cap, BB, CC, rfl, hO⟩ := hd.space hS
    have hsix := hS.six
    by_cases hkl : kn.length = d.length
    · have hkl2 : ((kn.length : Int) != (d.length : Int)) = false := by rw [hkl]; simp
      by_cases hfl : f.length = d.length
      · have hfl2 : ((f.length : Int) != (d.length : Int)) = false := by rw [hfl]; simp
        rw [hkl] at hkl2
        rw [hfl] at hfl2
        rw [hkl, hfl]
        have HO := Lib.hid <| hO
        have HK := Lib.hid <| hkc
        have HF := Lib.hid <| hfc
        have HKL := Lib.hid <| hkl
        have HFL := Lib.hid <| hfl
        clear cs hS hd hk hf hO hkc hfc hkl hfl hkm hfm
        go_enter Try.func75, Try.ntmps75
        go_wp2_with fail
        refine (HCS.out).mono ?_
        rintro e w1 ⟨rfl, hd_w1⟩
        have HW1 : Hid (Dr _ w1) := hd_w1
        clear hd_w1
        clear HCS
        go_wp2
        go_loopw [7, 33] (fun tv iv wr => ∃ (i : Nat) (t : Bool), i ≤ d.length ∧ iv = .int .i64 i ∧ tv = .bool t ∧ Hid (Dr w wr) ∧ SomeTo t kn i ∧ Hid (∀ p, p < i → KnAt kn f p)) (fun _ iv _ => d.length - (intOf iv).toNat)
        case atStart => exact ⟨0, false, Nat.zero_le _, rfl, rfl, HW1, by unfold SomeTo; simp, none_yet⟩
        case round =>
          clear HW1
          obtain ⟨i, t, hi, rfl, rfl, HW, HT, HI⟩ := hrel
          by_cases hilt : i < d.length
          · have c1 := (HW.out.cell _).trans (HK.out i (by rw [HKL.out]; exact hilt))
            have c2 := (HW.out.cell _).trans (HF.out i (by rw [HFL.out]; exact hilt))
            by_cases h1 : iat kn i = 1
            · have hb1 : (iat kn i == 1) = true := by simpa using h1
              have hb0 : (iat kn i == 0) = false := by rw [h1]; rfl
              by_cases hy : -100 ≤ iat f i ∧ iat f i ≤ 100
              · have HI2 := Lib.hid (all_step HI.out (.inl ⟨h1, hy.1, hy.2⟩))
                have HT2 := SomeTo.yes h1
                obtain ⟨hy1, hy2⟩ := hy
                clear h1 HT
                go_wp2
                go_roundw
                case rel => exact ⟨i + 1, true, by omega, by go_num, rfl, HW, HT2, HI2⟩
                case measure => simp [intOf]; omega
              · have HN := Lib.hid <| decP_no (p := Known d kn f) fun h => by
                  rcases h.each i hilt with ⟨_, e⟩ | ⟨e, _⟩
                  · exact hy e
                  · omega
                by_cases hy1 : -100 ≤ iat f i
                · have hy2 : 100 < iat f i := by omega
                  clear h1 hy
                  go_wp2
                  go_ret
                  exact ⟨by rw [HN.out]; rfl, HW.out⟩
                · clear h1 hy
                  go_wp2
                  go_ret
                  exact ⟨by rw [HN.out]; rfl, HW.out⟩
            · have hb1 : (iat kn i == 1) = false := by simpa using h1
              by_cases h0 : iat kn i = 0
              · have hb0 : (iat kn i == 0) = true := by simpa using h0
                by_cases hy : iat f i = 0
                · have hyb : (iat f i == 0) = true := by simpa using hy
                  have HI2 := Lib.hid (all_step HI.out (.inr ⟨h0, hy⟩))
                  have HT2 := HT.no h0
                  clear h1 h0 hy HT
                  go_wp2
                  go_roundw
                  case rel => exact ⟨i + 1, t, by omega, by go_num, rfl, HW, HT2, HI2⟩
                  case measure => simp [intOf]; omega
                · have hyb : (iat f i == 0) = false := by simpa using hy
                  have HN := Lib.hid <| decP_no (p := Known d kn f) fun h => by
                    rcases h.each i hilt with ⟨e, _⟩ | ⟨_, e⟩
                    · exact h1 e
                    · exact hy e
                  clear h1 h0 hy
                  go_wp2
                  go_ret
                  exact ⟨by rw [HN.out]; rfl, HW.out⟩
              · have hb0 : (iat kn i == 0) = false := by simpa using h0
                have HN := Lib.hid <| decP_no (p := Known d kn f) fun h => by
                  rcases h.each i hilt with ⟨e, _⟩ | ⟨e, _⟩
                  · exact h1 e
                  · exact h0 e
                clear h1 h0
                go_wp2
                go_ret
                exact ⟨by rw [HN.out]; rfl, HW.out⟩
          · have HE : Hid (∀ p, p < d.length → KnAt kn f p) := fun p hp => HI.out p (by omega)
            have HSo : Hid (SomeTo t kn d.length) := by
              have e : i = d.length := by omega
              rw [← e]; exact HT
            clear HI HT
            go_wp2
            go_loopw [68] (fun iv wr => ∃ i : Nat, i ≤ d.length ∧ iv = .int .i64 i ∧ Hid (Dr w wr) ∧ Hid (∀ p, p < i → ∀ q, q < d.length → KnPair d kn f p q)) (fun iv _ => d.length - (intOf iv).toNat)
            case atStart => exact ⟨0, Nat.zero_le _, rfl, HW, none_yet⟩
            case round =>
              clear HW
              obtain ⟨i, hi, rfl, HW, HI⟩ := hrel
              by_cases hilt : i < d.length
              · have c2 := (HW.out.cell _).trans (HF.out i (by rw [HFL.out]; exact hilt))
                go_wp2
                clear c2
                go_loopw [75] (fun kv wr => ∃ k : Nat, k ≤ d.length ∧ kv = .int .i64 k ∧ Hid (Dr w wr) ∧ Hid (∀ q, q < k → KnPair d kn f i q)) (fun kv _ => d.length - (intOf kv).toNat)
                case atStart => exact ⟨0, Nat.zero_le _, rfl, HW, none_yet⟩
                case round =>
                  clear HW
                  obtain ⟨k, hk, rfl, HW, HKP⟩ := hrel
                  by_cases hklt : k < d.length
                  · have c1 := (HW.out.cell _).trans (HK.out i (by rw [HKL.out]; exact hilt))
                    have c2 := (HW.out.cell _).trans (HK.out k (by rw [HKL.out]; exact hklt))
                    have c5 := (HW.out.cell _).trans (HF.out k (by rw [HFL.out]; exact hklt))
                    have c3 := (HO.out.dr HW.out).top i hilt
                    have c4 := (HO.out.dr HW.out).cell i k hilt hklt
                    by_cases h1 : iat kn i = 1
                    · have hb1 : (iat kn i == 1) = true := by simpa using h1
                      by_cases h2 : iat kn k = 1
                      · have hb2 : (iat kn k == 1) = true := by simpa using h2
                        have b1 : -100 ≤ iat f i ∧ iat f i ≤ 100 := by
                          rcases HE.out i hilt with ⟨_, e⟩ | ⟨e, _⟩
                          · exact e
                          · omega
                        have b2 : -100 ≤ iat f k ∧ iat f k ≤ 100 := by
                          rcases HE.out k hklt with ⟨_, e⟩ | ⟨e, _⟩
                          · exact e
                          · omega
                        by_cases ht : iat f i - iat f k ≤ at2 d i k
                        · have HK2 := Lib.hid (all_step HKP.out (fun _ _ => ht))
                          clear h1 h2
                          go_wp2
                          go_roundw
                          case rel => exact ⟨k + 1, by omega, by go_num, HW, HK2⟩
                          case measure => simp [intOf]; omega
                        · have ht2 : at2 d i k < iat f i - iat f k := by omega
                          have HN := Lib.hid <| decP_no (p := Known d kn f) fun h => ht (h.tame i k hilt hklt h1 h2)
                          clear h1 h2 ht
                          go_wp2
                          go_ret
                          exact ⟨by rw [HN.out]; rfl, HW.out⟩
                      · have hb2 : (iat kn k == 1) = false := by simpa using h2
                        have HK2 := Lib.hid (all_step HKP.out (fun _ e => absurd e h2))
                        clear h1 h2
                        go_wp2
                        go_roundw
                        case rel => exact ⟨k + 1, by omega, by go_num, HW, HK2⟩
                        case measure => simp [intOf]; omega
                    · have hb1 : (iat kn i == 1) = false := by simpa using h1
                      have HK2 := Lib.hid (all_step HKP.out (fun e _ => absurd e h1))
                      clear h1
                      go_wp2
                      go_roundw
                      case rel => exact ⟨k + 1, by omega, by go_num, HW, HK2⟩
                      case measure => simp [intOf]; omega
                  · have HI2 := Lib.hid (all_step HI.out (fun q hq => HKP.out q (by omega)))
                    go_wp2
                    go_roundw
                    case rel => exact ⟨i + 1, by omega, by go_num, HW, HI2⟩
                    case measure => simp [intOf]; omega
              · cases t with
                | true =>
                  have HY := Lib.hid <| decP_yes (p := Known d kn f) ⟨HO.out.sp, HKL.out, HFL.out, HE.out, HSo.out.1 rfl, fun p q hp hq => HI.out p (by omega) q hq⟩
                  go_wp2
                  go_ret
                  exact ⟨by rw [HY.out]; rfl, HW.out⟩
                | false =>
                  have HY := Lib.hid <| decP_no (p := Known d kn f) fun h => by
                    have := HSo.out.2 h.some
                    cases this
                  go_wp2
                  go_ret
                  exact ⟨by rw [HY.out]; rfl, HW.out⟩
      · have hfl2 : ((f.length : Int) != (d.length : Int)) = true := by simpa using fun e => hfl (by omega)
        have HN := Lib.hid <| decP_no (p := Known d kn f) fun h => hfl h.fl
        clear cs hS hd hk hf hO hkc hfc hkl hfl
        go_enter Try.func75, Try.ntmps75
        go_wp2_with fail
        refine (HCS.out).mono ?_
        rintro e w1 ⟨rfl, hd_w1⟩
        have HW1 : Hid (Dr _ w1) := hd_w1
        clear hd_w1
        clear HCS
        go_wp2
        go_ret
        exact ⟨by rw [HN.out]; rfl, HW1.out⟩
    · have hkl2 : ((kn.length : Int) != (d.length : Int)) = true := by simpa using fun e => hkl (by omega)
      have HN := Lib.hid <| decP_no (p := Known d kn f) fun h => hkl h.kl
      clear cs hS hd hk hf hO hkc hfc hkl
      go_enter Try.func75, Try.ntmps75
      go_wp2_with fail
      refine (HCS.out).mono ?_
      rintro e w1 ⟨rfl, hd_w1⟩
      have HW1 : Hid (Dr _ w1) := hd_w1
      clear hd_w1
      clear HCS
      go_wp2
      go_ret
      exact ⟨by rw [HN.out]; rfl, HW1.out⟩
  · have cs := isSpace_any lo hi v d w hd
    rw [decP_no hS] at cs
    have HCS := Lib.hid <| cs
    have HN := Lib.hid <| decP_no (p := Known d kn f) fun h => hS h.sp
    clear cs hS hd hk hf hkc hfc
    go_enter Try.func75, Try.ntmps75
    go_wp2_with fail
    refine (HCS.out).mono ?_
    rintro e w1 ⟨rfl, hd_w1⟩
    have HW1 : Hid (Dr _ w1) := hd_w1
    clear hd_w1
    clear HCS
    go_wp2
    go_ret
    exact ⟨by rw [HN.out]; rfl, HW1.out⟩

set_option maxHeartbeats 400000 in
theorem implKnownOk_any (lo hi lo' hi' lo'' hi'' : Nat) (v u x : Value) (d : List (List Int)) (kn f : List Int) (w : World) (hd : MMem lo hi w v d) (hk : IMem lo' hi' w u kn) (hf : IMem lo'' hi'' w x f) :
    Calls Try.prog 35 #[v, u, x] w (Quiet (.bool (decP (Known d kn f))) w) := by
  have HC := Lib.hid <| areKnown_any lo hi lo' hi' lo'' hi'' v u x d kn f w hd hk hf
  obtain ⟨b, cap, _, _, rfl, _⟩ := hd.open
  obtain ⟨kb, kc, rfl, _⟩ := hk.open
  obtain ⟨fb, fc, rfl, _⟩ := hf.open
  clear hd hk hf
  go_enter Try.func35, Try.ntmps35
  go_wp2_with fail
  refine (HC.out).mono ?_
  rintro e w1 ⟨rfl, hd_w1⟩
  have HW1 : Hid (Dr _ w1) := hd_w1
  clear hd_w1
  clear HC
  go_wp2
  go_ret
  exact ⟨rfl, HW1.out⟩

set_option maxHeartbeats 2000000 in
theorem specKnownOk_any (lo hi lo' hi' lo'' hi'' : Nat) (v u x : Value) (d : List (List Int)) (kn f : List Int) (w : World) (hd : MMem lo hi w v d) (hk : IMem lo' hi' w u kn) (hf : IMem lo'' hi'' w x f) :
    Calls Try.prog 36 #[v, u, x] w (Quiet (.bool (decP (Known d kn f))) w) := by
  obtain ⟨kb, kc, rfl, _, _, _, hkm, hkm2, hkc, _⟩ := hk.open
  obtain ⟨fb, fc, rfl, _, _, _, hfm, hfm2, hfc, _⟩ := hf.open
  rw [maxLen_val] at hkm2 hfm2
  by_cases hS : Space d
  · have cs := specSpaceOk_any lo hi v d w hd
    rw [decP_yes hS] at cs
    have HCS := Lib.hid <| cs
    obtain ⟨b, cap, BB, CC, rfl, hO⟩ := hd.space hS
    have hsix := hS.six
    by_cases hkl : kn.length = d.length
    · have hkl2 : ((kn.length : Int) != (d.length : Int)) = false := by rw [hkl]; simp
      by_cases hfl : f.length = d.length
      · have hfl2 : ((f.length : Int) != (d.length : Int)) = false := by rw [hfl]; simp
        rw [hkl] at hkl2
        rw [hfl] at hfl2
        rw [hkl, hfl]
        have HO := Lib.hid <| hO
        have HK := Lib.hid <| hkc
        have HF := Lib.hid <| hfc
        have HKL := Lib.hid <| hkl
        have HFL := Lib.hid <| hfl
        clear cs hS hd hk hf hO hkc hfc hkl hfl hkm hfm
        go_enter Try.func36, Try.ntmps36
        go_wp2_with fail
        refine (HCS.out).mono ?_
        rintro e w1 ⟨rfl, hd_w1⟩
        have HW1 : Hid (Dr _ w1) := hd_w1
        clear hd_w1
        clear HCS
        go_wp2
        go_loopw [7, 8] (fun tv iv wr => ∃ i : Nat, i ≤ d.length ∧ iv = .int .i64 i ∧ tv = .int .i64 (cntK kn i) ∧ 0 ≤ cntK kn i ∧ cntK kn i ≤ 6 ∧ Hid (Dr w wr) ∧ Hid (∀ p, p < i → KnAt kn f p)) (fun _ iv _ => d.length - (intOf iv).toNat)
        case atStart => exact ⟨0, Nat.zero_le _, rfl, rfl, by simp [cntK], by simp [cntK], HW1, none_yet⟩
        case round =>
          clear HW1
          obtain ⟨i, hi, rfl, rfl, n1, n2, HW, HI⟩ := hrel
          by_cases hilt : i < d.length
          · have c1 := (HW.out.cell _).trans (HK.out i (by rw [HKL.out]; exact hilt))
            have c2 := (HW.out.cell _).trans (HF.out i (by rw [HFL.out]; exact hilt))
            by_cases hin : 0 ≤ iat kn i ∧ iat kn i ≤ 1
            · go_wp2_with fail
              refine (l1In_yes _ _ _ _ hin.1 hin.2).mono ?_
              rintro e w2 ⟨rfl, hd_w2⟩
              have HW2 : Hid (Dr _ w2) := HW.out.trans hd_w2
              clear hd_w2 HW
              have c1 := (HW2.out.cell _).trans (HK.out i (by rw [HKL.out]; exact hilt))
              have c2 := (HW2.out.cell _).trans (HF.out i (by rw [HFL.out]; exact hilt))
              by_cases hy : -100 ≤ iat f i ∧ iat f i ≤ 100
              · obtain ⟨hy1, hy2⟩ := hy
                go_wp2_with fail
                refine (l1In_yes _ _ _ _ hy1 hy2).mono ?_
                rintro e w3 ⟨rfl, hd_w3⟩
                have HW3 : Hid (Dr _ w3) := HW2.out.trans hd_w3
                clear hd_w3 HW2
                have c1 := (HW3.out.cell _).trans (HK.out i (by rw [HKL.out]; exact hilt))
                have c2 := (HW3.out.cell _).trans (HF.out i (by rw [HFL.out]; exact hilt))
                by_cases h0 : iat kn i = 0
                · have hb0 : (iat kn i == 0) = true := by simpa using h0
                  by_cases hz : iat f i = 0
                  · have hzb : (iat f i != 0) = false := by simpa using hz
                    have hall := all_step HI.out (.inr ⟨h0, hz⟩)
                    have hbd := cntK_bd (kn := kn) (k := i + 1) (fun p hp => by rcases hall p hp with ⟨e, _⟩ | ⟨e, _⟩ <;> omega)
                    have HI2 := Lib.hid <| hall
                    have HBD := Lib.hid <| hbd
                    obtain ⟨hin1, hin2⟩ := hin
                    clear h0 hz hall hbd
                    go_wp2
                    go_roundw
                    case rel => exact ⟨i + 1, by omega, by go_num, rfl, HBD.out.1, by have := HBD.out.2; omega, HW3, HI2⟩
                    case measure => simp [intOf]; omega
                  · have hzb : (iat f i != 0) = true := by simpa using hz
                    have HN := Lib.hid <| decP_no (p := Known d kn f) fun h => by
                      rcases h.each i hilt with ⟨e, _⟩ | ⟨_, e⟩
                      · omega
                      · exact hz e
                    clear h0 hz
                    go_wp2
                    go_ret
                    exact ⟨by rw [HN.out]; rfl, HW3.out⟩
                · have hb0 : (iat kn i == 0) = false := by simpa using h0
                  have hall := all_step HI.out (.inl ⟨(show iat kn i = 1 by omega), hy1, hy2⟩)
                  have hbd := cntK_bd (kn := kn) (k := i + 1) (fun p hp => by rcases hall p hp with ⟨e, _⟩ | ⟨e, _⟩ <;> omega)
                  have HI2 := Lib.hid <| hall
                  have HBD := Lib.hid <| hbd
                  obtain ⟨hin1, hin2⟩ := hin
                  clear h0 hall hbd
                  go_wp2
                  go_roundw
                  case rel => exact ⟨i + 1, by omega, by go_num, rfl, HBD.out.1, by have := HBD.out.2; omega, HW3, HI2⟩
                  case measure => simp [intOf]; omega
              · have HN := Lib.hid <| decP_no (p := Known d kn f) fun h => by
                  rcases h.each i hilt with ⟨_, e⟩ | ⟨_, e⟩
                  · exact hy e
                  · exact hy (by omega)
                have HB := Lib.hid <| hy
                clear hy
                go_wp2_with fail
                refine (l1In_no _ _ _ _ HB.out).mono ?_
                rintro e w3 ⟨rfl, hd_w3⟩
                have HW3 : Hid (Dr _ w3) := HW2.out.trans hd_w3
                clear hd_w3 HW2
                go_wp2
                go_ret
                exact ⟨by rw [HN.out]; rfl, HW3.out⟩
            · have HN := Lib.hid <| decP_no (p := Known d kn f) fun h => by
                rcases h.each i hilt with ⟨e, _⟩ | ⟨e, _⟩ <;> exact hin (by omega)
              have HB := Lib.hid <| hin
              clear hin
              go_wp2_with fail
              refine (l1In_no _ _ _ _ HB.out).mono ?_
              rintro e w2 ⟨rfl, hd_w2⟩
              have HW2 : Hid (Dr _ w2) := HW.out.trans hd_w2
              clear hd_w2 HW
              go_wp2
              go_ret
              exact ⟨by rw [HN.out]; rfl, HW2.out⟩
          · have HE : Hid (∀ p, p < d.length → KnAt kn f p) := fun p hp => HI.out p (by omega)
            have hie : i = d.length := by omega
            have HSo : Hid (0 < cntK kn i ↔ ∃ q, q < d.length ∧ iat kn q = 1) := by
              rw [hie]
              exact cntK_pos (fun p hp => by rcases HE.out p hp with ⟨e, _⟩ | ⟨e, _⟩ <;> omega)
            clear HI hie
            go_wp2
            generalize cntK kn i = cn at n1 n2 HSo
            go_loopw [9] (fun iv wr => ∃ i : Nat, i ≤ d.length ∧ iv = .int .i64 i ∧ Hid (Dr w wr) ∧ Hid (∀ p, p < i → ∀ q, q < d.length → KnPair d kn f p q)) (fun iv _ => d.length - (intOf iv).toNat)
            case atStart => exact ⟨0, Nat.zero_le _, rfl, HW, none_yet⟩
            case round =>
              clear HW
              obtain ⟨i, hi, rfl, HW, HI⟩ := hrel
              by_cases hilt : i < d.length
              · go_wp2
                go_loopw [10] (fun kv wr => ∃ k : Nat, k ≤ d.length ∧ kv = .int .i64 k ∧ Hid (Dr w wr) ∧ Hid (∀ q, q < k → KnPair d kn f i q)) (fun kv _ => d.length - (intOf kv).toNat)
                case atStart => exact ⟨0, Nat.zero_le _, rfl, HW, none_yet⟩
                case round =>
                  clear HW
                  obtain ⟨k, hk, rfl, HW, HKP⟩ := hrel
                  by_cases hklt : k < d.length
                  · have c1 := (HW.out.cell _).trans (HK.out i (by rw [HKL.out]; exact hilt))
                    have c2 := (HW.out.cell _).trans (HK.out k (by rw [HKL.out]; exact hklt))
                    have c5 := (HW.out.cell _).trans (HF.out k (by rw [HFL.out]; exact hklt))
                    have c6 := (HW.out.cell _).trans (HF.out i (by rw [HFL.out]; exact hilt))
                    have c3 := (HO.out.dr HW.out).top i hilt
                    have c4 := (HO.out.dr HW.out).cell i k hilt hklt
                    by_cases h1 : iat kn i = 1
                    · have hb1 : (iat kn i == 1) = true := by simpa using h1
                      by_cases h2 : iat kn k = 1
                      · have hb2 : (iat kn k == 1) = true := by simpa using h2
                        have b1 : -100 ≤ iat f i ∧ iat f i ≤ 100 := by
                          rcases HE.out i hilt with ⟨_, e⟩ | ⟨e, _⟩
                          · exact e
                          · omega
                        have b2 : -100 ≤ iat f k ∧ iat f k ≤ 100 := by
                          rcases HE.out k hklt with ⟨_, e⟩ | ⟨e, _⟩
                          · exact e
                          · omega
                        have e1 : IntKind.i64.wrap (iat f i - iat f k) = iat f i - iat f k := IntWalk.i64_in _ (by omega)
                        by_cases ht : iat f i - iat f k ≤ at2 d i k
                        · have HK2 := Lib.hid (all_step HKP.out (fun _ _ => ht))
                          clear h1 h2
                          go_wp2_with fail
                          go_quiet (fail)
                          clear e1
                          go_wp2
                          go_roundw
                          case rel => exact ⟨k + 1, by omega, by go_num, HW.out.more _, HK2⟩
                          case measure => simp [intOf]; omega
                        · have ht2 : at2 d i k < iat f i - iat f k := by omega
                          have HN := Lib.hid <| decP_no (p := Known d kn f) fun h => ht (h.tame i k hilt hklt h1 h2)
                          clear h1 h2 ht
                          go_wp2_with fail
                          go_quiet (fail)
                          clear e1
                          go_wp2
                          go_ret
                          exact ⟨by rw [HN.out]; rfl, HW.out.more _⟩
                      · have hb2 : (iat kn k == 1) = false := by simpa using h2
                        have HK2 := Lib.hid (all_step HKP.out (fun _ e => absurd e h2))
                        clear h1 h2
                        go_wp2_with fail
                        go_quiet (fail)
                        go_wp2
                        go_roundw
                        case rel => exact ⟨k + 1, by omega, by go_num, HW.out.more _, HK2⟩
                        case measure => simp [intOf]; omega
                    · have hb1 : (iat kn i == 1) = false := by simpa using h1
                      have HK2 := Lib.hid (all_step HKP.out (fun e _ => absurd e h1))
                      clear h1
                      go_wp2_with fail
                      go_quiet (fail)
                      go_wp2
                      go_roundw
                      case rel => exact ⟨k + 1, by omega, by go_num, HW.out.more _, HK2⟩
                      case measure => simp [intOf]; omega
                  · have HI2 := Lib.hid (all_step HI.out (fun q hq => HKP.out q (by omega)))
                    go_wp2
                    go_roundw
                    case rel => exact ⟨i + 1, by omega, by go_num, HW, HI2⟩
                    case measure => simp [intOf]; omega
              · by_cases hn : 0 < cn
                · have hnb : decide (0 < cn) = true := by simpa using hn
                  have HY := Lib.hid <| decP_yes (p := Known d kn f) ⟨HO.out.sp, HKL.out, HFL.out, HE.out, HSo.out.1 hn, fun p q hp hq => HI.out p (by omega) q hq⟩
                  go_wp2
                  go_ret
                  exact ⟨by rw [HY.out]; rfl, HW.out⟩
                · have hnb : decide (0 < cn) = false := by simpa using hn
                  have HY := Lib.hid <| decP_no (p := Known d kn f) fun h => hn (HSo.out.2 h.some)
                  go_wp2
                  go_ret
                  exact ⟨by rw [HY.out]; rfl, HW.out⟩
      · have hfl2 : ((f.length : Int) != (d.length : Int)) = true := by simpa using fun e => hfl (by omega)
        have HN := Lib.hid <| decP_no (p := Known d kn f) fun h => hfl h.fl
        clear cs hS hd hk hf hO hkc hfc hkl hfl
        go_enter Try.func36, Try.ntmps36
        go_wp2_with fail
        refine (HCS.out).mono ?_
        rintro e w1 ⟨rfl, hd_w1⟩
        have HW1 : Hid (Dr _ w1) := hd_w1
        clear hd_w1
        clear HCS
        go_wp2
        go_ret
        exact ⟨by rw [HN.out]; rfl, HW1.out⟩
    · have hkl2 : ((kn.length : Int) != (d.length : Int)) = true := by simpa using fun e => hkl (by omega)
      have HN := Lib.hid <| decP_no (p := Known d kn f) fun h => hkl h.kl
      clear cs hS hd hk hf hO hkc hfc hkl
      go_enter Try.func36, Try.ntmps36
      go_wp2_with fail
      refine (HCS.out).mono ?_
      rintro e w1 ⟨rfl, hd_w1⟩
      have HW1 : Hid (Dr _ w1) := hd_w1
      clear hd_w1
      clear HCS
      go_wp2
      go_ret
      exact ⟨by rw [HN.out]; rfl, HW1.out⟩
  · have cs := specSpaceOk_any lo hi v d w hd
    rw [decP_no hS] at cs
    have HCS := Lib.hid <| cs
    have HN := Lib.hid <| decP_no (p := Known d kn f) fun h => hS h.sp
    clear cs hS hd hk hf hkc hfc
    go_enter Try.func36, Try.ntmps36
    go_wp2_with fail
    refine (HCS.out).mono ?_
    rintro e w1 ⟨rfl, hd_w1⟩
    have HW1 : Hid (Dr _ w1) := hd_w1
    clear hd_w1
    clear HCS
    go_wp2
    go_ret
    exact ⟨by rw [HN.out]; rfl, HW1.out⟩

end Go.Proofs.Ytapllhnlngnobaa
