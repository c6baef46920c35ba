/- What impl.SteepestOf and spec.SteepestOf return: both the same number. Conditions: as each theorem says. -/
import Derived.Test.YtapllhnlngnobaaTame
namespace Go.Proofs.Ytapllhnlngnobaa
set_option linter.unusedVariables false
set_option linter.unusedSimpArgs false
open Go.RowKit Go.Deep

structure SteepOk (d : List (List Int)) (f : List Int) : Prop where
  sp : Space d
  two : 2 ≤ d.length
  vals : Vals f d.length

/-- One pair, one way round. -/
def stG (d : List (List Int)) (f : List Int) (i k : Nat) : Int := if i ≠ k ∧ iat f k < iat f i then (iat f i - iat f k) * 60 / at2 d i k else 0
/-- One pair, both ways. -/
def stH (d : List (List Int)) (f : List Int) (k j : Nat) : Int := 60 * (if iat f k - iat f j < iat f j - iat f k then iat f j - iat f k else iat f k - iat f j) / at2 d k j
def stI (d : List (List Int)) (f : List Int) : Nat → Int
  | 0 => 0
  | i + 1 => maxN (stG d f i) (stI d f i) d.length
def stS (d : List (List Int)) (f : List Int) : Nat → Int
  | 0 => 0
  | k + 1 => maxN (stH d f k) (stS d f k) k

theorem ent_pos {d : List (List Int)} (h : Space d) {i k : Nat} (hi : i < d.length) (hk : k < d.length) (hne : i ≠ k) : 1 ≤ at2 d i k := by
  have e := h.ent i k hi hk
  have : at2 d i k ≠ 0 := fun h0 => hne (e.2.2.2.1 h0)
  have := e.1
  omega

theorem quo_nonneg {a b : Int} (ha : 0 ≤ a) (hb : 1 ≤ b) : 0 ≤ a / b ∧ a / b ≤ a := ⟨Int.ediv_nonneg ha (by omega), Int.ediv_le_self _ ha⟩

theorem stG_bd {d : List (List Int)} {f : List Int} (h : SteepOk d f) {i k : Nat} (hi : i < d.length) (hk : k < d.length) : 0 ≤ stG d f i k ∧ stG d f i k ≤ 24000 := by
  unfold stG
  split
  · rename_i hc
    have b1 := h.vals.bd hi
    have b2 := h.vals.bd hk
    have := quo_nonneg (a := (iat f i - iat f k) * 60) (b := at2 d i k) (by omega) (ent_pos h.sp hi hk hc.1)
    omega
  · omega
theorem stH_bd {d : List (List Int)} {f : List Int} (h : SteepOk d f) {i k : Nat} (hi : i < d.length) (hk : k < d.length) (hne : i ≠ k) : 0 ≤ stH d f i k ∧ stH d f i k ≤ 24000 := by
  unfold stH
  have b1 := h.vals.bd hi
  have b2 := h.vals.bd hk
  have := quo_nonneg (a := 60 * (if iat f i - iat f k < iat f k - iat f i then iat f k - iat f i else iat f i - iat f k)) (b := at2 d i k) (by split <;> omega) (ent_pos h.sp hi hk hne)
  refine ⟨this.1, Int.le_trans this.2 ?_⟩
  split <;> omega

theorem stI_bd {d : List (List Int)} {f : List Int} (h : SteepOk d f) {i : Nat} (hi : i ≤ d.length) : 0 ≤ stI d f i ∧ stI d f i ≤ 24000 := by
  induction i with
  | zero => simp [stI]
  | succ i ih =>
    have := ih (by omega)
    have h1 := le_maxN (stG d f i) (stI d f i) d.length
    simp only [stI]
    exact ⟨by omega, maxN_le this.2 fun k hk => (stG_bd h (by omega) hk).2⟩
theorem stI_le {d : List (List Int)} {f : List Int} {B : Int} {n : Nat} (hB : 0 ≤ B) (h : ∀ i k, i < n → k < d.length → stG d f i k ≤ B) : stI d f n ≤ B := by
  induction n with
  | zero => exact hB
  | succ n ih =>
    simp only [stI]
    exact maxN_le (ih fun i k hi hk => h i k (by omega) hk) fun k hk => h n k (by omega) hk
theorem stI_ge {d : List (List Int)} {f : List Int} {n i k : Nat} (hi : i < n) (hk : k < d.length) : stG d f i k ≤ stI d f n := by
  induction n with
  | zero => omega
  | succ n ih =>
    simp only [stI]
    by_cases e : i = n
    · subst e; exact maxN_ge hk
    · exact Int.le_trans (ih (by omega)) (le_maxN _ _ _)
theorem stS_le {d : List (List Int)} {f : List Int} {B : Int} {n : Nat} (hB : 0 ≤ B) (h : ∀ k j, k < n → j < k → stH d f k j ≤ B) : stS d f n ≤ B := by
  induction n with
  | zero => exact hB
  | succ n ih =>
    simp only [stS]
    exact maxN_le (ih fun i k hi hk => h i k (by omega) hk) fun k hk => h n k (by omega) hk
theorem stS_nonneg (d : List (List Int)) (f : List Int) (n : Nat) : 0 ≤ stS d f n := by
  induction n with
  | zero => exact Int.le_refl _
  | succ n ih => exact Int.le_trans ih (le_maxN _ _ _)
theorem stI_nonneg (d : List (List Int)) (f : List Int) (n : Nat) : 0 ≤ stI d f n := by
  induction n with
  | zero => exact Int.le_refl _
  | succ n ih => exact Int.le_trans ih (le_maxN _ _ _)
theorem stS_ge {d : List (List Int)} {f : List Int} {n k j : Nat} (hk : k < n) (hj : j < k) : stH d f k j ≤ stS d f n := by
  induction n with
  | zero => omega
  | succ n ih =>
    simp only [stS]
    by_cases e : k = n
    · subst e; exact maxN_ge hj
    · exact Int.le_trans (ih (by omega)) (le_maxN _ _ _)
theorem stS_bd {d : List (List Int)} {f : List Int} (h : SteepOk d f) {i : Nat} (hi : i ≤ d.length) : 0 ≤ stS d f i ∧ stS d f i ≤ 24000 :=
  ⟨stS_nonneg _ _ _, stS_le (by omega) fun k j hk hj => (stH_bd h (by omega) (by omega) (by omega)).2⟩

theorem steep_same {d : List (List Int)} {f : List Int} (h : SteepOk d f) : stI d f d.length = stS d f d.length := by
  apply Int.le_antisymm
  · refine stI_le (stS_nonneg _ _ _) fun i k hi hk => ?_
    unfold stG
    split
    · rename_i hc
      have hsym := (h.sp.ent i k hi hk).2.2.1
      rcases Nat.lt_or_gt_of_ne hc.1 with hlt | hgt
      · have hh := stS_ge (d := d) (f := f) hk hlt
        unfold stH at hh
        rw [if_pos (by omega), ← hsym, Int.mul_comm] at hh
        exact hh
      · have hh := stS_ge (d := d) (f := f) hi hgt
        unfold stH at hh
        rw [if_neg (by omega), Int.mul_comm] at hh
        exact hh
    · exact stS_nonneg _ _ _
  · refine stS_le (stI_nonneg _ _ _) fun k j hk hj => ?_
    have hjl : j < d.length := by omega
    have hsym := (h.sp.ent k j hk hjl).2.2.1
    unfold stH
    split
    · have hh := stI_ge (d := d) (f := f) hjl hk
      unfold stG at hh
      rw [if_pos ⟨by omega, by omega⟩, ← hsym, Int.mul_comm] at hh
      exact hh
    · by_cases he : iat f j < iat f k
      · have hh := stI_ge (d := d) (f := f) hk hjl
        unfold stG at hh
        rw [if_pos ⟨by omega, by omega⟩, Int.mul_comm] at hh
        exact hh
      · have : iat f k - iat f j = 0 := by omega
        rw [this, Int.mul_zero, Int.zero_ediv]
        exact stI_nonneg _ _ _

noncomputable def steepV (d : List (List Int)) (f : List Int) : Int := if decP (SteepOk d f) then stI d f d.length else -1
theorem steepV_yes {d : List (List Int)} {f : List Int} (h : SteepOk d f) : steepV d f = stI d f d.length := by simp [steepV, decP_yes h]
theorem steepV_no {d : List (List Int)} {f : List Int} (h : ¬ SteepOk d f) : steepV d f = -1 := by simp [steepV, decP_no h]

set_option maxHeartbeats 1000000 in
theorem implSteepestOf_any (lo hi lo' hi' : Nat) (v u : Value) (d : List (List Int)) (f : List Int) (w : World) (hd : MMem lo hi w v d) (hf : IMem lo' hi' w u f) :
    Calls Try.prog 24 #[v, u] w (Quiet (.int .i64 (steepV d f)) w) := by
  by_cases hS : Space d
  · have cs := isSpace_any lo hi v d w hd
    rw [decP_yes hS] at cs
    have HCS := Lib.hid <| cs
    have cf : ∀ w', Dr w w' → Calls Try.prog 66 #[u, .int .i64 d.length] w' (Quiet (.bool (decP (Vals f d.length))) w') := fun w' h => areValues_any _ _ _ _ (hf.inn.dr h)
    obtain ⟨b, cap, BB, CC, rfl, hO⟩ := hd.space hS
    by_cases h2 : 2 ≤ d.length
    · by_cases hV : Vals f d.length
      · rw [decP_yes hV] at cf
        have HCF := Lib.hid <| cf
        obtain ⟨fb, fc, rfl, _, _, _, _, _, hc, _⟩ := hf.open
        have hl := hV.len
        have hsix := hS.six
        rw [hl] at HCF ⊢
        have hok : SteepOk d f := ⟨hS, h2, hV⟩
        have HOK := Lib.hid <| hok
        have HV := Lib.hid <| steepV_yes hok
        have HO := Lib.hid <| hO
        have HC := Lib.hid <| hc
        have HL := Lib.hid <| hl
        clear cs cf hS hV hd hf hO hc hl hok
        go_enter Try.func24, Try.ntmps24
        go_wp2_with fail
        refine (HCS.out).mono ?_
        rintro e w1 ⟨rfl, hd_w1⟩
        have HW1 : Hid (Dr _ w1) := hd_w1
        clear hd_w1
        go_wp2_with fail
        refine (HCF.out _ HW1.out).mono ?_
        rintro e w2 ⟨rfl, hd_w2⟩
        have HW2 : Hid (Dr _ w2) := HW1.out.trans hd_w2
        clear hd_w2 HW1
        clear HCS HCF
        go_wp2
        go_loopw [5, 27] (fun mv iv wr => ∃ i : Nat, i ≤ d.length ∧ iv = .int .i64 i ∧ mv = .int .i64 (stI d f i) ∧ Hid (Dr w wr)) (fun _ iv _ => d.length - (intOf iv).toNat)
        case atStart => exact ⟨0, Nat.zero_le _, rfl, rfl, HW2⟩
        case round =>
          clear HW2
          obtain ⟨i, hi, rfl, rfl, HW⟩ := hrel
          by_cases hilt : i < d.length
          · have c1 := (HW.out.cell _).trans (HC.out i (by rw [HL.out]; exact hilt))
            have bi := HOK.out.vals.bd hilt
            go_wp2
            clear c1
            go_loopw [5, 34] (fun mv kv wr => ∃ k : Nat, k ≤ d.length ∧ kv = .int .i64 k ∧ mv = .int .i64 (maxN (stG d f i) (stI d f i) k) ∧ Hid (Dr w wr)) (fun _ kv _ => d.length - (intOf kv).toNat)
            case atStart => exact ⟨0, Nat.zero_le _, rfl, rfl, HW⟩
            case round =>
              clear HW
              obtain ⟨k, hk, rfl, rfl, HW⟩ := hrel
              by_cases hklt : k < d.length
              · have c2 := (HW.out.cell _).trans (HC.out k (by rw [HL.out]; exact hklt))
                have bk := HOK.out.vals.bd hklt
                have hst := maxN_step (stG d f i) (stI d f i) k
                by_cases hik : i = k
                · subst hik
                  have hg : stG d f i i = 0 := by simp [stG]
                  rw [hg, if_neg (by have := le_maxN (stG d f i) (stI d f i) i; have := stI_nonneg d f i; omega)] at hst
                  have HS := Lib.hid <| hst
                  clear hst hg
                  go_wp2
                  go_roundw
                  case rel => exact ⟨i + 1, by omega, by go_num, by rw [← HS.out], HW⟩
                  case measure => simp [intOf]; omega
                · have hne : ((i : Int) != (k : Int)) = true := by simpa using fun e => hik (by omega)
                  by_cases hgt : iat f k < iat f i
                  · have hg : stG d f i k = (iat f i - iat f k) * 60 / at2 d i k := by simp [stG, hik, hgt]
                    rw [hg] at hst
                    have hd1 := ent_pos HOK.out.sp hilt hklt hik
                    have hd2 := (HO.out.bd i k hilt hklt).2
                    have c3 := (HO.out.dr HW.out).top i hilt
                    have c4 := (HO.out.dr HW.out).cell i k hilt hklt
                    have HS := Lib.hid <| hst
                    clear hst hg hik
                    go_wp2
                    go_roundw
                    case rel => exact ⟨k + 1, by omega, by go_num, by rw [← HS.out], HW⟩
                    case measure => simp [intOf]; omega
                  · have hg : stG d f i k = 0 := by simp [stG, hgt]
                    rw [hg, if_neg (by have := le_maxN (stG d f i) (stI d f i) k; have := stI_nonneg d f i; omega)] at hst
                    have HS := Lib.hid <| hst
                    have hgb : decide (iat f k < iat f i) = false := by simpa using hgt
                    clear hst hg hik
                    go_wp2
                    go_roundw
                    case rel => exact ⟨k + 1, by omega, by go_num, by rw [← HS.out], HW⟩
                    case measure => simp [intOf]; omega
              · have hke : k = d.length := by omega
                subst hke
                go_wp2
                go_roundw
                case rel => exact ⟨i + 1, by omega, by go_num, rfl, HW⟩
                case measure => simp [intOf]; omega
          · have hie : i = d.length := by omega
            subst hie
            go_wp2
            go_ret
            exact ⟨by rw [HV.out]; rfl, HW.out⟩
      · rw [decP_no hV] at cf
        have HCF := Lib.hid <| cf
        have HV := Lib.hid <| steepV_no (d := d) (f := f) fun h => hV h.vals
        clear cs cf hS hV hd hf hO
        go_enter Try.func24, Try.ntmps24
        go_wp2_with fail
        refine (HCS.out).mono ?_
        rintro e w1 ⟨rfl, hd_w1⟩
        have HW1 : Hid (Dr _ w1) := hd_w1
        clear hd_w1
        go_wp2_with fail
        refine (HCF.out _ HW1.out).mono ?_
        rintro e w2 ⟨rfl, hd_w2⟩
        have HW2 : Hid (Dr _ w2) := HW1.out.trans hd_w2
        clear hd_w2 HW1
        clear HCS HCF
        go_wp2
        go_ret
        exact ⟨by rw [HV.out]; rfl, HW2.out⟩
    · have HV := Lib.hid <| steepV_no (d := d) (f := f) fun h => h2 h.two
      clear cs cf hS hd hf hO
      go_enter Try.func24, Try.ntmps24
      go_wp2_with fail
      refine (HCS.out).mono ?_
      rintro e w1 ⟨rfl, hd_w1⟩
      have HW1 : Hid (Dr _ w1) := hd_w1
      clear hd_w1
      clear HCS
      go_wp2
      go_ret
      exact ⟨by rw [HV.out]; rfl, HW1.out⟩
  · have cs := isSpace_any lo hi v d w hd
    rw [decP_no hS] at cs
    have HCS := Lib.hid <| cs
    have HV := Lib.hid <| steepV_no (d := d) (f := f) fun h => hS h.sp
    clear cs hS hd hf
    go_enter Try.func24, Try.ntmps24
    go_wp2_with fail
    refine (HCS.out).mono ?_
    rintro e w1 ⟨rfl, hd_w1⟩
    have HW1 : Hid (Dr _ w1) := hd_w1
    clear hd_w1
    clear HCS
    go_wp2
    go_ret
    exact ⟨by rw [HV.out]; rfl, HW1.out⟩

set_option maxHeartbeats 1000000 in
theorem specSteepestOf_any (lo hi lo' hi' : Nat) (v u : Value) (d : List (List Int)) (f : List Int) (w : World) (hd : MMem lo hi w v d) (hf : IMem lo' hi' w u f) :
    Calls Try.prog 29 #[v, u] w (Quiet (.int .i64 (steepV d f)) w) := by
  obtain ⟨fb, fc, rfl, _, _, _, hfm, hfm2, hc, _⟩ := hf.open
  rw [maxLen_val] at hfm2
  by_cases hS : Space d
  · have cs := specSpaceOk_any lo hi v d w hd
    rw [decP_yes hS] at cs
    have HCS := Lib.hid <| cs
    obtain ⟨b, cap, BB, CC, rfl, hO⟩ := hd.space hS
    have hsix := hS.six
    by_cases h2 : 2 ≤ d.length
    · by_cases hl : f.length = d.length
      · have hl2 : ((f.length : Int) != (d.length : Int)) = false := by rw [hl]; simp
        rw [hl] at hl2 ⊢
        have HO := Lib.hid <| hO
        have HC := Lib.hid <| hc
        have HL := Lib.hid <| hl
        have HS := Lib.hid <| hS
        clear cs hS hd hf hO hc hl hfm
        go_enter Try.func29, Try.ntmps29
        go_wp2_with fail
        refine (HCS.out).mono ?_
        rintro e w1 ⟨rfl, hd_w1⟩
        have HW1 : Hid (Dr _ w1) := hd_w1
        clear hd_w1
        clear HCS
        go_wp2
        go_loopw [5, 6] (fun mv iv wr => ∃ i : Nat, i ≤ d.length ∧ iv = .int .i64 i ∧ mv = .int .i64 (stS d f i) ∧ Hid (Dr w wr) ∧ Hid (∀ p, p < i → -200 ≤ iat f p ∧ iat f p ≤ 200)) (fun _ iv _ => d.length - (intOf iv).toNat)
        case atStart => exact ⟨0, Nat.zero_le _, rfl, rfl, HW1, none_yet⟩
        case round =>
          clear HW1
          obtain ⟨i, hi, rfl, rfl, HW, HI⟩ := hrel
          by_cases hilt : i < d.length
          · have c1 := (HW.out.cell _).trans (HC.out i (by rw [HL.out]; exact hilt))
            by_cases hb : -200 ≤ iat f i ∧ iat f i ≤ 200
            · have HI2 := Lib.hid (all_step HI.out hb)
              obtain ⟨hb1, hb2⟩ := hb
              go_wp2_with fail
              refine (l1In_yes _ _ _ _ (by omega) (by omega)).mono ?_
              rintro e w2 ⟨rfl, hd_w2⟩
              have HW2 : Hid (Dr _ w2) := HW.out.trans hd_w2
              clear hd_w2 HW
              clear c1
              go_wp2
              go_loopw [5, 7] (fun mv kv wr => ∃ k : Nat, k ≤ i ∧ kv = .int .i64 k ∧ mv = .int .i64 (maxN (stH d f i) (stS d f i) k) ∧ Hid (Dr w wr)) (fun _ kv _ => i - (intOf kv).toNat)
              case atStart => exact ⟨0, Nat.zero_le _, rfl, rfl, HW2⟩
              case round =>
                clear HW2
                obtain ⟨k, hk, rfl, rfl, HW⟩ := hrel
                by_cases hklt : k < i
                · have c1 := (HW.out.cell _).trans (HC.out i (by rw [HL.out]; exact hilt))
                  have c2 := (HW.out.cell _).trans (HC.out k (by rw [HL.out]; omega))
                  have bk := HI.out k hklt
                  have hst := maxN_step (stH d f i) (stS d f i) k
                  have hd1 := ent_pos HS.out hilt (show k < d.length by omega) (by omega)
                  have hd2 := (HO.out.bd i k hilt (by omega)).2
                  have c3 := (HO.out.dr HW.out).top i hilt
                  have c4 := (HO.out.dr HW.out).cell i k hilt (by omega)
                  have e1 : IntKind.i64.wrap (iat f i - iat f k) = iat f i - iat f k := IntWalk.i64_in _ (by omega)
                  have e2 : IntKind.i64.wrap (iat f k - iat f i) = iat f k - iat f i := IntWalk.i64_in _ (by omega)
                  by_cases hcmp : iat f i - iat f k < iat f k - iat f i
                  · have e3 : IntKind.i64.wrap (60 * (iat f k - iat f i)) = 60 * (iat f k - iat f i) := IntWalk.i64_in _ (by omega)
                    have hg : stH d f i k = 60 * (iat f k - iat f i) / at2 d i k := by unfold stH; rw [if_pos hcmp]
                    rw [hg] at hst
                    have HST := Lib.hid <| hst
                    clear hst hg
                    go_wp2_with fail
                    go_quiet (fail)
                    clear e1 e2 e3
                    go_wp2
                    go_roundw
                    case rel => exact ⟨k + 1, by omega, by go_num, by rw [← HST.out], HW.out.more _⟩
                    case measure => simp [intOf]; omega
                  · have e3 : IntKind.i64.wrap (60 * (iat f i - iat f k)) = 60 * (iat f i - iat f k) := IntWalk.i64_in _ (by omega)
                    have hg : stH d f i k = 60 * (iat f i - iat f k) / at2 d i k := by unfold stH; rw [if_neg hcmp]
                    rw [hg] at hst
                    have HST := Lib.hid <| hst
                    clear hst hg
                    go_wp2_with fail
                    go_quiet (fail)
                    clear e1 e2 e3
                    go_wp2
                    go_roundw
                    case rel => exact ⟨k + 1, by omega, by go_num, by rw [← HST.out], HW.out.more _⟩
                    case measure => simp [intOf]; omega
                · have hke : k = i := by omega
                  subst hke
                  go_wp2
                  go_roundw
                  case rel => exact ⟨k + 1, by omega, by go_num, rfl, HW, HI2⟩
                  case measure => simp [intOf]; omega
            · have HV := Lib.hid <| steepV_no (d := d) (f := f) fun h => hb (h.vals.bd hilt)
              have HB := Lib.hid <| hb
              clear hb
              go_wp2_with fail
              refine (l1In_no _ _ _ _ HB.out).mono ?_
              rintro e w2 ⟨rfl, hd_w2⟩
              have HW2 : Hid (Dr _ w2) := HW.out.trans hd_w2
              clear hd_w2 HW
              go_wp2
              go_ret
              exact ⟨by rw [HV.out]; rfl, HW2.out⟩
          · have hie : i = d.length := by omega
            subst hie
            have hok : SteepOk d f := ⟨HS.out, h2, by rw [HL.out], fun p hp => HI.out p (by rw [HL.out] at hp; exact hp)⟩
            have HV := Lib.hid <| (steepV_yes hok).trans (steep_same hok)
            clear hok
            go_wp2
            go_ret
            exact ⟨by rw [HV.out]; rfl, HW.out⟩
      · have hl2 : ((f.length : Int) != (d.length : Int)) = true := by simpa using fun e => hl (by omega)
        have HV := Lib.hid <| steepV_no (d := d) (f := f) fun h => hl h.vals.len
        clear cs hS hd hf hO hc hl
        go_enter Try.func29, Try.ntmps29
        go_wp2_with fail
        refine (HCS.out).mono ?_
        rintro e w1 ⟨rfl, hd_w1⟩
        have HW1 : Hid (Dr _ w1) := hd_w1
        clear hd_w1
        clear HCS
        go_wp2
        go_ret
        exact ⟨by rw [HV.out]; rfl, HW1.out⟩
    · have HV := Lib.hid <| steepV_no (d := d) (f := f) fun h => h2 h.two
      clear cs hS hd hf hO hc
      go_enter Try.func29, Try.ntmps29
      go_wp2_with fail
      refine (HCS.out).mono ?_
      rintro e w1 ⟨rfl, hd_w1⟩
      have HW1 : Hid (Dr _ w1) := hd_w1
      clear hd_w1
      clear HCS
      go_wp2
      go_ret
      exact ⟨by rw [HV.out]; rfl, HW1.out⟩
  · have cs := specSpaceOk_any lo hi v d w hd
    rw [decP_no hS] at cs
    have HCS := Lib.hid <| cs
    have HV := Lib.hid <| steepV_no (d := d) (f := f) fun h => hS h.sp
    clear cs hS hd hf hc
    go_enter Try.func29, Try.ntmps29
    go_wp2_with fail
    refine (HCS.out).mono ?_
    rintro e w1 ⟨rfl, hd_w1⟩
    have HW1 : Hid (Dr _ w1) := hd_w1
    clear hd_w1
    clear HCS
    go_wp2
    go_ret
    exact ⟨by rw [HV.out]; rfl, HW1.out⟩

end Go.Proofs.Ytapllhnlngnobaa
