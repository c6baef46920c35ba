/- What impl.WidthOf returns. Conditions: as each theorem says. -/
import Derived.Test.YtclffncimaigfaaFar
namespace Go.Proofs.Ytclffncimaigfaa
set_option linter.unusedVariables false
set_option linter.unusedSimpArgs false
open Go.RowKit Go.Deep

def widF (d : List (List Int)) (k : Nat) : Int := maxN (farF d) 0 k
noncomputable def widV (d : List (List Int)) : Int := if decP (Space d) then widF d d.length else -1
theorem widV_yes {d : List (List Int)} (h : Space d) : widV d = widF d d.length := by simp [widV, decP_yes h]
theorem widV_no {d : List (List Int)} (h : ¬ Space d) : widV d = -1 := by simp [widV, decP_no h]
theorem widF_bd {d : List (List Int)} (h : Space d) {k : Nat} (hk : k ≤ d.length) : 0 ≤ widF d k ∧ widF d k ≤ 60 :=
  ⟨le_maxN _ _ _, maxN_le (by omega) fun i hi => (farF_bd h (by omega)).2⟩
theorem far_le_wid {d : List (List Int)} {k : Nat} (hk : k < d.length) : farF d k ≤ widF d d.length := maxN_ge hk
theorem at_le_wid {d : List (List Int)} {i k : Nat} (hi : i < d.length) (hk : k < d.length) : at2 d i k ≤ widF d d.length := by
  have h1 : at2 d i k ≤ farF d i := maxN_ge hk
  have h2 := far_le_wid hi
  omega
theorem widF_step (d : List (List Int)) (k : Nat) : (if widF d k < farF d k then farF d k else widF d k) = widF d (k + 1) := maxN_step (farF d) 0 k
set_option maxHeartbeats 1000000 in
theorem implWidthOf_any (lo hi : Nat) (v : Value) (d : List (List Int)) (w : World) (hd : MMem lo hi w v d) :
    Calls Try.prog 43 #[v] w (Quiet (.int .i64 (widV d)) w) := by
  have cs := isSpace_any lo hi v d w hd
  by_cases hS : Space d
  · rw [decP_yes hS] at cs
    obtain ⟨b, cap, BB, CC, rfl, hO⟩ := hd.space hS
    have hsix := hS.six
    have hone := hS.one
    have HCS := Lib.hid <| cs
    have HO := Lib.hid <| hO
    have HV := Lib.hid (widV_yes hS)
    have HSP := Lib.hid hS
    clear cs hO hd hS
    go_enter Try.func43, Try.ntmps43
    go_wp2_with fail
    refine (HCS.out).mono ?_
    rintro e w1 ⟨rfl, hd_w1⟩
    have HW1 : Hid (Dr _ w1) := hd_w1
    clear hd_w1
    go_wp2
    go_loopw [3, 11] (fun mv kv wr => ∃ k : Nat, k ≤ d.length ∧ kv = .int .i64 k ∧ mv = .int .i64 (widF d k) ∧ Hid (Dr w wr)) (fun _ kv _ => d.length - (intOf kv).toNat)
    case atStart => exact ⟨0, Nat.zero_le _, rfl, rfl, HW1⟩
    case round =>
      clear HW1
      obtain ⟨k, hk, rfl, rfl, HW1⟩ := hrel
      by_cases hklt : k < d.length
      · have HOr : Hid (SOpen wr b BB CC d) := HO.out.dr HW1.out
        have c1 := HOr.out.top k hklt
        have call := slicesMax_any _ (row d k) wr (HOr.out.rowI k hklt) (by rw [HOr.out.len k hklt]; omega)
        rw [farF_row HSP.out hklt] at call
        have HM := Lib.hid <| call
        have hb1 := widF_bd HSP.out (show k ≤ d.length by omega)
        have hb2 := farF_bd HSP.out hklt
        have hki : (k : Int) < (d.length : Int) := by omega
        clear call
        go_wp2_with fail
        refine (HM.out).mono ?_
        rintro e w2 ⟨rfl, hd_w2⟩
        have HW2 : Hid (Dr _ w2) := HW1.out.trans hd_w2
        clear hd_w2 HW1
        go_wp2
        go_roundw
        case rel => exact ⟨k + 1, by omega, by go_num, by rw [widF_step], HW2⟩
        case measure => simp [intOf]; omega
      · have hke : k = d.length := by omega
        subst hke
        go_wp2
        go_ret
        exact ⟨by rw [HV.out]; rfl, HW1.out⟩
  · rw [decP_no hS] at cs
    have HCS := Lib.hid <| cs
    have HV := Lib.hid (widV_no hS)
    clear cs hS hd
    go_enter Try.func43, Try.ntmps43
    go_wp2_with fail
    refine (HCS.out).mono ?_
    rintro e w1 ⟨rfl, hd_w1⟩
    have HW1 : Hid (Dr _ w1) := hd_w1
    clear hd_w1
    go_wp2
    go_ret
    exact ⟨by rw [HV.out]; rfl, HW1.out⟩

end Go.Proofs.Ytclffncimaigfaa
