/- What spec.FarthestFrom, impl.LiftedOf and spec.LiftedOf return. Conditions: as each theorem says. -/
import Derived.Test.YtapllhnlngnobaaDist
import Derived.Test.YtapllhnlngnobaaFar
namespace Go.Proofs.Ytapllhnlngnobaa
set_option linter.unusedVariables false
set_option linter.unusedSimpArgs false
open Go.RowKit Go.Deep

set_option maxHeartbeats 1000000 in
theorem specFarthestFrom_in (lo hi : Nat) (v : Value) (d : List (List Int)) (q : Nat) (w : World) (hd : MMem lo hi w v d) (hS : Space d) (hq : q < d.length) :
    Calls Try.prog 79 #[v, .int .i64 q] w (Quiet (.int .i64 (farF d q)) w) := by
  have cs := specSpaceOk_any lo hi v d w hd
  rw [decP_yes hS] at cs
  obtain ⟨b, cap, BB, CC, rfl, hO⟩ := hd.space hS
  have hsix := hS.six
  have HCS := Lib.hid <| cs
  have HO := Lib.hid <| hO
  clear cs hS hd hO
  go_enter Try.func79, Try.ntmps79
  go_wp2_with fail
  refine (HCS.out).mono ?_
  rintro e w1 ⟨rfl, hd_w1⟩
  have HW1 : Hid (Dr _ w1) := hd_w1
  clear hd_w1
  go_wp2_with fail
  refine (l1In_yes _ _ _ _ (by omega) (by omega)).mono ?_
  rintro e w2 ⟨rfl, hd_w2⟩
  have HW2 : Hid (Dr _ w2) := HW1.out.trans hd_w2
  clear hd_w2 HW1
  go_wp2
  go_loopw [5, 6] (fun mv kv wr => ∃ k : Nat, k ≤ d.length ∧ kv = .int .i64 k ∧ mv = .int .i64 (maxN (at2 d q) 0 k) ∧ Hid (Dr w wr)) (fun _ kv _ => d.length - (intOf kv).toNat)
  case atStart => exact ⟨0, Nat.zero_le _, rfl, rfl, HW2⟩
  case round =>
    clear HW2
    obtain ⟨k, hk, rfl, rfl, HW⟩ := hrel
    by_cases hklt : k < d.length
    · have c1 := (HO.out.dr HW.out).top q hq
      have c2 := (HO.out.dr HW.out).cell q k hq hklt
      have HS := Lib.hid <| maxN_step (at2 d q) 0 k
      go_wp2
      go_roundw
      case rel => exact ⟨k + 1, by omega, by go_num, by rw [← HS.out], HW⟩
      case measure => simp [intOf]; omega
    · have hke : k = d.length := by omega
      subst hke
      go_wp2
      go_ret
      exact ⟨rfl, HW.out⟩

noncomputable def liftV (d : List (List Int)) : List Int := if decP (Space d) then genL (farF d) d.length else []
theorem liftV_yes {d : List (List Int)} (h : Space d) : liftV d = genL (farF d) d.length := by simp [liftV, decP_yes h]
theorem liftV_no {d : List (List Int)} (h : ¬ Space d) : liftV d = [] := by simp [liftV, decP_no h]

set_option maxHeartbeats 1000000 in
theorem implLiftedOf_any (lo hi : Nat) (v : Value) (d : List (List Int)) (w : World) (hd : MMem lo hi w v d) :
    Calls Try.prog 43 #[v] w (GivesI (liftV d) w) := by
  have cs := isSpace_any lo hi v d w hd
  by_cases hS : Space d
  · rw [decP_yes hS] at cs
    obtain ⟨b, cap, BB, CC, rfl, hO⟩ := hd.space hS
    have hsix := hS.six
    have HCS := Lib.hid <| cs
    have HO := Lib.hid <| hO
    have HV := Lib.hid <| liftV_yes hS
    clear cs hS hd hO
    go_enter Try.func43, Try.ntmps43
    go_wp2_with fail
    refine (HCS.out).mono ?_
    rintro e w1 ⟨rfl, hd_w1⟩
    have HW1 : Hid (Dr _ w1) := hd_w1
    clear hd_w1
    have HO1 : Hid (SOpen w1 b BB CC d) := HO.out.dr HW1.out
    go_wp2
    go_loopw [3, 12] (fun ov kv wr => ∃ k : Nat, k ≤ d.length ∧ kv = .int .i64 k ∧ Hid (IMem w1.heap.size wr.heap.size wr ov (genL (farF d) k)) ∧ Hid (Below w1.heap.size w1 wr)) (fun _ kv _ => d.length - (intOf kv).toNat)
    case atStart => exact ⟨0, Nat.zero_le _, rfl, (IMem.empty w1).top, (Below.refl _ _).alloc (Nat.le_refl _) _⟩
    case round =>
      obtain ⟨k, hk, rfl, HI, HB⟩ := hrel
      by_cases hklt : k < d.length
      · have HOr : Hid (SOpen wr b BB CC d) := HO1.out.keep HB.out
        have c1 := HOr.out.top k hklt
        have call := slicesMax_any _ (row d k) wr (HOr.out.rowI k hklt) (by rw [HOr.out.len k hklt]; omega)
        rw [farF_row HOr.out.sp hklt] at call
        have HM := Lib.hid <| call
        clear call
        go_wp2_with fail
        refine (HM.out).mono ?_
        rintro e w2 ⟨rfl, hd_w2⟩
        have HW2 : Hid (Dr _ w2) := hd_w2
        clear hd_w2
        have hs2 : w1.heap.size ≤ w2.heap.size := by rw [HW2.out.heap]; exact HB.out.size
        have HI2 : Hid (IMem w1.heap.size wr.heap.size w2 _ (genL (farF d) k)) := HI.out.dr HW2.out
        go_wp2_with (at_builtin; refine wp_app _ rfl _ _ rfl w1.heap.size _ _ _ rfl (HI2.out.alloc _) w2.heap.size 0 1 1 [farF d k] rfl rfl one_cell (by rw [genL_length]; omega) (by simp; omega) ?_; intro v' w' hI' hB' _)
        rw [← genL_succ] at hI'
        have HI3 : Hid (IMem w1.heap.size w'.heap.size w' v' (genL (farF d) (k + 1))) := hI'
        have HB3 : Hid (Below w1.heap.size w1 w') := (((HB.out.trans (HW2.out.below _)).alloc hs2 _).trans hB')
        clear hI' hB' c1
        go_wp2
        go_roundw
        case rel => exact ⟨k + 1, by omega, by go_num, HI3, HB3⟩
        case measure => simp [intOf]; omega
      · have hke : k = d.length := by omega
        subst hke
        go_wp2
        go_ret
        rw [HV.out]
        exact givesI_of (HW1.out.below _) HI.out HB.out
  · rw [decP_no hS] at cs
    have HCS := Lib.hid <| cs
    have HV := Lib.hid <| liftV_no hS
    obtain ⟨b, cap, _, _, rfl, _⟩ := hd.open
    clear cs hS hd
    go_enter Try.func43, Try.ntmps43
    go_wp2_with fail
    refine (HCS.out).mono ?_
    rintro e w1 ⟨rfl, hd_w1⟩
    have HW1 : Hid (Dr _ w1) := hd_w1
    clear hd_w1
    go_wp2
    go_ret
    rw [HV.out]
    exact givesI_nil (HW1.out.below _)

set_option maxHeartbeats 1000000 in
theorem specLiftedOf_any (lo hi : Nat) (v : Value) (d : List (List Int)) (w : World) (hd : MMem lo hi w v d) :
    Calls Try.prog 44 #[v] w (GivesI (liftV d) w) := by
  obtain ⟨b, cap, BB, CC, rfl, _, _, _, hm1, hm2, _⟩ := hd.open
  rw [maxLen_val] at hm2
  by_cases hS : Space d
  · have hsix := hS.six
    have HD := Lib.hid <| hd
    have HS := Lib.hid <| hS
    have HV := Lib.hid <| liftV_yes hS
    clear hS hd
    go_enter Try.func44, Try.ntmps44
    go_wp2
    go_loopw [3, 4] (fun ov kv wr => ∃ k : Nat, k ≤ d.length ∧ kv = .int .i64 k ∧ Hid (IMem w.heap.size wr.heap.size wr ov (genL (farF d) k)) ∧ Hid (Below w.heap.size w wr)) (fun _ kv _ => d.length - (intOf kv).toNat)
    case atStart => exact ⟨0, Nat.zero_le _, rfl, (IMem.empty w).top, (Below.refl _ _).alloc (Nat.le_refl _) _⟩
    case round =>
      obtain ⟨k, hk, rfl, HI, HB⟩ := hrel
      by_cases hklt : k < d.length
      · have cs := specSpaceOk_any lo hi _ d wr (HD.out.fresh HB.out)
        rw [decP_yes HS.out] at cs
        have HCS := Lib.hid <| cs
        clear cs
        go_wp2_with fail
        refine (HCS.out).mono ?_
        rintro e w2 ⟨rfl, hd_w2⟩
        have HW2 : Hid (Dr _ w2) := hd_w2
        clear hd_w2
        have call := specFarthestFrom_in lo hi _ d k w2 ((HD.out.fresh HB.out).dr HW2.out) HS.out hklt
        have HM := Lib.hid <| call
        clear call
        go_wp2_with fail
        refine (HM.out).mono ?_
        rintro e w3 ⟨rfl, hd_w3⟩
        have HW3 : Hid (Dr _ w3) := HW2.out.trans hd_w3
        clear hd_w3 HW2
        have hs2 : w.heap.size ≤ w3.heap.size := by rw [HW3.out.heap]; exact HB.out.size
        have HI2 : Hid (IMem w.heap.size wr.heap.size w3 _ (genL (farF d) k)) := HI.out.dr HW3.out
        go_wp2_with (at_builtin; refine wp_app _ rfl _ _ rfl w.heap.size _ _ _ rfl (HI2.out.alloc _) w3.heap.size 0 1 1 [farF d k] rfl rfl one_cell (by rw [genL_length]; omega) (by simp; omega) ?_; intro v' w' hI' hB' _)
        rw [← genL_succ] at hI'
        have HI3 : Hid (IMem w.heap.size w'.heap.size w' v' (genL (farF d) (k + 1))) := hI'
        have HB3 : Hid (Below w.heap.size w w') := (((HB.out.trans (HW3.out.below _)).alloc hs2 _).trans hB')
        clear hI' hB'
        go_wp2
        go_roundw
        case rel => exact ⟨k + 1, by omega, by go_num, HI3, HB3⟩
        case measure => simp [intOf]; omega
      · have hke : k = d.length := by omega
        subst hke
        go_wp2
        go_ret
        rw [HV.out]
        exact givesI_of (Below.refl _ _) HI.out HB.out
  · have HD := Lib.hid <| hd
    have HS := Lib.hid <| hS
    have HV := Lib.hid <| liftV_no hS
    clear hS hd
    go_enter Try.func44, Try.ntmps44
    go_wp2
    go_loopw [3, 4] (fun ov kv wr => kv = .int .i64 0 ∧ ov = .slice (some ⟨w.heap.size, 0, none⟩) 0 0 ∧ wr = w.alloc (.cells #[] 3)) (fun _ kv _ => 0)
    case atStart => exact ⟨rfl, rfl, rfl⟩
    case round =>
      obtain ⟨rfl, rfl, rfl⟩ := hrel
      by_cases h0 : 0 < d.length
      · have hb : Below w.heap.size w (w.alloc (.cells #[] 3)) := (Below.refl _ _).alloc (Nat.le_refl _) _
        have cs := specSpaceOk_any lo hi _ d _ (HD.out.fresh hb)
        rw [decP_no HS.out] at cs
        have HCS := Lib.hid <| cs
        clear cs hb
        go_wp2_with fail
        refine (HCS.out).mono ?_
        rintro e w2 ⟨rfl, hd_w2⟩
        have HW2 : Hid (Dr _ w2) := hd_w2
        clear hd_w2
        go_wp2
        go_ret
        rw [HV.out]
        have hb : Below w.heap.size w w2 := ((Below.refl _ _).alloc (Nat.le_refl _) _).trans (HW2.out.below _)
        exact givesI_of (Below.refl _ _) ((IMem.empty w).dr HW2.out) hb
      · go_wp2
        go_ret
        rw [HV.out]
        exact givesI_empty (Below.refl _ _)

end Go.Proofs.Ytapllhnlngnobaa
