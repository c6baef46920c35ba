/- What impl.DistancesFrom and spec.DistancesFrom return. Conditions: as each theorem says. -/
import Derived.Test.YtapllhnlngnobaaMade
namespace Go.Proofs.Ytapllhnlngnobaa
set_option linter.unusedVariables false
set_option linter.unusedSimpArgs false
open Go.RowKit Go.Deep

noncomputable def distV (d : List (List Int)) (p : Int) : List Int := if decP (Pt d p) then row d p.toNat else []
theorem distV_yes {d : List (List Int)} {q : Nat} (h : Pt d q) : distV d q = row d q := by simp [distV, decP_yes h]
theorem distV_no {d : List (List Int)} {p : Int} (h : ¬ Pt d p) : distV d p = [] := by simp [distV, decP_no h]

set_option maxHeartbeats 1000000 in
theorem implDistancesFrom_any (lo hi : Nat) (v : Value) (d : List (List Int)) (p : Int) (w : World) (hd : MMem lo hi w v d) :
    Calls Try.prog 26 #[v, .int .i64 p] w (GivesI (distV d p) w) := by
  have cs : Calls Try.prog 70 #[v, .int .i64 p] w (Quiet (.bool (decP (Pt d p))) w) := hasPoint_any lo hi v d p w hd
  by_cases hP : Pt d p
  · rw [decP_yes hP] at cs
    obtain ⟨hS, h0, h1⟩ := id hP
    obtain ⟨q, rfl⟩ := Int.eq_ofNat_of_zero_le h0
    obtain ⟨b, cap, BB, CC, rfl, hO⟩ := hd.space hS
    have hsix := hS.six
    have hq : q < d.length := by omega
    have HCS := Lib.hid <| cs
    have HO := Lib.hid <| hO
    have HV := Lib.hid <| distV_yes hP
    clear cs hP hS hd hO h0 h1
    go_enter Try.func26, Try.ntmps26
    go_wp2_with fail
    refine (HCS.out).mono ?_
    rintro e w1 ⟨rfl, hd_w1⟩
    have HW1 : Hid (Dr _ w1) := hd_w1
    clear hd_w1
    have c1 : ∀ o, (w1.alloc o).cell? ⟨b, q, none⟩ = some (.slice (some ⟨BB q, 0, none⟩) d.length (CC q)) := fun o => ((HO.out.dr HW1.out).keep ((Below.refl _ _).alloc (Nat.le_refl _) o)).top q hq
    go_wp2_with (at_builtin; go_loud (refine wp_app _ rfl _ _ rfl w1.heap.size (w1.heap.size + 1) _ [] rfl (IMem.empty _) (BB q) 0 d.length _ (row d q) rfl (HO.out.len q hq) (fun i hi => by rw [Nat.zero_add]; exact ((HO.out.dr HW1.out).keep ((Below.refl _ _).alloc (Nat.le_refl _) _)).cell q i hq hi) (by simp; omega) (by simp) ?_); intro v' w' hI' hB' _)
    go_ret
    rw [HV.out]
    exact givesI_of (HW1.out.below _) hI' (((Below.refl _ _).alloc (Nat.le_refl _) _).trans hB')
  · rw [decP_no hP] at cs
    have HCS := Lib.hid <| cs
    have HV := Lib.hid <| distV_no hP
    obtain ⟨b, cap, _, _, rfl, _⟩ := hd.open
    clear cs hP hd
    go_enter Try.func26, Try.ntmps26
    go_wp2_with fail
    refine (HCS.out).mono ?_
    rintro e w1 ⟨rfl, hd_w1⟩
    have HW1 : Hid (Dr _ w1) := hd_w1
    clear hd_w1
    go_wp2
    go_ret
    rw [HV.out]
    exact givesI_nil (HW1.out.below _)

set_option maxHeartbeats 1000000 in
theorem specDistancesFrom_any (lo hi : Nat) (v : Value) (d : List (List Int)) (p : Int) (w : World) (hd : MMem lo hi w v d) :
    Calls Try.prog 27 #[v, .int .i64 p] w (GivesI (distV d p) w) := by
  have cs := specSpaceOk_any lo hi v d w hd
  by_cases hS : Space d
  · rw [decP_yes hS] at cs
    obtain ⟨b, cap, BB, CC, rfl, hO⟩ := hd.space hS
    have hsix := hS.six
    have HCS := Lib.hid <| cs
    by_cases hp : 0 ≤ p ∧ p ≤ (d.length : Int) - 1
    · obtain ⟨q, rfl⟩ := Int.eq_ofNat_of_zero_le hp.1
      have hq : q < d.length := by omega
      have HO := Lib.hid <| hO
      have HV := Lib.hid <| distV_yes (d := d) (q := q) ⟨hS, hp.1, by omega⟩
      have HB := Lib.hid <| hp
      clear cs hS hd hO hp
      go_enter Try.func27, Try.ntmps27
      go_wp2_with fail
      refine (HCS.out).mono ?_
      rintro e w1 ⟨rfl, hd_w1⟩
      have HW1 : Hid (Dr _ w1) := hd_w1
      clear hd_w1
      go_wp2_with fail
      refine (l1In_yes _ _ _ _ HB.out.1 HB.out.2).mono ?_
      rintro e w2 ⟨rfl, hd_w2⟩
      have HW2 : Hid (Dr _ w2) := HW1.out.trans hd_w2
      clear hd_w2 HW1
      have c1 : ∀ o, (w2.alloc o).cell? ⟨b, q, none⟩ = some (.slice (some ⟨BB q, 0, none⟩) d.length (CC q)) := fun o => ((HO.out.dr HW2.out).keep ((Below.refl _ _).alloc (Nat.le_refl _) o)).top q hq
      go_wp2_with (at_builtin; go_loud (refine wp_app _ rfl _ _ rfl w2.heap.size (w2.heap.size + 1) _ [] rfl (IMem.empty _) (BB q) 0 d.length _ (row d q) rfl (HO.out.len q hq) (fun i hi => by rw [Nat.zero_add]; exact ((HO.out.dr HW2.out).keep ((Below.refl _ _).alloc (Nat.le_refl _) _)).cell q i hq hi) (by simp; omega) (by simp) ?_); intro v' w' hI' hB' _)
      go_ret
      rw [HV.out]
      exact givesI_of (HW2.out.below _) hI' (((Below.refl _ _).alloc (Nat.le_refl _) _).trans hB')
    · have HB := Lib.hid <| hp
      have HV := Lib.hid <| distV_no (d := d) (p := p) fun h => hp ⟨h.2.1, by have := h.2.2; omega⟩
      clear cs hS hd hO hp
      go_enter Try.func27, Try.ntmps27
      go_wp2_with fail
      refine (HCS.out).mono ?_
      rintro e w1 ⟨rfl, hd_w1⟩
      have HW1 : Hid (Dr _ w1) := hd_w1
      clear hd_w1
      go_wp2_with fail
      refine (l1In_no _ _ _ _ HB.out).mono ?_
      rintro e w2 ⟨rfl, hd_w2⟩
      have HW2 : Hid (Dr _ w2) := HW1.out.trans hd_w2
      clear hd_w2 HW1
      go_wp2
      go_ret
      rw [HV.out]
      exact givesI_empty (HW2.out.below _)
  · rw [decP_no hS] at cs
    have HCS := Lib.hid <| cs
    have HV := Lib.hid <| distV_no (d := d) (p := p) fun h => hS h.1
    obtain ⟨b, cap, _, _, rfl, _⟩ := hd.open
    clear cs hS hd
    go_enter Try.func27, Try.ntmps27
    go_wp2_with fail
    refine (HCS.out).mono ?_
    rintro e w1 ⟨rfl, hd_w1⟩
    have HW1 : Hid (Dr _ w1) := hd_w1
    clear hd_w1
    go_wp2
    go_ret
    rw [HV.out]
    exact givesI_empty (HW1.out.below _)

end Go.Proofs.Ytapllhnlngnobaa
