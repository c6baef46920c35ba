/- What impl.UnlikeSpaces and spec.UnlikeSpaces return. Conditions: as each theorem says. -/
import Derived.Test.YtclffncimaigfaaUbI2
import Derived.Test.YtclffncimaigfaaUsLaw
import Derived.Test.YtclffncimaigfaaMade
import Derived.Test.YtclffncimaigfaaStepAppM
import Derived.Deep.RegionHeld3
namespace Go.Proofs.Ytclffncimaigfaa
set_option linter.unusedVariables false
set_option linter.unusedSimpArgs false
open Go.RowKit Go.Deep

theorem min2 {m x : Int} : (if x < m then x else m) = min m x := by
  split <;> omega
theorem prS_len9 {n q : Nat} (c : Int) {k : Nat} (hk : k ≤ q) (hq : q ≤ 9) : (prS n c k).length ≤ 9 := by
  have := prS_len n c k
  omega

set_option maxRecDepth 100000 in
set_option maxHeartbeats 4000000 in
theorem implUnlikeSpaces_any (lo hi lo' hi' : Nat) (v u : Value) (d e : List (List Int)) (w : World) (hd : MMem lo hi w v d) (he : MMem lo' hi' w u e) :
    Calls Try.prog 34 #[v, u] w (Gives (.int .i64 (usV d e)) w) := by
  have c1 := isSpace_any lo hi v d w hd
  have c2 : ∀ w', Dr w w' → Calls Try.prog 61 #[u] w' (Quiet (.bool (decP (Space e))) w') := fun w' h => isSpace_any lo' hi' u e w' (he.dr h)
  have HD := Lib.hid <| hd
  have HE := Lib.hid <| he
  obtain ⟨db, dc, _, _, rfl, _⟩ := hd.open
  obtain ⟨eb, ec, _, _, rfl, _⟩ := he.open
  clear hd he
  by_cases hS : Space d
  · rw [decP_yes hS] at c1
    have C1 := Lib.hid <| c1
    by_cases hE : Space e
    · simp only [decP_yes hE] at c2
      have C2 := Lib.hid <| c2
      have hs6 := hS.six
      have he6 := hE.six
      by_cases h3 : d.length ≤ 3
      · have h3n : decide (3 < d.length) = false := decide_eq_false (by omega)
        have h3i : decide ((3 : Int) < (d.length : Int)) = false := decide_eq_false (by omega)
        by_cases k3 : e.length ≤ 3
        · have k3n : decide (3 < e.length) = false := decide_eq_false (by omega)
          have k3i : decide ((3 : Int) < (e.length : Int)) = false := decide_eq_false (by omega)
          have HU : Hid (UsOk d e) := ⟨hS, hE, h3, k3⟩
          have hV := usV_yes HU.out
          have he1 := hE.one
          have hq9 := mul9 h3 k3
          have hpw := pow9_bd hq9
          have HF : Hid (∀ c : Nat, usF d e c = ubV d e (prS e.length (c : Int) (d.length * e.length))) := fun c => rfl
          obtain ⟨q, hq⟩ : ∃ q, d.length * e.length = q := ⟨_, rfl⟩
          have hqi : (d.length : Int) * (e.length : Int) = (q : Int) := by rw [← hq]; simp
          rw [hq] at hV hq9 hpw HF
          obtain ⟨K, hKn⟩ : ∃ K, 2 ^ q = K := ⟨_, rfl⟩
          have hK : (2 : Int) ^ q = (K : Int) := by rw [← hKn]; simp
          rw [hKn] at hV
          rw [hK] at hpw
          have HV := Lib.hid <| hV
          clear c1 c2 hS hE hq hKn hV
          go_enter Try.func34, Try.ntmps34
          go_wp2_with fail
          refine (C1.out).mono ?_
          rintro e w1 ⟨rfl, hd_w1⟩
          have HW1 : Hid (Dr _ w1) := hd_w1
          clear hd_w1
          go_wp2_with fail
          refine (C2.out _ HW1.out).mono ?_
          rintro e2 w2 ⟨rfl, hd2⟩
          have HW : Hid (Dr w w2) := HW1.out.trans hd2
          clear hd2 HW1 C1 C2
          have HD2 := Lib.hid (HD.out.dr HW.out)
          have HE2 := Lib.hid (HE.out.dr HW.out)
          clear HD HE
          have H0 : Hid (Below w2.heap.size w2 w2) := Below.refl _ _
          go_wp2
          go_loopw [5, 34] (fun lv iv wr => ∃ c : Nat, c ≤ K ∧ iv = .int .i64 c ∧ lv = .int .i64 (usI d e c) ∧ Hid (Below w2.heap.size w2 wr)) (fun _ iv _ => K - (intOf iv).toNat)
          case atStart => exact ⟨0, Nat.zero_le _, rfl, rfl, H0⟩
          case round =>
            clear H0 h3n h3i k3n k3i
            obtain ⟨c, hc, rfl, rfl, HB⟩ := hrel
            by_cases hcl : c < K
            · have hci : (c : Int) < (K : Int) := by omega
              obtain ⟨wo, rfl⟩ : ∃ wo : World, wo = wr := ⟨_, rfl⟩
              have H0 : Hid (MMem wo.heap.size (wo.heap.size + 1) (wo.alloc (.cells #[] 37)) (.slice (some ⟨wo.heap.size, 0, none⟩) 0 0) (prS e.length (c : Int) 0)) := MMem.empty wo
              have HX0 : Hid (Below wo.heap.size wo (wo.alloc (.cells #[] 37))) := (Below.refl _ _).alloc (Nat.le_refl _) _
              go_wp2
              go_loopw [7, 43] (fun pv iv wr => ∃ k : Nat, k ≤ q ∧ iv = .int .i64 k ∧ Hid (MMem wo.heap.size wr.heap.size wr pv (prS e.length (c : Int) k)) ∧ Hid (Below wo.heap.size wo wr)) (fun _ iv _ => q - (intOf iv).toNat)
              case atStart => exact ⟨0, Nat.zero_le _, rfl, H0.out.top, HX0⟩
              case round =>
                clear H0 HX0
                obtain ⟨k, hk, rfl, HM, HX⟩ := hrel
                by_cases hkl : k < q
                · have hki : (k : Int) < (q : Int) := by omega
                  have hsh := sh_bd9 (s := (c : Int)) (k := k) (by omega) (by omega)
                  have hand := and_one9 hsh.1 hsh.2
                  by_cases hb : hasB (c : Int) k
                  · have hbb : (bits BinOp.and IntKind.i64 ((c : Int) / 2 ^ k) 1 == 1) = true := by rw [hand]; simpa [hasB] using hb
                    have HP := Lib.hid <| prS_hit (n := e.length) hb
                    have hlen := prS_len9 (n := e.length) (c : Int) hk hq9
                    have hs2 := HX.out.size
                    have hz1 : ¬ (e.length : Int) = 0 := by omega
                    have hz2 : ¬ e.length = 0 := by omega
                    have hz3 : ¬ e = [] := fun h => hz2 (by rw [h]; rfl)
                    have e1 : IntKind.i64.wrap ((k : Int) / (e.length : Int)) = (k : Int) / (e.length : Int) := IntWalk.i64_in _ (by
                      have := IntWalk.tdiv_le (k : Int) (e.length : Int) (by omega) (by omega)
                      omega)
                    have E1 := Lib.hid e1
                    have e2 : (k : Int).tmod (e.length : Int) = (k : Int) % (e.length : Int) := Int.tmod_eq_emod_of_nonneg (by omega)
                    clear hand hb
                    go_wp2_with fail
                    go_region_held3 (fun w' => True) (trivial) ((refine step_appM _ (by rfl) _ _ (by rfl) wo.heap.size _ _ _ _ _ _ (by rfl) (((HM.out.alloc _).alloc _).drew) ((IMem.pair wr _ _).alloc _) hs2 (wr.heap.size + 1) 1 (by rfl) pair_cell (by omega) (by simp; omega) ?_; intro g gc w' hI' hB'))
                    try rw [E1.out] at hI'
                    have HI3 : Hid (MMem wo.heap.size w'.heap.size w' (.slice (some ⟨g, 0, none⟩) ((prS e.length (c : Int) k).length + 1) gc) (prS e.length (c : Int) (k + 1))) := by show MMem _ _ _ _ _; rw [HP.out]; exact hI'
                    have HB3 : Hid (Below wo.heap.size wo w') := ((((HX.out.alloc hs2 _).alloc (by simp; omega) _).drew).trans hB')
                    clear hI' hB' HM HX hz1 hz2 hz3 e1 e2 hsh
                    go_wp2
                    go_roundw
                    case rel => exact ⟨k + 1, by omega, by go_num, HI3, HB3⟩
                    case measure => simp [intOf]; omega
                  · have hbb : (bits BinOp.and IntKind.i64 ((c : Int) / 2 ^ k) 1 == 1) = false := by rw [hand]; simpa [hasB] using hb
                    have HP := Lib.hid <| prS_miss (n := e.length) hb
                    clear hand hb
                    go_wp2
                    go_roundw
                    case rel => exact ⟨k + 1, by omega, by go_num, by rw [HP.out]; exact HM, HX⟩
                    case measure => simp [intOf]; omega
                · have hke : k = q := by omega
                  subst hke
                  have HBX : Hid (Below w2.heap.size w2 wr) := below_chain HB.out HX.out
                  have cu := implUnlikeBy_any _ _ _ _ _ _ _ _ _ d e _ wr (HD2.out.fresh HBX.out) (HE2.out.fresh HBX.out) HM.out
                  rw [← HF.out c] at cu
                  have hb1 := usF_bd d e c
                  have hb2 := usI_bd d e c
                  by_cases h0 : 0 ≤ usF d e c
                  · have HS := Lib.hid <| usI_hit h0
                    have CU := Lib.hid <| cu
                    clear cu
                    generalize usF d e c = x at *
                    generalize usI d e c = m at *
                    go_wp2_with fail
                    refine (CU.out).mono ?_
                    rintro e w4 ⟨rfl, hd_w4⟩
                    have HB4 : Hid (Below w2.heap.size w2 w4) := below_chain HBX.out hd_w4
                    clear hd_w4 HBX
                    go_wp2
                    go_roundw
                    case rel => exact ⟨c + 1, by omega, by go_num, by rw [HS.out, min2], HB4⟩
                    case measure => simp [intOf]; omega
                  · have h0b : decide (0 ≤ usF d e c) = false := decide_eq_false h0
                    have HS := Lib.hid <| usI_miss h0
                    have CU := Lib.hid <| cu
                    clear cu h0
                    generalize usF d e c = x at *
                    generalize usI d e c = m at *
                    go_wp2_with fail
                    refine (CU.out).mono ?_
                    rintro e w4 ⟨rfl, hd_w4⟩
                    have HB4 : Hid (Below w2.heap.size w2 w4) := below_chain HBX.out hd_w4
                    clear hd_w4 HBX
                    go_wp2
                    go_roundw
                    case rel => exact ⟨c + 1, by omega, by go_num, by rw [HS.out], HB4⟩
                    case measure => simp [intOf]; omega
            · have hce : c = K := by omega
              subst hce
              go_wp2
              go_ret
              exact ⟨by rw [HV.out]; rfl, below_chain (HW.out.below _) HB.out⟩
        · have k3n : decide (3 < e.length) = true := decide_eq_true (by omega)
          have k3i : decide ((3 : Int) < (e.length : Int)) = true := decide_eq_true (by omega)
          have HV := Lib.hid <| usV_no (d := d) (e := e) fun h => k3 h.b3
          clear c1 c2 hS hE k3
          go_enter Try.func34, Try.ntmps34
          go_wp2_with fail
          refine (C1.out).mono ?_
          rintro e w1 ⟨rfl, hd_w1⟩
          have HW1 : Hid (Dr _ w1) := hd_w1
          clear hd_w1
          go_wp2_with fail
          refine (C2.out _ HW1.out).mono ?_
          rintro e2 w2 ⟨rfl, hd2⟩
          have HW : Hid (Dr w w2) := HW1.out.trans hd2
          clear hd2 HW1
          go_wp2
          go_ret
          exact ⟨by rw [HV.out]; rfl, HW.out.below _⟩
      · have h3n : decide (3 < d.length) = true := decide_eq_true (by omega)
        have h3i : decide ((3 : Int) < (d.length : Int)) = true := decide_eq_true (by omega)
        have HV := Lib.hid <| usV_no (d := d) (e := e) fun h => h3 h.a3
        clear c1 c2 hS hE h3
        go_enter Try.func34, Try.ntmps34
        go_wp2_with fail
        refine (C1.out).mono ?_
        rintro e w1 ⟨rfl, hd_w1⟩
        have HW1 : Hid (Dr _ w1) := hd_w1
        clear hd_w1
        go_wp2_with fail
        refine (C2.out _ HW1.out).mono ?_
        rintro e2 w2 ⟨rfl, hd2⟩
        have HW : Hid (Dr w w2) := HW1.out.trans hd2
        clear hd2 HW1
        go_wp2
        go_ret
        exact ⟨by rw [HV.out]; rfl, HW.out.below _⟩
    · simp only [decP_no hE] at c2
      have C2 := Lib.hid <| c2
      have HV := Lib.hid <| usV_no (d := d) (e := e) fun h => hE h.b
      clear c1 c2 hS hE
      go_enter Try.func34, Try.ntmps34
      go_wp2_with fail
      refine (C1.out).mono ?_
      rintro e w1 ⟨rfl, hd_w1⟩
      have HW1 : Hid (Dr _ w1) := hd_w1
      clear hd_w1
      go_wp2_with fail
      refine (C2.out _ HW1.out).mono ?_
      rintro e2 w2 ⟨rfl, hd2⟩
      have HW : Hid (Dr w w2) := HW1.out.trans hd2
      clear hd2 HW1
      go_wp2
      go_ret
      exact ⟨by rw [HV.out]; rfl, HW.out.below _⟩
  · rw [decP_no hS] at c1
    have C1 := Lib.hid <| c1
    have HV := Lib.hid <| usV_no (d := d) (e := e) fun h => hS h.a
    clear c1 c2 hS
    go_enter Try.func34, Try.ntmps34
    go_wp2_with fail
    refine (C1.out).mono ?_
    rintro e w1 ⟨rfl, hd_w1⟩
    have HW : Hid (Dr _ w1) := hd_w1
    clear hd_w1
    go_wp2
    go_ret
    exact ⟨by rw [HV.out]; rfl, HW.out.below _⟩

set_option maxRecDepth 100000 in
set_option maxHeartbeats 4000000 in
theorem specUnlikeSpaces_any (lo hi lo' hi' : Nat) (v u : Value) (d e : List (List Int)) (w : World) (hd : MMem lo hi w v d) (he : MMem lo' hi' w u e) :
    Calls Try.prog 33 #[v, u] w (Gives (.int .i64 (usV d e)) w) := by
  have c1 := specSpaceOk_any lo hi v d w hd
  have c2 : ∀ w', Dr w w' → Calls Try.prog 23 #[u] w' (Quiet (.bool (decP (Space e))) w') := fun w' h => specSpaceOk_any lo' hi' u e w' (he.dr h)
  have HD := Lib.hid <| hd
  have HE := Lib.hid <| he
  obtain ⟨db, dc, _, _, rfl, _⟩ := hd.open
  obtain ⟨eb, ec, _, _, rfl, _⟩ := he.open
  clear hd he
  by_cases hS : Space d
  · rw [decP_yes hS] at c1
    have C1 := Lib.hid <| c1
    by_cases hE : Space e
    · simp only [decP_yes hE] at c2
      have C2 := Lib.hid <| c2
      have hs6 := hS.six
      have he6 := hE.six
      by_cases h3 : d.length ≤ 3
      · have h3n : decide (3 < d.length) = false := decide_eq_false (by omega)
        have h3i : decide ((3 : Int) < (d.length : Int)) = false := decide_eq_false (by omega)
        by_cases k3 : e.length ≤ 3
        · have k3n : decide (3 < e.length) = false := decide_eq_false (by omega)
          have k3i : decide ((3 : Int) < (e.length : Int)) = false := decide_eq_false (by omega)
          have HU : Hid (UsOk d e) := ⟨hS, hE, h3, k3⟩
          have hV := us_same HU.out
          have hB1 := usB_one HU.out
          have hK1 : 1 ≤ 2 ^ (d.length * e.length) := Nat.one_le_two_pow
          have he1 := hE.one
          have hq9 := mul9 h3 k3
          have hpw := pow9_bd hq9
          have HF : Hid (∀ c : Nat, usF d e c = ubV d e (prS e.length (c : Int) (d.length * e.length))) := fun c => rfl
          obtain ⟨q, hq⟩ : ∃ q, d.length * e.length = q := ⟨_, rfl⟩
          have hqi : (d.length : Int) * (e.length : Int) = (q : Int) := by rw [← hq]; simp
          rw [hq] at hV hq9 hpw HF hK1
          obtain ⟨K, hKn⟩ : ∃ K, 2 ^ q = K := ⟨_, rfl⟩
          have hK : (2 : Int) ^ q = (K : Int) := by rw [← hKn]; simp
          rw [hKn] at hV hK1
          rw [hK] at hpw
          have HV := Lib.hid <| hV
          have HB1 := Lib.hid <| hB1
          clear c1 c2 hS hE hq hKn hV hB1
          go_enter Try.func33, Try.ntmps33
          go_wp2_with fail
          refine (C1.out).mono ?_
          rintro e w1 ⟨rfl, hd_w1⟩
          have HW1 : Hid (Dr _ w1) := hd_w1
          clear hd_w1
          go_wp2_with fail
          refine (C2.out _ HW1.out).mono ?_
          rintro e2 w2 ⟨rfl, hd2⟩
          have HW : Hid (Dr w w2) := HW1.out.trans hd2
          clear hd2 HW1 C1 C2
          have HD2 := Lib.hid (HD.out.dr HW.out)
          have HE2 := Lib.hid (HE.out.dr HW.out)
          clear HD HE
          have H0 : Hid (Below w2.heap.size w2 w2) := Below.refl _ _
          go_wp2
          go_loopw [5, 6] (fun lv iv wr => ∃ c : Nat, 1 ≤ c ∧ c ≤ K ∧ iv = .int .i64 c ∧ lv = .int .i64 (usB d e c) ∧ Hid (Below w2.heap.size w2 wr)) (fun _ iv _ => K - (intOf iv).toNat)
          case atStart => exact ⟨1, Nat.le_refl _, hK1, rfl, by rw [HB1.out], H0⟩
          case round =>
            clear H0 HB1 h3n h3i k3n k3i
            obtain ⟨c, hc1, hc, rfl, rfl, HB⟩ := hrel
            by_cases hcl : c < K
            · have hci : (c : Int) < (K : Int) := by omega
              obtain ⟨wo, rfl⟩ : ∃ wo : World, wo = wr := ⟨_, rfl⟩
              have H0 : Hid (MMem wo.heap.size (wo.heap.size + 1) (wo.alloc (.cells #[] 37)) (.slice (some ⟨wo.heap.size, 0, none⟩) 0 0) (prS e.length (c : Int) 0)) := MMem.empty wo
              have HX0 : Hid (Below wo.heap.size wo (wo.alloc (.cells #[] 37))) := (Below.refl _ _).alloc (Nat.le_refl _) _
              go_wp2
              go_loopw [7, 8] (fun pv iv wr => ∃ k : Nat, k ≤ q ∧ iv = .int .i64 k ∧ Hid (MMem wo.heap.size wr.heap.size wr pv (prS e.length (c : Int) k)) ∧ Hid (Below wo.heap.size wo wr)) (fun _ iv _ => q - (intOf iv).toNat)
              case atStart => exact ⟨0, Nat.zero_le _, rfl, H0.out.top, HX0⟩
              case round =>
                clear H0 HX0
                obtain ⟨k, hk, rfl, HM, HX⟩ := hrel
                by_cases hkl : k < q
                · have hki : (k : Int) < (q : Int) := by omega
                  have hsh := sh_bd9 (s := (c : Int)) (k := k) (by omega) (by omega)
                  by_cases hb : hasB (c : Int) k
                  · have hbb : ((c : Int) / 2 ^ k % 2 == 1) = true := by simpa [hasB] using hb
                    have HP := Lib.hid <| prS_hit (n := e.length) hb
                    have hlen := prS_len9 (n := e.length) (c : Int) hk hq9
                    have hs2 := HX.out.size
                    have hz1 : ¬ (e.length : Int) = 0 := by omega
                    have hz2 : ¬ e.length = 0 := by omega
                    have hz3 : ¬ e = [] := fun h => hz2 (by rw [h]; rfl)
                    have e1 : IntKind.i64.wrap ((k : Int) / (e.length : Int)) = (k : Int) / (e.length : Int) := IntWalk.i64_in _ (by
                      have := IntWalk.tdiv_le (k : Int) (e.length : Int) (by omega) (by omega)
                      omega)
                    have E1 := Lib.hid e1
                    have e2 : (k : Int).tmod (e.length : Int) = (k : Int) % (e.length : Int) := Int.tmod_eq_emod_of_nonneg (by omega)
                    clear hb
                    go_wp2_with fail
                    go_region_held3 (fun w' => True) (trivial) ((refine step_appM _ (by rfl) _ _ (by rfl) wo.heap.size _ _ _ _ _ _ (by rfl) (((HM.out.alloc _).alloc _).drew) ((IMem.pair wr _ _).alloc _) hs2 (wr.heap.size + 1) 1 (by rfl) pair_cell (by omega) (by simp; omega) ?_; intro g gc w' hI' hB'))
                    try rw [E1.out] at hI'
                    have HI3 : Hid (MMem wo.heap.size w'.heap.size w' (.slice (some ⟨g, 0, none⟩) ((prS e.length (c : Int) k).length + 1) gc) (prS e.length (c : Int) (k + 1))) := by show MMem _ _ _ _ _; rw [HP.out]; exact hI'
                    have HB3 : Hid (Below wo.heap.size wo w') := ((((HX.out.alloc hs2 _).alloc (by simp; omega) _).drew).trans hB')
                    clear hI' hB' HM HX hz1 hz2 hz3 e1 e2 hsh
                    go_wp2
                    go_roundw
                    case rel => exact ⟨k + 1, by omega, by go_num, HI3, HB3⟩
                    case measure => simp [intOf]; omega
                  · have hbb : ((c : Int) / 2 ^ k % 2 == 1) = false := by simpa [hasB] using hb
                    have HP := Lib.hid <| prS_miss (n := e.length) hb
                    clear hb
                    go_wp2
                    go_roundw
                    case rel => exact ⟨k + 1, by omega, by go_num, by rw [HP.out]; exact HM, HX⟩
                    case measure => simp [intOf]; omega
                · have hke : k = q := by omega
                  subst hke
                  have HBX : Hid (Below w2.heap.size w2 wr) := below_chain HB.out HX.out
                  have cu := gives_of_quiet (specUnlikeBy_any _ _ _ _ _ _ _ _ _ d e _ wr (HD2.out.fresh HBX.out) (HE2.out.fresh HBX.out) HM.out)
                  rw [← HF.out c] at cu
                  have hb1 := usF_bd d e c
                  have hb2 := usB_bd d e c
                  by_cases h0 : 0 ≤ usF d e c
                  · by_cases h1 : usB d e c < 0
                    · have HS := Lib.hid <| usB_hit h0 (Or.inl h1)
                      have CU := Lib.hid <| cu
                      clear cu
                      generalize usF d e c = x at *
                      generalize usB d e c = m at *
                      go_wp2_with fail
                      refine (CU.out).mono ?_
                      rintro e w4 ⟨rfl, hd_w4⟩
                      have HB4 : Hid (Below w2.heap.size w2 w4) := below_chain HBX.out hd_w4
                      clear hd_w4 HBX
                      go_wp2
                      go_roundw
                      case rel => exact ⟨c + 1, by omega, by omega, by go_num, by rw [HS.out], HB4⟩
                      case measure => simp [intOf]; omega
                    · have h1b : decide (usB d e c < 0) = false := decide_eq_false h1
                      by_cases h2 : usF d e c < usB d e c
                      · have HS := Lib.hid <| usB_hit h0 (Or.inr h2)
                        have CU := Lib.hid <| cu
                        clear cu h1
                        generalize usF d e c = x at *
                        generalize usB d e c = m at *
                        go_wp2_with fail
                        refine (CU.out).mono ?_
                        rintro e w4 ⟨rfl, hd_w4⟩
                        have HB4 : Hid (Below w2.heap.size w2 w4) := below_chain HBX.out hd_w4
                        clear hd_w4 HBX
                        go_wp2
                        go_roundw
                        case rel => exact ⟨c + 1, by omega, by omega, by go_num, by rw [HS.out], HB4⟩
                        case measure => simp [intOf]; omega
                      · have h2b : decide (usF d e c < usB d e c) = false := decide_eq_false h2
                        have HS := Lib.hid <| usB_miss (d := d) (e := e) (c := c) fun h => h.2.elim h1 h2
                        have CU := Lib.hid <| cu
                        clear cu h1 h2
                        generalize usF d e c = x at *
                        generalize usB d e c = m at *
                        go_wp2_with fail
                        refine (CU.out).mono ?_
                        rintro e w4 ⟨rfl, hd_w4⟩
                        have HB4 : Hid (Below w2.heap.size w2 w4) := below_chain HBX.out hd_w4
                        clear hd_w4 HBX
                        go_wp2
                        go_roundw
                        case rel => exact ⟨c + 1, by omega, by omega, by go_num, by rw [HS.out], HB4⟩
                        case measure => simp [intOf]; omega
                  · have h0b : decide (0 ≤ usF d e c) = false := decide_eq_false h0
                    have HS := Lib.hid <| usB_miss (d := d) (e := e) (c := c) fun h => h0 h.1
                    have CU := Lib.hid <| cu
                    clear cu h0
                    generalize usF d e c = x at *
                    generalize usB d e c = m at *
                    go_wp2_with fail
                    refine (CU.out).mono ?_
                    rintro e w4 ⟨rfl, hd_w4⟩
                    have HB4 : Hid (Below w2.heap.size w2 w4) := below_chain HBX.out hd_w4
                    clear hd_w4 HBX
                    go_wp2
                    go_roundw
                    case rel => exact ⟨c + 1, by omega, by omega, by go_num, by rw [HS.out], HB4⟩
                    case measure => simp [intOf]; omega
            · have hce : c = K := by omega
              subst hce
              go_wp2
              go_ret
              exact ⟨by rw [HV.out]; rfl, below_chain (HW.out.below _) HB.out⟩
        · have k3n : decide (3 < e.length) = true := decide_eq_true (by omega)
          have k3i : decide ((3 : Int) < (e.length : Int)) = true := decide_eq_true (by omega)
          have HV := Lib.hid <| usV_no (d := d) (e := e) fun h => k3 h.b3
          clear c1 c2 hS hE k3
          go_enter Try.func33, Try.ntmps33
          go_wp2_with fail
          refine (C1.out).mono ?_
          rintro e w1 ⟨rfl, hd_w1⟩
          have HW1 : Hid (Dr _ w1) := hd_w1
          clear hd_w1
          go_wp2_with fail
          refine (C2.out _ HW1.out).mono ?_
          rintro e2 w2 ⟨rfl, hd2⟩
          have HW : Hid (Dr w w2) := HW1.out.trans hd2
          clear hd2 HW1
          go_wp2
          go_ret
          exact ⟨by rw [HV.out]; rfl, HW.out.below _⟩
      · have h3n : decide (3 < d.length) = true := decide_eq_true (by omega)
        have h3i : decide ((3 : Int) < (d.length : Int)) = true := decide_eq_true (by omega)
        have HV := Lib.hid <| usV_no (d := d) (e := e) fun h => h3 h.a3
        clear c1 c2 hS hE h3
        go_enter Try.func33, Try.ntmps33
        go_wp2_with fail
        refine (C1.out).mono ?_
        rintro e w1 ⟨rfl, hd_w1⟩
        have HW1 : Hid (Dr _ w1) := hd_w1
        clear hd_w1
        go_wp2_with fail
        refine (C2.out _ HW1.out).mono ?_
        rintro e2 w2 ⟨rfl, hd2⟩
        have HW : Hid (Dr w w2) := HW1.out.trans hd2
        clear hd2 HW1
        go_wp2
        go_ret
        exact ⟨by rw [HV.out]; rfl, HW.out.below _⟩
    · simp only [decP_no hE] at c2
      have C2 := Lib.hid <| c2
      have HV := Lib.hid <| usV_no (d := d) (e := e) fun h => hE h.b
      clear c1 c2 hS hE
      go_enter Try.func33, Try.ntmps33
      go_wp2_with fail
      refine (C1.out).mono ?_
      rintro e w1 ⟨rfl, hd_w1⟩
      have HW1 : Hid (Dr _ w1) := hd_w1
      clear hd_w1
      go_wp2_with fail
      refine (C2.out _ HW1.out).mono ?_
      rintro e2 w2 ⟨rfl, hd2⟩
      have HW : Hid (Dr w w2) := HW1.out.trans hd2
      clear hd2 HW1
      go_wp2
      go_ret
      exact ⟨by rw [HV.out]; rfl, HW.out.below _⟩
  · rw [decP_no hS] at c1
    have C1 := Lib.hid <| c1
    have HV := Lib.hid <| usV_no (d := d) (e := e) fun h => hS h.a
    clear c1 c2 hS
    go_enter Try.func33, Try.ntmps33
    go_wp2_with fail
    refine (C1.out).mono ?_
    rintro e w1 ⟨rfl, hd_w1⟩
    have HW : Hid (Dr _ w1) := hd_w1
    clear hd_w1
    go_wp2
    go_ret
    exact ⟨by rw [HV.out]; rfl, HW.out.below _⟩

end Go.Proofs.Ytclffncimaigfaa
