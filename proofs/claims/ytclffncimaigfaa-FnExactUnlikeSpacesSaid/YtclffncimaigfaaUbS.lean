/- What spec.UnlikeBy returns. Conditions: as each theorem says. -/
import Derived.Test.YtclffncimaigfaaUbLaw
import Derived.Test.YtclffncimaigfaaFar
import Derived.StillTailTactics
namespace Go.Proofs.Ytclffncimaigfaa
set_option linter.unusedVariables false
set_option linter.unusedSimpArgs false
open Go.RowKit Go.Deep

/-- Rows, opened for reading. -/
structure POpen (w : World) (b : Nat) (BP CP : Nat → Nat) (ps : List (List Int)) : Prop where
  top : ∀ i, i < ps.length → w.cell? ⟨b, i, none⟩ = some (.slice (some ⟨BP i, 0, none⟩) (row ps i).length (CP i))
  cell : ∀ i j, i < ps.length → j < (row ps i).length → w.cell? ⟨BP i, j, none⟩ = some (.int .i64 (at2 ps i j))
theorem POpen.dr {w w' : World} {b : Nat} {BP CP : Nat → Nat} {ps : List (List Int)} (h : POpen w b BP CP ps) (hd : Dr w w') : POpen w' b BP CP ps :=
  ⟨fun i hi => (hd.cell _).trans (h.top i hi), fun i j hi hj => (hd.cell _).trans (h.cell i j hi hj)⟩
theorem POpen.keep {w w' : World} {b : Nat} {BP CP : Nat → Nat} {ps : List (List Int)} (h : POpen w b BP CP ps) (hb : Below w.heap.size w w') : POpen w' b BP CP ps :=
  ⟨fun i hi => (hb.cell (p := ⟨b, i, none⟩) (World.block_lt_of_cell? w _ (h.top i hi))).trans (h.top i hi), fun i j hi hj => (hb.cell (p := ⟨BP i, j, none⟩) (World.block_lt_of_cell? w _ (h.cell i j hi hj))).trans (h.cell i j hi hj)⟩
theorem MMem.popen {lo hi : Nat} {w : World} {v : Value} {ps : List (List Int)} (h : MMem lo hi w v ps) : ∃ (b cap : Nat) (BP CP : Nat → Nat), v = .slice (some ⟨b, 0, none⟩) ps.length cap ∧ POpen w b BP CP ps := by
  obtain ⟨b, cap, BB, CC, rfl, k1, k2, k3, hm1, hm2, hc, hr, hcc, _⟩ := h.open
  exact ⟨b, cap, BB, CC, rfl, fun i hi => hc i hi, fun i j hi hj => hcc i hi j hj⟩

theorem max3 {m x : Int} : (if (if m < x then x else m) < -x then -x else if m < x then x else m) = max (max m x) (-x) := by
  by_cases h : m < x
  · simp only [h, if_true]; split <;> omega
  · simp only [h, if_false]; split <;> omega

set_option maxRecDepth 100000 in
set_option maxHeartbeats 4000000 in
theorem specUnlikeBy_any (lo hi lo' hi' lo2 hi2 : Nat) (v u x : Value) (d e ps : List (List Int)) (w : World) (hd : MMem lo hi w v d) (he : MMem lo' hi' w u e) (hp : MMem lo2 hi2 w x ps) :
    Calls Try.prog 31 #[v, u, x] w (Quiet (.int .i64 (ubV d e ps)) w) := by
  have c1 := specSpaceOk_any lo hi v d w hd
  have c2 : ∀ w', Dr w w' → Calls Try.prog 23 #[u] w' (Quiet (.bool (decP (Space e))) w') := fun w' h => specSpaceOk_any lo' hi' u e w' (he.dr h)
  obtain ⟨pbb, pc, BP, CP, rfl, hPO⟩ := hp.popen
  by_cases hS : Space d
  · rw [decP_yes hS] at c1
    have C1 := Lib.hid <| c1
    by_cases hE : Space e
    · simp only [decP_yes hE] at c2
      have C2 := Lib.hid <| c2
      obtain ⟨db, dc, DB, DC, rfl, hO⟩ := hd.space hS
      obtain ⟨eb, ec, EB, EC, rfl, hOe⟩ := he.space hE
      have hs6 := hS.six
      have hS1 := Lib.hid hS.one
      have hE1 := Lib.hid hE.one
      have he6 := hE.six
      have HO := Lib.hid <| hO
      have HOE := Lib.hid <| hOe
      have HPO := Lib.hid <| hPO
      by_cases h9 : ps.length ≤ 9
      · have h9n : decide (9 < ps.length) = false := decide_eq_false (by omega)
        have h9i : decide ((9 : Int) < (ps.length : Int)) = false := decide_eq_false (by omega)
        have HUB : Hid (∀ (hk : ∀ q, q < ps.length → PairOk d e (row ps q)) (ha : ∀ i, i < d.length → CovA ps ps.length i) (hb : ∀ i, i < e.length → CovB ps ps.length i), UbOk d e ps) := fun hk ha hb => ⟨hS, hE, h9, hk, ha, hb⟩
        have HNO : Hid (∀ q, q < ps.length → ¬ PairOk d e (row ps q) → ubV d e ps = -1) := fun q hq hn => ubV_no fun h => hn (h.ok q hq)
        have HM0 : Hid (MaskP 0 (CovA ps 0)) := mask_zero.congr fun i => covA_zero
        have HN0 : Hid (MaskP 0 (CovB ps 0)) := mask_zero.congr fun i => covB_zero
        have HK0 : Hid (∀ q, q < 0 → PairOk d e (row ps q)) := fun q hq => absurd hq (by omega)
        clear c1 c2 hd he hp hO hOe hPO hS hE
        go_enter Try.func31, Try.ntmps31
        go_wp2_with fail
        refine (C1.out).mono ?_
        rintro e w1 ⟨rfl, hd_w1⟩
        have HW1 : Hid (Dr _ w1) := hd_w1
        clear hd_w1
        go_wp2_with fail
        refine (C2.out _ HW1.out).mono ?_
        rintro e2 w2 ⟨rfl, hd2⟩
        have HW : Hid (Dr w w2) := HW1.out.trans hd2
        clear hd2 HW1 C1 C2
        go_wp2
        go_loopw [7, 8, 9] (fun lv rv kv wr => ∃ (k : Nat) (L R : Int), k ≤ ps.length ∧ kv = .int .i64 k ∧ lv = .int .i64 L ∧ rv = .int .i64 R ∧ Hid (MaskP L (CovA ps k)) ∧ Hid (MaskP R (CovB ps k)) ∧ Hid (∀ q, q < k → PairOk d e (row ps q)) ∧ Hid (Dr w wr)) (fun _ _ kv _ => ps.length - (intOf kv).toNat)
        case atStart => exact ⟨0, 0, 0, Nat.zero_le _, rfl, rfl, rfl, HM0, HN0, HK0, HW⟩
        case round =>
          clear HM0 HN0 HK0 HW h9n h9i
          obtain ⟨k, L, R, hk, rfl, rfl, rfl, HM, HN, HK, HW⟩ := hrel
          by_cases hkl : k < ps.length
          · have hki : (k : Int) < (ps.length : Int) := by omega
            have c1 := (HPO.out.dr HW.out).top k hkl
            by_cases h2 : (row ps k).length = 2
            · rw [h2] at c1
              have g0 := (HPO.out.dr HW.out).cell k 0 hkl (by omega)
              by_cases hA : 0 ≤ at2 ps k 0 ∧ at2 ps k 0 ≤ (d.length : Int) - 1
              · go_wp2_with fail
                refine (l1In_yes _ _ _ _ hA.1 hA.2).mono ?_
                rintro e3 w3 ⟨rfl, hd3⟩
                have HW3 : Hid (Dr w w3) := HW.out.trans hd3
                have c1 := (HPO.out.dr HW3.out).top k hkl
                rw [h2] at c1
                have g1 := (HPO.out.dr HW3.out).cell k 1 hkl (by omega)
                clear hd3 HW g0
                by_cases hB : 0 ≤ at2 ps k 1 ∧ at2 ps k 1 ≤ (e.length : Int) - 1
                · go_wp2_with fail
                  refine (l1In_yes _ _ _ _ hB.1 hB.2).mono ?_
                  rintro e4 w4 ⟨rfl, hd4⟩
                  have HW4 : Hid (Dr w w4) := HW3.out.trans hd4
                  have c1 := (HPO.out.dr HW4.out).top k hkl
                  rw [h2] at c1
                  have g0 := (HPO.out.dr HW4.out).cell k 0 hkl (by omega)
                  have g1 := (HPO.out.dr HW4.out).cell k 1 hkl (by omega)
                  have hok : PairOk d e (row ps k) := ⟨h2, hA.1, by have : iat (row ps k) 0 = at2 ps k 0 := rfl; omega, hB.1, by have : iat (row ps k) 1 = at2 ps k 1 := rfl; omega⟩
                  obtain ⟨p1, p2, p3, p4⟩ := pair_pa hok
                  have q1 : at2 ps k 0 = ((pa ps k : Nat) : Int) := p1.symm
                  have q2 : at2 ps k 1 = ((pb ps k : Nat) : Int) := p3.symm
                  rw [q1] at g0
                  rw [q2] at g1
                  have HM2 : Hid (MaskP (bits BinOp.or IntKind.i64 L (2 ^ pa ps k)) (CovA ps (k + 1))) := (mask_or HM.out (by omega)).congr fun i => covA_succ
                  have HN2 : Hid (MaskP (bits BinOp.or IntKind.i64 R (2 ^ pb ps k)) (CovB ps (k + 1))) := (mask_or HN.out (by omega)).congr fun i => covB_succ
                  have HK2 : Hid (∀ q, q < k + 1 → PairOk d e (row ps q)) := fun q hq => by
                    by_cases e : q < k
                    · exact HK.out q e
                    · have : q = k := by omega
                      subst this; exact hok
                  have hw1 : wrap64 (2 ^ pa ps k) = 2 ^ pa ps k := wrap_pow (by omega)
                  have hw2 : wrap64 (2 ^ pb ps k) = 2 ^ pb ps k := wrap_pow (by omega)
                  have m1 := HM.out.1
                  have m2 := HM.out.2.1
                  have m3 := HN.out.1
                  have m4 := HN.out.2.1
                  clear hok p1 p3 q1 q2 hA hB hd4 HW3 HM HN HK h2
                  go_wp2
                  go_roundw
                  case rel => exact ⟨k + 1, _, _, by omega, by go_num, rfl, rfl, HM2, HN2, HK2, HW4⟩
                  case measure => simp [intOf]; omega
                · have HV := Lib.hid (HNO.out k hkl fun h => hB ⟨h.b0, by have := h.b1; have : iat (row ps k) 1 = at2 ps k 1 := rfl; omega⟩)
                  go_wp2_with fail
                  refine (l1In_no _ _ _ _ hB).mono ?_
                  rintro e4 w4 ⟨rfl, hd4⟩
                  have HW : Hid (Dr w w4) := HW3.out.trans hd4
                  clear hd4 HW3
                  go_wp2
                  go_ret
                  exact ⟨by rw [HV.out]; rfl, HW.out⟩
              · have HV := Lib.hid (HNO.out k hkl fun h => hA ⟨h.a0, by have := h.a1; have : iat (row ps k) 0 = at2 ps k 0 := rfl; omega⟩)
                go_wp2_with fail
                refine (l1In_no _ _ _ _ hA).mono ?_
                rintro e3 w3 ⟨rfl, hd3⟩
                have HW3 : Hid (Dr w w3) := HW.out.trans hd3
                clear hd3 HW
                have HW := HW3
                clear HW3
                go_wp2
                go_ret
                exact ⟨by rw [HV.out]; rfl, HW.out⟩
            · have HV := Lib.hid (HNO.out k hkl fun h => h2 h.two)
              have h2b : (((row ps k).length : Int) != 2) = true := by simpa using (show ¬ ((row ps k).length : Int) = 2 by omega)
              go_wp2
              go_ret
              exact ⟨by rw [HV.out]; rfl, HW.out⟩
          · have hke : k = ps.length := by omega
            subst hke
            have hp1 := pow_bd hS1.out hs6
            have hp2 := pow_bd hE1.out he6
            have hw1 := wrap_pow hs6
            have hw2 := wrap_pow he6
            have hma := mask_all HM.out hs6 fun i ⟨q, hq, e⟩ => by rw [← e]; exact (pair_pa (HK.out q hq)).2.1
            have hmb := mask_all HN.out he6 fun i ⟨q, hq, e⟩ => by rw [← e]; exact (pair_pa (HK.out q hq)).2.2.2
            by_cases hA : L = 2 ^ d.length - 1
            · have hAb : (L != 2 ^ d.length - 1) = false := by simpa using hA
              by_cases hB : R = 2 ^ e.length - 1
              · have hBb : (R != 2 ^ e.length - 1) = false := by simpa using hB
                have HU : Hid (UbOk d e ps) := HUB.out HK.out (hma.1 hA) (hmb.1 hB)
                clear hma hmb hA hB HM HN HK HUB HNO
                have hD : Hid (∀ k j, k < ps.length → j < ps.length → -60 ≤ dd d e ps k j ∧ dd d e ps k j ≤ 60) := fun k j hk hj => dd_bd HU.out hk hj
                have HP : Hid (∀ k, k < ps.length → (row ps k).length = 2 ∧ at2 ps k 0 = ((pa ps k : Nat) : Int) ∧ pa ps k < d.length ∧ at2 ps k 1 = ((pb ps k : Nat) : Int) ∧ pb ps k < e.length) := fun k hk => by
                  have h := HU.out.ok k hk
                  obtain ⟨p1, p2, p3, p4⟩ := pair_pa h
                  exact ⟨h.two, p1.symm, p2, p3.symm, p4⟩
                have HV := Lib.hid <| ubV_yes HU.out
                have H0 : Hid (0 ≤ ubK (dd d e ps) id 0 0 ∧ ubK (dd d e ps) id 0 0 ≤ 60) := by show (0 : Int) ≤ 0 ∧ (0 : Int) ≤ 60; omega
                clear HU
                go_wp2
                go_loopw [10, 11] (fun mv kv wr => ∃ k : Nat, k ≤ ps.length ∧ kv = .int .i64 k ∧ mv = .int .i64 (ubK (dd d e ps) id 0 k) ∧ Hid (0 ≤ ubK (dd d e ps) id 0 k ∧ ubK (dd d e ps) id 0 k ≤ 60) ∧ Hid (Dr w wr)) (fun _ kv _ => ps.length - (intOf kv).toNat)
                case atStart => exact ⟨0, Nat.zero_le _, rfl, rfl, H0, HW⟩
                case round =>
                  clear H0 HW
                  obtain ⟨k, hk, rfl, rfl, HG, HW⟩ := hrel
                  by_cases hkl : k < ps.length
                  · have hki : (k : Int) < (ps.length : Int) := by omega
                    go_wp2
                    go_loopw [10, 12] (fun mv jv wr => ∃ j : Nat, j ≤ k ∧ jv = .int .i64 j ∧ mv = .int .i64 (ubJ (dd d e ps) k (ubK (dd d e ps) id 0 k) j) ∧ Hid (0 ≤ ubJ (dd d e ps) k (ubK (dd d e ps) id 0 k) j ∧ ubJ (dd d e ps) k (ubK (dd d e ps) id 0 k) j ≤ 60) ∧ Hid (Dr w wr)) (fun _ jv _ => k - (intOf jv).toNat)
                    case atStart => exact ⟨0, Nat.zero_le _, rfl, rfl, HG, HW⟩
                    case round =>
                      clear HG HW
                      obtain ⟨j, hj, rfl, rfl, HG, HW⟩ := hrel
                      by_cases hjk : j < k
                      · have hji : (j : Int) < (k : Int) := by omega
                        have hjl : j < ps.length := by omega
                        obtain ⟨p1, p2, p3, p4, p5⟩ := HP.out k hkl
                        obtain ⟨q1, q2, q3, q4, q5⟩ := HP.out j hjl
                        have c1 := (HPO.out.dr HW.out).top k hkl
                        have c2 := (HPO.out.dr HW.out).top j hjl
                        rw [p1] at c1
                        rw [q1] at c2
                        have c3 := (HPO.out.dr HW.out).cell k 0 hkl (by omega)
                        have c4 := (HPO.out.dr HW.out).cell k 1 hkl (by omega)
                        have c5 := (HPO.out.dr HW.out).cell j 0 hjl (by omega)
                        have c6 := (HPO.out.dr HW.out).cell j 1 hjl (by omega)
                        rw [p2] at c3
                        rw [p4] at c4
                        rw [q2] at c5
                        rw [q4] at c6
                        have c7 := (HO.out.dr HW.out).top _ p3
                        have c8 := (HO.out.dr HW.out).cell _ _ p3 q3
                        have c9 := (HOE.out.dr HW.out).top _ p5
                        have c10 := (HOE.out.dr HW.out).cell _ _ p5 q5
                        have b1 := HO.out.bd _ _ p3 q3
                        have b2 := HOE.out.bd _ _ p5 q5
                        have e1 : IntKind.i64.wrap (at2 d (pa ps k) (pa ps j) - at2 e (pb ps k) (pb ps j)) = dd d e ps k j := IntWalk.i64_in _ (by omega)
                        have HS := Lib.hid (ubJ_succ (dd d e ps) k (ubK (dd d e ps) id 0 k) j)
                        clear p1 p2 p4 q1 q2 q4
                        go_wp2_with fail
                        go_quiet (fail)
                        clear c1 c2 c3 c4 c5 c6 c7 c8 c9 c10 b1 b2 e1 p3 p5 q3 q5
                        obtain ⟨d1, d2⟩ := hD.out k j hkl hjl
                        obtain ⟨g1, g2⟩ := HG.out
                        generalize dd d e ps k j = x at *
                        generalize ubJ (dd d e ps) k (ubK (dd d e ps) id 0 k) j = m at *
                        have HG2 : Hid (0 ≤ ubJ (dd d e ps) k (ubK (dd d e ps) id 0 k) (j + 1) ∧ ubJ (dd d e ps) k (ubK (dd d e ps) id 0 k) (j + 1) ≤ 60) := by
                          show 0 ≤ _ ∧ _ ≤ _
                          rw [HS.out]
                          omega
                        go_wp2
                        go_roundw
                        case rel => exact ⟨j + 1, by omega, by go_num, by rw [HS.out, max3], HG2, HW.out.more _⟩
                        case measure => simp [intOf]; omega
                      · have hke : j = k := by omega
                        subst hke
                        have HS := Lib.hid (ubK_succ (dd d e ps) id 0 j)
                        have HG2 : Hid (0 ≤ ubK (dd d e ps) id 0 (j + 1) ∧ ubK (dd d e ps) id 0 (j + 1) ≤ 60) := HG
                        clear HG
                        go_wp2
                        go_roundw
                        case rel => exact ⟨j + 1, by omega, by go_num, by rw [HS.out]; rfl, HG2, HW⟩
                        case measure => simp [intOf]; omega
                  · have hke : k = ps.length := by omega
                    subst hke
                    go_wp2
                    go_ret
                    exact ⟨by rw [HV.out]; rfl, HW.out⟩
              · have hBb : (R != 2 ^ e.length - 1) = true := by simpa using hB
                have HV := Lib.hid <| ubV_no (d := d) (e := e) (ps := ps) fun h => hB (hmb.2 h.cb)
                clear hma hmb hA hB HM HN HK HUB HNO
                go_wp2
                go_ret
                exact ⟨by rw [HV.out]; rfl, HW.out⟩
            · have hAb : (L != 2 ^ d.length - 1) = true := by simpa using hA
              have HV := Lib.hid <| ubV_no (d := d) (e := e) (ps := ps) fun h => hA (hma.2 h.ca)
              clear hma hmb hA HM HN HK HUB HNO
              go_wp2
              go_ret
              exact ⟨by rw [HV.out]; rfl, HW.out⟩
      · have h9n : decide (9 < ps.length) = true := decide_eq_true (by omega)
        have h9i : decide ((9 : Int) < (ps.length : Int)) = true := decide_eq_true (by omega)
        have HV := Lib.hid <| ubV_no (d := d) (e := e) (ps := ps) fun h => h9 h.nine
        clear c1 c2 hd he hp hO hOe hPO hS hE h9
        go_enter Try.func31, Try.ntmps31
        go_wp2_with fail
        refine (C1.out).mono ?_
        rintro e w1 ⟨rfl, hd_w1⟩
        have HW1 : Hid (Dr _ w1) := hd_w1
        clear hd_w1
        go_wp2_with fail
        refine (C2.out _ HW1.out).mono ?_
        rintro e2 w2 ⟨rfl, hd2⟩
        have HW : Hid (Dr w w2) := HW1.out.trans hd2
        clear hd2 HW1
        go_wp2
        go_ret
        exact ⟨by rw [HV.out]; rfl, HW.out⟩
    · simp only [decP_no hE] at c2
      have C2 := Lib.hid <| c2
      have HV := Lib.hid <| ubV_no (d := d) (e := e) (ps := ps) fun h => hE h.b
      obtain ⟨db, dc, _, _, rfl, _⟩ := hd.open
      obtain ⟨eb, ec, _, _, rfl, _⟩ := he.open
      clear c1 c2 hd he hp hPO hS hE
      go_enter Try.func31, Try.ntmps31
      go_wp2_with fail
      refine (C1.out).mono ?_
      rintro e w1 ⟨rfl, hd_w1⟩
      have HW1 : Hid (Dr _ w1) := hd_w1
      clear hd_w1
      go_wp2_with fail
      refine (C2.out _ HW1.out).mono ?_
      rintro e2 w2 ⟨rfl, hd2⟩
      have HW : Hid (Dr w w2) := HW1.out.trans hd2
      clear hd2 HW1
      go_wp2
      go_ret
      exact ⟨by rw [HV.out]; rfl, HW.out⟩
  · rw [decP_no hS] at c1
    have C1 := Lib.hid <| c1
    have HV := Lib.hid <| ubV_no (d := d) (e := e) (ps := ps) fun h => hS h.a
    obtain ⟨db, dc, _, _, rfl, _⟩ := hd.open
    obtain ⟨eb, ec, _, _, rfl, _⟩ := he.open
    clear c1 c2 hd he hp hPO hS
    go_enter Try.func31, Try.ntmps31
    go_wp2_with fail
    refine (C1.out).mono ?_
    rintro e w1 ⟨rfl, hd_w1⟩
    have HW : Hid (Dr _ w1) := hd_w1
    clear hd_w1
    go_wp2
    go_ret
    exact ⟨by rw [HV.out]; rfl, HW.out⟩

end Go.Proofs.Ytclffncimaigfaa
