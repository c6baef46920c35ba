/- The greatest gap and its kin, as the reference tells them; UltraOk. Conditions: as each theorem says. -/
import Derived.Test.YtclffncimaigfaaTreeW
namespace Go.Proofs.Ytclffncimaigfaa
set_option linter.unusedVariables false
set_option linter.unusedSimpArgs false
open Go.RowKit Go.Deep

set_option maxRecDepth 100000 in
set_option maxHeartbeats 2000000 in
theorem l4Gap_any (lo hi b c : Nat) (x y z : Int) (w : World) (h : IMem lo hi w (.slice (some ⟨b, 0, none⟩) 3 c) [x, y, z]) (hx : 0 ≤ x ∧ x ≤ 120) (hy : 0 ≤ y ∧ y ≤ 120) (hz : 0 ≤ z ∧ z ≤ 120) :
    Calls Try.prog 82 #[.slice (some ⟨b, 0, none⟩) 3 c] w (Quiet (.int .i64 (gap3 x y z)) w) := by
  have c0 : w.cell? ⟨b, 0, none⟩ = some (.int .i64 x) := h.cellAt (i := 0) (by simp)
  have c1 : w.cell? ⟨b, 1, none⟩ = some (.int .i64 y) := h.cellAt (i := 1) (by simp)
  have c2 : w.cell? ⟨b, 2, none⟩ = some (.int .i64 z) := h.cellAt (i := 2) (by simp)
  clear h
  go_enter Try.func82, Try.ntmps82
  go_wp2_with fail
  go_still_tail 9, (by kernel_rfl)
  change wpList _ _ _ _ _ w.drew
  have hd : Dr w w.drew := ⟨1, rfl⟩
  generalize w.drew = w1 at hd ⊢
  have e0 := (hd.cell _).trans c0
  have e1 := (hd.cell _).trans c1
  have e2 := (hd.cell _).trans c2
  clear c0 c1 c2
  go_wp2_with fail
  all_goals
    go_still_tail 9, (by kernel_rfl)
    change wpList _ _ _ _ _ w1.drew
    have hd2 : Dr w w1.drew := hd.trans ⟨1, rfl⟩
    have hd3 : Dr w1 w1.drew := ⟨1, rfl⟩
    generalize w1.drew = w2 at hd2 hd3 ⊢
    have c0 := (hd3.cell _).trans e0
    have c1 := (hd3.cell _).trans e1
    have c2 := (hd3.cell _).trans e2
    clear e0 e1 e2 hd hd3
    go_wp2_with fail
    all_goals
      go_quiet (fail)
      go_wp2
      go_ret
      refine ⟨?_, hd2.trans ⟨_, rfl⟩⟩
      refine congrArg Ending.returned (congrArg (Value.int IntKind.i64) ?_)
      clear hd2 c0 c1 c2
      unfold gap3
      omega

theorem trip_mk {d : List (List Int)} {a b c e : Nat} {w wd : World} (hd : Dr w wd) :
    TripP d a b c e w (.returned (.slice (some ⟨wd.heap.size, 0, none⟩) 3 3)) (wd.alloc (.cells #[.int .i64 (at2 d a b + at2 d c e), .int .i64 (at2 d a c + at2 d b e), .int .i64 (at2 d a e + at2 d b c)] 3)) := by
  have hs : wd.heap.size = w.heap.size := by rw [hd.heap]
  refine ⟨_, rfl, ?_, (hd.below _).alloc (by omega) _⟩
  have := IMem.triple wd (at2 d a b + at2 d c e) (at2 d a c + at2 d b e) (at2 d a e + at2 d b c)
  exact this.widen (by omega) (by simp)

set_option maxRecDepth 100000 in
set_option maxHeartbeats 2000000 in
theorem specPairSums_any (lo hi db dc : Nat) (BB CC : Nat → Nat) (d : List (List Int)) (a b c e : Nat) (w : World) (hd : MMem lo hi w (.slice (some ⟨db, 0, none⟩) d.length dc) d) (hS : Space d) (hO : SOpen w db BB CC d) (ha : a < d.length) (hb : b < d.length) (hc : c < d.length) (he : e < d.length) :
    Calls Try.prog 81 #[.slice (some ⟨db, 0, none⟩) d.length dc, .int .i64 a, .int .i64 b, .int .i64 c, .int .i64 e] w (TripP d a b c e w) := by
  have cs := specSpaceOk_any lo hi _ d w hd
  rw [decP_yes hS] at cs
  have hsix := hS.six
  have HCS := Lib.hid <| cs
  have HO0 := Lib.hid <| hO
  have HA : Hid (0 ≤ (a : Int) ∧ (a : Int) ≤ (d.length : Int) - 1) := ⟨by omega, by omega⟩
  have HBB : Hid (0 ≤ (b : Int) ∧ (b : Int) ≤ (d.length : Int) - 1) := ⟨by omega, by omega⟩
  have HCC : Hid (0 ≤ (c : Int) ∧ (c : Int) ≤ (d.length : Int) - 1) := ⟨by omega, by omega⟩
  have HEE : Hid (0 ≤ (e : Int) ∧ (e : Int) ≤ (d.length : Int) - 1) := ⟨by omega, by omega⟩
  clear cs hO hd hS
  go_enter Try.func81, Try.ntmps81
  go_wp2_with fail
  refine (HCS.out).mono ?_
  rintro e w1 ⟨rfl, hd_w1⟩
  have HW1 : Hid (Dr _ w1) := hd_w1
  clear hd_w1
  go_wp2_with fail
  refine (l1In_yes _ _ _ _ HA.out.1 HA.out.2).mono ?_
  rintro e w2 ⟨rfl, hd_w2⟩
  have HW2 : Hid (Dr _ w2) := HW1.out.trans hd_w2
  clear hd_w2 HW1
  go_wp2_with fail
  refine (l1In_yes _ _ _ _ HBB.out.1 HBB.out.2).mono ?_
  rintro e w3 ⟨rfl, hd_w3⟩
  have HW3 : Hid (Dr _ w3) := HW2.out.trans hd_w3
  clear hd_w3 HW2
  go_wp2_with fail
  refine (l1In_yes _ _ _ _ HCC.out.1 HCC.out.2).mono ?_
  rintro e w4 ⟨rfl, hd_w4⟩
  have HW4 : Hid (Dr _ w4) := HW3.out.trans hd_w4
  clear hd_w4 HW3
  go_wp2_with fail
  refine (l1In_yes _ _ _ _ HEE.out.1 HEE.out.2).mono ?_
  rintro e w5 ⟨rfl, hd_w5⟩
  have HW5 : Hid (Dr _ w5) := HW4.out.trans hd_w5
  clear hd_w5 HW4
  have HO := Lib.hid (HO0.out.dr HW5.out)
  have c1 := HO.out.top a ha
  have c2 := HO.out.top b hb
  have c3 := HO.out.top c hc
  have c4 := HO.out.cell a b ha hb
  have c5 := HO.out.cell c e hc he
  have c6 := HO.out.cell a c ha hc
  have c7 := HO.out.cell b e hb he
  have c8 := HO.out.cell a e ha he
  have c9 := HO.out.cell b c hb hc
  have b4 := HO.out.bd a b ha hb
  have b5 := HO.out.bd c e hc he
  have b6 := HO.out.bd a c ha hc
  have b7 := HO.out.bd b e hb he
  have b8 := HO.out.bd a e ha he
  have b9 := HO.out.bd b c hb hc
  have hai : (a : Int) < (d.length : Int) := by omega
  have hbi : (b : Int) < (d.length : Int) := by omega
  have hci : (c : Int) < (d.length : Int) := by omega
  have hei : (e : Int) < (d.length : Int) := by omega
  clear HO0
  go_wp2_with fail
  go_still_tail 45, (by kernel_rfl)
  change wpList _ _ _ _ _ w5.drew
  have HD : Hid (Dr w w5.drew) := HW5.out.trans ⟨1, rfl⟩
  generalize w5.drew = wd at HD ⊢
  clear c1 c2 c3 c4 c5 c6 c7 c8 c9 HW5
  go_wp2
  go_ret
  exact trip_mk HD.out

set_option maxHeartbeats 2000000 in
theorem specGapOf_any (lo hi db dc : Nat) (BB CC : Nat → Nat) (d : List (List Int)) (a b c e : Nat) (w : World) (hd : MMem lo hi w (.slice (some ⟨db, 0, none⟩) d.length dc) d) (hS : Space d) (hO : SOpen w db BB CC d) (ha : a < d.length) (hb : b < d.length) (hc : c < d.length) (he : e < d.length) :
    Calls Try.prog 68 #[.slice (some ⟨db, 0, none⟩) d.length dc, .int .i64 a, .int .i64 b, .int .i64 c, .int .i64 e] w (GapP d a b c e w) := by
  have HC := Lib.hid <| specPairSums_any lo hi db dc BB CC d a b c e w hd hS hO ha hb hc he
  have HSB := Lib.hid (s_bd hO ha hb hc he)
  clear hO hd hS
  go_enter Try.func68, Try.ntmps68
  go_wp2_with fail
  refine HC.out.mono ?_
  rintro x w1 ⟨v, rfl, hI, hb1⟩
  obtain ⟨tb, tc, rfl, ht0, ht1, -⟩ := id hI.open
  have HS := Lib.hid <| l4Gap_any _ _ tb tc _ _ _ w1 hI HSB.out.1 HSB.out.2.1 HSB.out.2.2
  have HB1 := Lib.hid hb1
  clear hI hb1 ht0 ht1 HC
  go_wp2_with fail
  refine HS.out.mono ?_
  rintro x w2 ⟨rfl, hd2⟩
  have HB2 : Hid (Below w.heap.size w w2) := below_chain HB1.out (hd2.below _)
  clear hd2 HB1 HS
  go_wp2
  go_ret
  exact ⟨rfl, HB2.out⟩

noncomputable def wgV (d : List (List Int)) : Int := if decP (Space d) then wgF d else -1
theorem wgV_yes {d : List (List Int)} (h : Space d) : wgV d = wgF d := by simp [wgV, decP_yes h]
theorem wgV_no {d : List (List Int)} (h : ¬ Space d) : wgV d = -1 := by simp [wgV, decP_no h]
def TrOk (d : List (List Int)) : Prop := Space d ∧ wgF d = 0
theorem wgV_tr (d : List (List Int)) : (wgV d == 0) = decP (TrOk d) := by
  by_cases h : Space d
  · rw [wgV_yes h]
    by_cases h0 : wgF d = 0
    · rw [decP_yes ⟨h, h0⟩, h0]; rfl
    · rw [decP_no (fun k => h0 k.2)]; simpa using h0
  · rw [wgV_no h, decP_no (fun k => h k.1)]; rfl

set_option maxHeartbeats 1000000 in
theorem implWorstGap_any (lo hi : Nat) (v : Value) (d : List (List Int)) (w : World) (hd : MMem lo hi w v d) : Calls Try.prog 40 #[v] w (Gives (.int .i64 (wgV d)) w) := by
  have cs := isSpace_any lo hi v d w hd
  by_cases hS : Space d
  · rw [decP_yes hS] at cs
    obtain ⟨db, dc, BB, CC, rfl, hO⟩ := hd.space hS
    have hg : ∀ w', Below w.heap.size w w' → Calls Try.prog 66 #[.slice (some ⟨db, 0, none⟩) d.length dc] w' (WgP d w') := fun w' h => worstGap_any d db dc BB CC w' (hO.keep h) hS.six
    have HCS := Lib.hid <| cs
    have HG := Lib.hid <| hg
    have HV := Lib.hid <| wgV_yes hS
    clear cs hg hO hd hS
    go_enter Try.func40, Try.ntmps40
    go_wp2_with fail
    refine (HCS.out).mono ?_
    rintro e w1 ⟨rfl, hd_w1⟩
    have HW1 : Hid (Dr _ w1) := hd_w1
    clear hd_w1
    go_wp2_with fail
    refine (HG.out _ (HW1.out.below _)).mono ?_
    rintro x w2 ⟨rfl, hb2⟩
    have H2 : Hid (Below w.heap.size w w2) := below_chain (HW1.out.below _) hb2
    clear hb2 HW1
    go_wp2
    go_ret
    exact ⟨by rw [HV.out]; rfl, H2.out⟩
  · rw [decP_no hS] at cs
    obtain ⟨db, dc, _, _, rfl, -⟩ := hd.open
    have HCS := Lib.hid <| cs
    have HV := Lib.hid <| wgV_no hS
    clear cs hd hS
    go_enter Try.func40, Try.ntmps40
    go_wp2_with fail
    refine (HCS.out).mono ?_
    rintro e w1 ⟨rfl, hd_w1⟩
    have HW1 : Hid (Dr _ w1) := hd_w1
    clear hd_w1
    go_wp2
    go_ret
    exact ⟨by rw [HV.out]; rfl, HW1.out.below _⟩

set_option maxHeartbeats 1000000 in
theorem implTreeOk_any (lo hi : Nat) (v : Value) (d : List (List Int)) (w : World) (hd : MMem lo hi w v d) : Calls Try.prog 38 #[v] w (Gives (.bool (decP (TrOk d))) w) := by
  have cs := isSpace_any lo hi v d w hd
  have hbr := wgV_tr d
  by_cases hS : Space d
  · rw [decP_yes hS] at cs
    rw [wgV_yes hS] at hbr
    obtain ⟨db, dc, BB, CC, rfl, hO⟩ := hd.space hS
    have hg : ∀ w', Below w.heap.size w w' → Calls Try.prog 66 #[.slice (some ⟨db, 0, none⟩) d.length dc] w' (WgP d w') := fun w' h => worstGap_any d db dc BB CC w' (hO.keep h) hS.six
    have HCS := Lib.hid <| cs
    have HG := Lib.hid <| hg
    have HV := Lib.hid <| hbr
    clear cs hg hO hd hS hbr
    go_enter Try.func38, Try.ntmps38
    go_wp2_with fail
    refine (HCS.out).mono ?_
    rintro e w1 ⟨rfl, hd_w1⟩
    have HW1 : Hid (Dr _ w1) := hd_w1
    clear hd_w1
    go_wp2_with fail
    refine (HG.out _ (HW1.out.below _)).mono ?_
    rintro x w2 ⟨rfl, hb2⟩
    have H2 : Hid (Below w.heap.size w w2) := below_chain (HW1.out.below _) hb2
    clear hb2 HW1
    generalize wgF d = m at *
    go_wp2
    go_ret
    exact ⟨by rw [← HV.out]; rfl, H2.out⟩
  · rw [decP_no hS] at cs
    obtain ⟨db, dc, _, _, rfl, -⟩ := hd.open
    have HCS := Lib.hid <| cs
    have HV : Hid (decP (TrOk d) = false) := decP_no (fun k => hS k.1)
    clear cs hd hS hbr
    go_enter Try.func38, Try.ntmps38
    go_wp2_with fail
    refine (HCS.out).mono ?_
    rintro e w1 ⟨rfl, hd_w1⟩
    have HW1 : Hid (Dr _ w1) := hd_w1
    clear hd_w1
    go_wp2
    go_ret
    exact ⟨by rw [HV.out]; rfl, HW1.out.below _⟩

end Go.Proofs.Ytclffncimaigfaa
