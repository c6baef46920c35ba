/- What slices.Contains of bools, impl.unlikeBy and impl.UnlikeBy return. Conditions: as each theorem says. -/
import Derived.Test.YtclffncimaigfaaUbS
namespace Go.Proofs.Ytclffncimaigfaa
set_option linter.unusedVariables false
set_option linter.unusedSimpArgs false
open Go.RowKit Go.Deep

theorem info_bool : (Try.prog.info? 4).map (fun i => (i.zero, i.size, i.bytes)) = some (some (.bool false), 1, 1) := by kernel_rfl

def IdxB (n : Nat) (F : Nat → Bool) (w : World) (e : Ending) (w' : World) : Prop := ∃ r : Int, e = .returned (.int .i64 r) ∧ (0 ≤ r ↔ ∃ i, i < n ∧ F i = false) ∧ Dr w w'
set_option maxHeartbeats 400000 in
theorem boolsIndex_any (b n : Nat) (F : Nat → Bool) (w : World) (hn : n ≤ 6) (h : w.rowIs b 4 n (fun i => .bool (F i))) :
    Calls Try.prog 76 #[.slice (some ⟨b, 0, none⟩) n n, .bool false] w (IdxB n F w) := by
  have hc : ∀ i, i < n → w.cell? ⟨b, i, none⟩ = some (.bool (F i)) := fun i hi => h.cell hi
  have HC := Lib.hid <| hc
  clear hc h
  go_enter Try.func76, Try.ntmps76
  go_wp2
  go_loopw [8] (fun i wr => ∃ k : Nat, k ≤ n ∧ i = .int .i64 k ∧ Hid (Dr w wr) ∧ Hid (∀ j, j < k → F j = true)) (fun i _ => n - (intOf i).toNat)
  case atStart => exact ⟨0, Nat.zero_le _, rfl, Dr.refl _, fun j hj => absurd hj (by omega)⟩
  case round =>
    obtain ⟨k, hk, rfl, HW, HJ⟩ := hrel
    by_cases hlt : k < n
    · have hcell := (HW.out.cell _).trans (HC.out k hlt)
      by_cases he : F k = false
      · rw [he] at hcell
        have HY : Hid (∃ i, i < n ∧ F i = false) := ⟨k, hlt, he⟩
        clear he
        go_wp2
        go_ret
        exact ⟨k, rfl, ⟨fun _ => HY.out, fun _ => by omega⟩, HW.out⟩
      · have he2 : F k = true := by simpa using he
        rw [he2] at hcell
        have HJ2 : Hid (∀ j, j < k + 1 → F j = true) := by
          intro j hj
          by_cases e : j < k
          · exact HJ.out j e
          · have : j = k := by omega
            subst this; exact he2
        clear he he2
        go_wp2
        go_roundw
        case rel => exact ⟨k + 1, by omega, by go_num, HW, HJ2⟩
        case measure => simp [intOf]; omega
    · have hke : k = n := by omega
      have HN : Hid (¬ ∃ i, i < n ∧ F i = false) := fun ⟨i, hi, e⟩ => by
        have := HJ.out i (by omega)
        rw [e] at this
        exact absurd this (by decide)
      go_wp2
      go_ret
      exact ⟨-1, rfl, ⟨fun h => absurd h (by decide), fun h => absurd h HN.out⟩, HW.out⟩

set_option maxHeartbeats 400000 in
theorem boolsContains_any (b n : Nat) (F : Nat → Bool) (w : World) (hn : n ≤ 6) (h : w.rowIs b 4 n (fun i => .bool (F i))) :
    Calls Try.prog 62 #[.slice (some ⟨b, 0, none⟩) n n, .bool false] w (Quiet (.bool (decP (∃ i, i < n ∧ F i = false))) w) := by
  have hc := boolsIndex_any b n F w hn h
  have HC := Lib.hid <| hc
  clear hc h
  by_cases hx : ∃ i, i < n ∧ F i = false
  · have HY := Lib.hid <| decP_yes hx
    have HX := Lib.hid hx
    clear hx
    go_enter Try.func62, Try.ntmps62
    go_wp2_with fail
    refine HC.out.mono ?_
    rintro e w1 ⟨r, rfl, hr, hd⟩
    have hr1 : 0 ≤ r := hr.2 HX.out
    have HD := Lib.hid hd
    clear hr hd
    go_wp2
    go_ret
    exact ⟨by rw [HY.out]; rfl, HD.out⟩
  · have HY := Lib.hid <| decP_no hx
    have HX := Lib.hid hx
    clear hx
    go_enter Try.func62, Try.ntmps62
    go_wp2_with fail
    refine HC.out.mono ?_
    rintro e w1 ⟨r, rfl, hr, hd⟩
    have hr1 : r < 0 := by
      by_cases h : 0 ≤ r
      · exact absurd (hr.1 h) HX.out
      · omega
    have hr2 : decide (0 ≤ r) = false := by simpa using hr1
    have HD := Lib.hid hd
    clear hr hd
    go_wp2
    go_ret
    exact ⟨by rw [HY.out]; rfl, HD.out⟩

set_option maxRecDepth 100000 in
set_option maxHeartbeats 4000000 in
theorem unlikeBy_any (d e ps : List (List Int)) (pbb pc db dc eb ec : Nat) (BP CP DB DC EB EC : Nat → Nat) (w : World) (hO : SOpen w db DB DC d) (hOe : SOpen w eb EB EC e) (hPO : POpen w pbb BP CP ps) (hU : UbOk d e ps) :
    Calls Try.prog 63 #[.slice (some ⟨db, 0, none⟩) d.length dc, .slice (some ⟨eb, 0, none⟩) e.length ec, .slice (some ⟨pbb, 0, none⟩) ps.length pc] w (Quiet (.int .i64 (ubV d e ps)) w) := by
  have hV : ubK (dd d e ps) (fun _ => ps.length) 0 ps.length = ubV d e ps := by rw [ubV_yes hU]; exact ub_eq hU
  have HV := Lib.hid <| hV
  have HO := Lib.hid <| hO
  have HOE := Lib.hid <| hOe
  have HPO := Lib.hid <| hPO
  have h9 := hU.nine
  have hs6 := hU.a.six
  have he6 := hU.b.six
  have HD : Hid (∀ k j, k < ps.length → j < ps.length → -60 ≤ dd d e ps k j ∧ dd d e ps k j ≤ 60) := fun k j hk hj => dd_bd hU hk hj
  have HP : Hid (∀ k, k < ps.length → (row ps k).length = 2 ∧ at2 ps k 0 = ((pa ps k : Nat) : Int) ∧ pa ps k < d.length ∧ at2 ps k 1 = ((pb ps k : Nat) : Int) ∧ pb ps k < e.length) := fun k hk => by
    have h := hU.ok k hk
    obtain ⟨p1, p2, p3, p4⟩ := pair_pa h
    exact ⟨h.two, p1.symm, p2, p3.symm, p4⟩
  have H0 : Hid (0 ≤ ubK (dd d e ps) (fun _ => ps.length) 0 0 ∧ ubK (dd d e ps) (fun _ => ps.length) 0 0 ≤ 60) := by show (0 : Int) ≤ 0 ∧ (0 : Int) ≤ 60; omega
  clear hV hO hOe hPO hU
  go_enter Try.func63, Try.ntmps63
  go_wp2
  go_loopw [7, 14] (fun mv kv wr => ∃ k : Nat, k ≤ ps.length ∧ kv = .int .i64 k ∧ mv = .int .i64 (ubK (dd d e ps) (fun _ => ps.length) 0 k) ∧ Hid (0 ≤ ubK (dd d e ps) (fun _ => ps.length) 0 k ∧ ubK (dd d e ps) (fun _ => ps.length) 0 k ≤ 60) ∧ Hid (Dr w wr)) (fun _ kv _ => ps.length - (intOf kv).toNat)
  case atStart => exact ⟨0, Nat.zero_le _, rfl, rfl, H0, Dr.refl _⟩
  case round =>
    clear H0
    obtain ⟨k, hk, rfl, rfl, HG, HW⟩ := hrel
    by_cases hkl : k < ps.length
    · have hki : (k : Int) < (ps.length : Int) := by omega
      obtain ⟨p1, p2, p3, p4, p5⟩ := HP.out k hkl
      have c1 := (HPO.out.dr HW.out).top k hkl
      rw [p1] at c1
      clear p1 p2 p3 p4 p5
      go_wp2
      clear c1
      go_loopw [7, 20] (fun mv jv wr => ∃ j : Nat, j ≤ ps.length ∧ jv = .int .i64 j ∧ mv = .int .i64 (ubJ (dd d e ps) k (ubK (dd d e ps) (fun _ => ps.length) 0 k) j) ∧ Hid (0 ≤ ubJ (dd d e ps) k (ubK (dd d e ps) (fun _ => ps.length) 0 k) j ∧ ubJ (dd d e ps) k (ubK (dd d e ps) (fun _ => ps.length) 0 k) j ≤ 60) ∧ Hid (Dr w wr)) (fun _ jv _ => ps.length - (intOf jv).toNat)
      case atStart => exact ⟨0, Nat.zero_le _, rfl, rfl, HG, HW⟩
      case round =>
        clear HG HW
        obtain ⟨j, hj, rfl, rfl, HG, HW⟩ := hrel
        by_cases hjl : j < ps.length
        · have hji : (j : Int) < (ps.length : Int) := by omega
          obtain ⟨p1, p2, p3, p4, p5⟩ := HP.out k hkl
          obtain ⟨q1, q2, q3, q4, q5⟩ := HP.out j hjl
          have c2 := (HPO.out.dr HW.out).top j hjl
          rw [q1] at c2
          have c3 := (HPO.out.dr HW.out).cell k 0 hkl (by omega)
          have c4 := (HPO.out.dr HW.out).cell k 1 hkl (by omega)
          have c5 := (HPO.out.dr HW.out).cell j 0 hjl (by omega)
          have c6 := (HPO.out.dr HW.out).cell j 1 hjl (by omega)
          rw [p2] at c3
          rw [p4] at c4
          rw [q2] at c5
          rw [q4] at c6
          have c7 := (HO.out.dr HW.out).top _ p3
          have c8 := (HO.out.dr HW.out).cell _ _ p3 q3
          have c9 := (HOE.out.dr HW.out).top _ p5
          have c10 := (HOE.out.dr HW.out).cell _ _ p5 q5
          have b1 := HO.out.bd _ _ p3 q3
          have b2 := HOE.out.bd _ _ p5 q5
          have e1 : IntKind.i64.wrap (at2 d (pa ps k) (pa ps j) - at2 e (pb ps k) (pb ps j)) = dd d e ps k j := IntWalk.i64_in _ (by omega)
          have e2 : IntKind.i64.wrap (at2 e (pb ps k) (pb ps j) - at2 d (pa ps k) (pa ps j)) = - dd d e ps k j := by
            have : at2 e (pb ps k) (pb ps j) - at2 d (pa ps k) (pa ps j) = - dd d e ps k j := by unfold dd; omega
            rw [← this]
            exact IntWalk.i64_in _ (by omega)
          obtain ⟨d1, d2⟩ := HD.out k j hkl hjl
          obtain ⟨g1, g2⟩ := HG.out
          have HS := Lib.hid (ubJ_succ (dd d e ps) k (ubK (dd d e ps) (fun _ => ps.length) 0 k) j)
          clear p1 p2 p4 q1 q2 q4 hki
          generalize dd d e ps k j = x at *
          generalize ubJ (dd d e ps) k (ubK (dd d e ps) (fun _ => ps.length) 0 k) j = m at *
          have HG2 : Hid (0 ≤ ubJ (dd d e ps) k (ubK (dd d e ps) (fun _ => ps.length) 0 k) (j + 1) ∧ ubJ (dd d e ps) k (ubK (dd d e ps) (fun _ => ps.length) 0 k) (j + 1) ≤ 60) := by
            show 0 ≤ _ ∧ _ ≤ _
            rw [HS.out]
            omega
          go_wp2_with fail
          go_quiet (fail)
          clear c2 c3 c4 c5 c6 c7 c8 c9 c10 b1 b2 e1 e2 p3 p5 q3 q5
          go_wp2
          go_roundw
          case rel => exact ⟨j + 1, by omega, by go_num, by rw [HS.out, max3], HG2, HW.out.more _⟩
          case measure => simp [intOf]; omega
        · have hke : j = ps.length := by omega
          subst hke
          have HS := Lib.hid (ubK_succ (dd d e ps) (fun _ => ps.length) 0 k)
          have HG2 : Hid (0 ≤ ubK (dd d e ps) (fun _ => ps.length) 0 (k + 1) ∧ ubK (dd d e ps) (fun _ => ps.length) 0 (k + 1) ≤ 60) := HG
          clear HG
          go_wp2
          go_roundw
          case rel => exact ⟨k + 1, by omega, by go_num, by rw [HS.out], HG2, HW⟩
          case measure => simp [intOf]; omega
    · have hke : k = ps.length := by omega
      subst hke
      go_wp2
      go_ret
      exact ⟨by rw [HV.out]; rfl, HW.out⟩

end Go.Proofs.Ytclffncimaigfaa
