/- What impl.isSet, impl.SetOk, spec.SetOk, impl.toSet, impl.ToSet and spec.ToSet return. Conditions: as each theorem says. -/
import Derived.Test.YtclffncimaigfaaMade
namespace Go.Proofs.Ytclffncimaigfaa
set_option linter.unusedVariables false
set_option linter.unusedSimpArgs false
open Go.RowKit Go.Deep

/-- s tells a set of points. -/
structure SetP (d : List (List Int)) (s : Int) : Prop where
  sp : Space d
  one : 1 ≤ s
  lt : s < 2 ^ d.length

theorem pow_bd {n : Nat} (h1 : 1 ≤ n) (h6 : n ≤ 6) : (2 : Int) ≤ 2 ^ n ∧ (2 : Int) ^ n ≤ 64 := by
  have : n = 1 ∨ n = 2 ∨ n = 3 ∨ n = 4 ∨ n = 5 ∨ n = 6 := by omega
  rcases this with rfl | rfl | rfl | rfl | rfl | rfl <;> decide
theorem pow_bd0 {n : Nat} (h6 : n ≤ 6) : (1 : Int) ≤ 2 ^ n ∧ (2 : Int) ^ n ≤ 64 := by
  have : n = 0 ∨ n = 1 ∨ n = 2 ∨ n = 3 ∨ n = 4 ∨ n = 5 ∨ n = 6 := by omega
  rcases this with rfl | rfl | rfl | rfl | rfl | rfl | rfl <;> decide
theorem wrap_pow {n : Nat} (h6 : n ≤ 6) : wrap64 (2 ^ n) = 2 ^ n := by
  have h := pow_bd0 h6
  generalize (2 : Int) ^ n = x at h
  exact IntWalk.wrap64_in x ⟨by omega, by omega⟩

/-- Point k is in the set s. -/
def hasB (s : Int) (k : Nat) : Prop := s / 2 ^ k % 2 = 1
theorem sh_bd {s : Int} {k : Nat} (h1 : 1 ≤ s) (h2 : s < 64) : 0 ≤ s / 2 ^ k ∧ s / 2 ^ k ≤ 63 := by
  have hp : (1 : Int) ≤ 2 ^ k := by
    have : (0 : Int) < 2 ^ k := Int.pow_pos (by decide)
    omega
  exact ⟨Int.ediv_nonneg (by omega) (by omega), by have := Int.ediv_le_self (2 ^ k) (show 0 ≤ s by omega); omega⟩
theorem and_one {t : Int} (h1 : 0 ≤ t) (h2 : t ≤ 63) : bits BinOp.and IntKind.i64 t 1 = t % 2 := by
  obtain ⟨n, rfl⟩ := Int.eq_ofNat_of_zero_le h1
  have key : ∀ m : Fin 64, bits BinOp.and IntKind.i64 (m.val : Int) 1 = (m.val : Int) % 2 := by decide +kernel
  exact key ⟨n, by omega⟩

set_option maxHeartbeats 400000 in
theorem isSet_any (lo hi : Nat) (v : Value) (d : List (List Int)) (s : Int) (w : World) (hd : MMem lo hi w v d) :
    Calls Try.prog 50 #[v, .int .i64 s] w (Quiet (.bool (decP (SetP d s))) w) := by
  have cs := isSpace_any lo hi v d w hd
  obtain ⟨b, cap, BB, CC, rfl, _⟩ := hd.open
  clear hd
  by_cases hS : Space d
  · rw [decP_yes hS] at cs
    have HCS := Lib.hid <| cs
    have hsix := hS.six
    have hw := wrap_pow hsix
    by_cases h1 : 1 ≤ s
    · by_cases h2 : s < 2 ^ d.length
      · have hb : decide (s < 2 ^ d.length) = true := by simpa using h2
        have HY := Lib.hid <| decP_yes (p := SetP d s) ⟨hS, h1, h2⟩
        clear cs hS h2
        go_enter Try.func50, Try.ntmps50
        go_wp2_with fail
        refine (HCS.out).mono ?_
        rintro e w1 ⟨rfl, hd_w1⟩
        have HW1 : Hid (Dr _ w1) := hd_w1
        clear hd_w1
        go_wp2
        go_ret
        exact ⟨by rw [HY.out]; rfl, HW1.out⟩
      · have hb : decide (s < 2 ^ d.length) = false := by simpa using h2
        have HY := Lib.hid <| decP_no (p := SetP d s) fun h => h2 h.lt
        clear cs hS h2
        go_enter Try.func50, Try.ntmps50
        go_wp2_with fail
        refine (HCS.out).mono ?_
        rintro e w1 ⟨rfl, hd_w1⟩
        have HW1 : Hid (Dr _ w1) := hd_w1
        clear hd_w1
        go_wp2
        go_ret
        exact ⟨by rw [HY.out]; rfl, HW1.out⟩
    · have h1b : decide (1 ≤ s) = false := by simpa using h1
      have HY := Lib.hid <| decP_no (p := SetP d s) fun h => h1 h.one
      clear cs hS
      go_enter Try.func50, Try.ntmps50
      go_wp2_with fail
      refine (HCS.out).mono ?_
      rintro e w1 ⟨rfl, hd_w1⟩
      have HW1 : Hid (Dr _ w1) := hd_w1
      clear hd_w1
      go_wp2
      go_ret
      exact ⟨by rw [HY.out]; rfl, HW1.out⟩
  · rw [decP_no hS] at cs
    have HCS := Lib.hid <| cs
    have HY := Lib.hid <| decP_no (p := SetP d s) fun h => hS h.sp
    clear cs hS
    go_enter Try.func50, Try.ntmps50
    go_wp2_with fail
    refine (HCS.out).mono ?_
    rintro e w1 ⟨rfl, hd_w1⟩
    have HW1 : Hid (Dr _ w1) := hd_w1
    clear hd_w1
    go_wp2
    go_ret
    exact ⟨by rw [HY.out]; rfl, HW1.out⟩

set_option maxHeartbeats 400000 in
theorem implSetOk_any (lo hi : Nat) (v : Value) (d : List (List Int)) (s : Int) (w : World) (hd : MMem lo hi w v d) :
    Calls Try.prog 18 #[v, .int .i64 s] w (Quiet (.bool (decP (SetP d s))) w) := by
  have HC := Lib.hid <| isSet_any lo hi v d s w hd
  obtain ⟨b, cap, BB, CC, rfl, _⟩ := hd.open
  clear hd
  go_enter Try.func18, Try.ntmps18
  go_wp2_with fail
  refine (HC.out).mono ?_
  rintro e w1 ⟨rfl, hd_w1⟩
  have HW1 : Hid (Dr _ w1) := hd_w1
  clear hd_w1
  go_wp2
  go_ret
  exact ⟨rfl, HW1.out⟩

set_option maxHeartbeats 400000 in
theorem specSetOk_any (lo hi : Nat) (v : Value) (d : List (List Int)) (s : Int) (w : World) (hd : MMem lo hi w v d) :
    Calls Try.prog 16 #[v, .int .i64 s] w (Quiet (.bool (decP (SetP d s))) w) := by
  have cs := specSpaceOk_any lo hi v d w hd
  obtain ⟨b, cap, BB, CC, rfl, _⟩ := hd.open
  clear hd
  by_cases hS : Space d
  · rw [decP_yes hS] at cs
    have HCS := Lib.hid <| cs
    have hsix := hS.six
    have hw := wrap_pow hsix
    have hbd := pow_bd hS.one hsix
    by_cases h1 : 1 ≤ s ∧ s ≤ 2 ^ d.length - 1
    · have HY := Lib.hid <| decP_yes (p := SetP d s) ⟨hS, h1.1, by omega⟩
      have HB := Lib.hid <| h1
      clear cs hS h1
      go_enter Try.func16, Try.ntmps16
      go_wp2_with fail
      refine (HCS.out).mono ?_
      rintro e w1 ⟨rfl, hd_w1⟩
      have HW1 : Hid (Dr _ w1) := hd_w1
      clear hd_w1
      go_wp2_with fail
      refine (l1In_yes _ _ _ _ HB.out.1 HB.out.2).mono ?_
      rintro e w2 ⟨rfl, hd_w2⟩
      have HW2 : Hid (Dr _ w2) := HW1.out.trans hd_w2
      clear hd_w2 HW1
      go_wp2
      go_ret
      exact ⟨by rw [HY.out]; rfl, HW2.out⟩
    · have HY := Lib.hid <| decP_no (p := SetP d s) fun h => h1 ⟨h.one, by have := h.lt; omega⟩
      have HB := Lib.hid <| h1
      clear cs hS h1
      go_enter Try.func16, Try.ntmps16
      go_wp2_with fail
      refine (HCS.out).mono ?_
      rintro e w1 ⟨rfl, hd_w1⟩
      have HW1 : Hid (Dr _ w1) := hd_w1
      clear hd_w1
      go_wp2_with fail
      refine (l1In_no _ _ _ _ HB.out).mono ?_
      rintro e w2 ⟨rfl, hd_w2⟩
      have HW2 : Hid (Dr _ w2) := HW1.out.trans hd_w2
      clear hd_w2 HW1
      go_wp2
      go_ret
      exact ⟨by rw [HY.out]; rfl, HW2.out⟩
  · rw [decP_no hS] at cs
    have HCS := Lib.hid <| cs
    have HY := Lib.hid <| decP_no (p := SetP d s) fun h => hS h.sp
    clear cs hS
    go_enter Try.func16, Try.ntmps16
    go_wp2_with fail
    refine (HCS.out).mono ?_
    rintro e w1 ⟨rfl, hd_w1⟩
    have HW1 : Hid (Dr _ w1) := hd_w1
    clear hd_w1
    go_wp2
    go_ret
    exact ⟨by rw [HY.out]; rfl, HW1.out⟩

theorem SetP.sixty {d : List (List Int)} {s : Int} (h : SetP d s) : s < 64 := by
  have := (pow_bd h.sp.one h.sp.six).2
  have := h.lt
  omega

def tsAt (d : List (List Int)) (p : Nat) (s : Int) (k : Nat) : Int := if s / 2 ^ k % 2 = 1 then at2 d p k else 60
def tsF (d : List (List Int)) (p : Nat) (s : Int) : Int := minN (tsAt d p s) 60 d.length
theorem ts_step {d : List (List Int)} {p : Nat} {s : Int} {k : Nat} (h : hasB s k) :
    (if at2 d p k < minN (tsAt d p s) 60 k then at2 d p k else minN (tsAt d p s) 60 k) = minN (tsAt d p s) 60 (k + 1) := by
  have := minN_step (tsAt d p s) 60 k
  have e : tsAt d p s k = at2 d p k := if_pos h
  rwa [e] at this
theorem ts_skip {d : List (List Int)} {p : Nat} {s : Int} {k : Nat} (h : ¬ hasB s k) : minN (tsAt d p s) 60 k = minN (tsAt d p s) 60 (k + 1) := by
  have e : tsAt d p s k = 60 := if_neg h
  have := minN_le_start (tsAt d p s) 60 k
  simp only [minN, e]; omega
theorem tsF_bd {d : List (List Int)} (h : Space d) {p : Nat} (hp : p < d.length) (s : Int) : 0 ≤ tsF d p s ∧ tsF d p s ≤ 60 :=
  ⟨le_minN (by omega) fun k hk => by
    unfold tsAt
    split
    · exact (h.ent p k hp hk).1
    · omega, minN_le_start _ _ _⟩

set_option maxHeartbeats 400000 in
theorem toSet_any (lo hi : Nat) (v : Value) (d : List (List Int)) (p : Nat) (s : Int) (w : World) (hd : MMem lo hi w v d) (hp : p < d.length) (hs : SetP d s) :
    Calls Try.prog 53 #[v, .int .i64 p, .int .i64 s] w (Quiet (.int .i64 (tsF d p s)) w) := by
  obtain ⟨b, cap, BB, CC, rfl, hO⟩ := hd.space hs.sp
  have hsix := hs.sp.six
  have h1 := hs.one
  have h2 := hs.sixty
  have c1 := hO.top p hp
  have HO := Lib.hid <| hO
  clear hd hO hs
  go_enter Try.func53, Try.ntmps53
  go_wp2
  go_loopw [7, 15] (fun mv kv wr => ∃ k : Nat, k ≤ d.length ∧ kv = .int .i64 k ∧ mv = .int .i64 (minN (tsAt d p s) 60 k) ∧ Hid (Dr w wr)) (fun _ kv _ => d.length - (intOf kv).toNat)
  case atStart => exact ⟨0, Nat.zero_le _, rfl, rfl, Dr.refl _⟩
  case round =>
    clear c1
    obtain ⟨k, hk, rfl, rfl, HW⟩ := hrel
    by_cases hklt : k < d.length
    · have c2 := (HO.out.dr HW.out).cell p k hp hklt
      have hsh := sh_bd (k := k) h1 h2
      have hand := and_one hsh.1 hsh.2
      by_cases hb : hasB s k
      · have hbb : (bits BinOp.and IntKind.i64 (s / 2 ^ k) 1 == 1) = true := by rw [hand]; simpa [hasB] using hb
        have HS := Lib.hid <| ts_step (d := d) (p := p) hb
        clear hand hb
        go_wp2
        go_roundw
        case rel => exact ⟨k + 1, by omega, by go_num, by rw [← HS.out], HW⟩
        case measure => simp [intOf]; omega
      · have hbb : (bits BinOp.and IntKind.i64 (s / 2 ^ k) 1 == 1) = false := by rw [hand]; simpa [hasB] using hb
        have HS := Lib.hid <| ts_skip (d := d) (p := p) hb
        clear hand hb
        go_wp2
        go_roundw
        case rel => exact ⟨k + 1, by omega, by go_num, by rw [← HS.out], HW⟩
        case measure => simp [intOf]; omega
    · have hke : k = d.length := by omega
      subst hke
      go_wp2
      go_ret
      exact ⟨rfl, HW.out⟩

structure ToOk (d : List (List Int)) (p s : Int) : Prop where
  set : SetP d s
  pt : 0 ≤ p ∧ p < d.length
noncomputable def toV (d : List (List Int)) (p s : Int) : Int := if decP (ToOk d p s) then tsF d p.toNat s else -1
theorem toV_yes {d : List (List Int)} {p : Nat} {s : Int} (h : ToOk d p s) : toV d p s = tsF d p s := by simp [toV, decP_yes h]
theorem toV_no {d : List (List Int)} {p s : Int} (h : ¬ ToOk d p s) : toV d p s = -1 := by simp [toV, decP_no h]

set_option maxHeartbeats 400000 in
theorem implToSet_any (lo hi : Nat) (v : Value) (d : List (List Int)) (p s : Int) (w : World) (hd : MMem lo hi w v d) :
    Calls Try.prog 21 #[v, .int .i64 p, .int .i64 s] w (Quiet (.int .i64 (toV d p s)) w) := by
  have cs := isSet_any lo hi v d s w hd
  have cp : ∀ w', Dr w w' → Calls Try.prog 52 #[v, .int .i64 p] w' (Quiet (.bool (decP (Pt d p))) w') := fun w' h => hasPoint_any lo hi v d p w' (hd.dr h)
  have HD := Lib.hid <| hd
  obtain ⟨b, cap, BB, CC, rfl, _⟩ := hd.open
  clear hd
  by_cases hS : SetP d s
  · rw [decP_yes hS] at cs
    have HCS := Lib.hid <| cs
    by_cases hP : Pt d p
    · rw [decP_yes hP] at cp
      have HCP := Lib.hid <| cp
      obtain ⟨q, rfl⟩ := Int.eq_ofNat_of_zero_le hP.2.1
      have HV := Lib.hid <| toV_yes (d := d) (p := q) (s := s) ⟨hS, hP.2⟩
      have ct : ∀ w', Dr w w' → Calls Try.prog 53 #[_, .int .i64 q, .int .i64 s] w' (Quiet (.int .i64 (tsF d q s)) w') := fun w' h => toSet_any lo hi _ d q s w' (HD.out.dr h) (by have := hP.2.2; omega) hS
      have HCT := Lib.hid <| ct
      clear cs cp hP hS ct
      go_enter Try.func21, Try.ntmps21
      go_wp2_with fail
      refine (HCS.out).mono ?_
      rintro e w1 ⟨rfl, hd_w1⟩
      have HW1 : Hid (Dr _ w1) := hd_w1
      clear hd_w1
      go_wp2_with fail
      refine (HCP.out _ HW1.out).mono ?_
      rintro e w2 ⟨rfl, hd_w2⟩
      have HW2 : Hid (Dr _ w2) := HW1.out.trans hd_w2
      clear hd_w2 HW1
      go_wp2_with fail
      refine (HCT.out _ HW2.out).mono ?_
      rintro e w3 ⟨rfl, hd_w3⟩
      have HW3 : Hid (Dr _ w3) := HW2.out.trans hd_w3
      clear hd_w3 HW2
      go_wp2
      go_ret
      exact ⟨by rw [HV.out]; rfl, HW3.out⟩
    · rw [decP_no hP] at cp
      have HCP := Lib.hid <| cp
      have HV := Lib.hid <| toV_no (d := d) (p := p) (s := s) fun h => hP ⟨hS.sp, h.pt⟩
      clear cs cp hP hS
      go_enter Try.func21, Try.ntmps21
      go_wp2_with fail
      refine (HCS.out).mono ?_
      rintro e w1 ⟨rfl, hd_w1⟩
      have HW1 : Hid (Dr _ w1) := hd_w1
      clear hd_w1
      go_wp2_with fail
      refine (HCP.out _ HW1.out).mono ?_
      rintro e w2 ⟨rfl, hd_w2⟩
      have HW2 : Hid (Dr _ w2) := HW1.out.trans hd_w2
      clear hd_w2 HW1
      go_wp2
      go_ret
      exact ⟨by rw [HV.out]; rfl, HW2.out⟩
  · rw [decP_no hS] at cs
    have HCS := Lib.hid <| cs
    have HV := Lib.hid <| toV_no (d := d) (p := p) (s := s) fun h => hS h.set
    clear cs cp hS
    go_enter Try.func21, Try.ntmps21
    go_wp2_with fail
    refine (HCS.out).mono ?_
    rintro e w1 ⟨rfl, hd_w1⟩
    have HW1 : Hid (Dr _ w1) := hd_w1
    clear hd_w1
    go_wp2
    go_ret
    exact ⟨by rw [HV.out]; rfl, HW1.out⟩

set_option maxHeartbeats 400000 in
theorem specToSet_any (lo hi : Nat) (v : Value) (d : List (List Int)) (p s : Int) (w : World) (hd : MMem lo hi w v d) :
    Calls Try.prog 20 #[v, .int .i64 p, .int .i64 s] w (Quiet (.int .i64 (toV d p s)) w) := by
  have cs := specSetOk_any lo hi v d s w hd
  by_cases hS : SetP d s
  · rw [decP_yes hS] at cs
    obtain ⟨b, cap, BB, CC, rfl, hO⟩ := hd.space hS.sp
    have HCS := Lib.hid <| cs
    have hsix := hS.sp.six
    have h1 := hS.one
    have h2 := hS.sixty
    by_cases hp : 0 ≤ p ∧ p ≤ (d.length : Int) - 1
    · obtain ⟨q, rfl⟩ := Int.eq_ofNat_of_zero_le hp.1
      have hq : q < d.length := by omega
      have HV := Lib.hid <| toV_yes (d := d) (p := q) (s := s) ⟨hS, hp.1, by omega⟩
      have HO := Lib.hid <| hO
      have HB := Lib.hid <| hp
      clear cs hS hd hO hp
      go_enter Try.func20, Try.ntmps20
      go_wp2_with fail
      refine (HCS.out).mono ?_
      rintro e w1 ⟨rfl, hd_w1⟩
      have HW1 : Hid (Dr _ w1) := hd_w1
      clear hd_w1
      go_wp2_with fail
      refine (l1In_yes _ _ _ _ HB.out.1 HB.out.2).mono ?_
      rintro e w2 ⟨rfl, hd_w2⟩
      have HW2 : Hid (Dr _ w2) := HW1.out.trans hd_w2
      clear hd_w2 HW1
      go_wp2
      go_loopw [7, 8] (fun mv kv wr => ∃ k : Nat, k ≤ d.length ∧ kv = .int .i64 k ∧ mv = .int .i64 (minN (tsAt d q s) 60 k) ∧ Hid (Dr w wr)) (fun _ kv _ => d.length - (intOf kv).toNat)
      case atStart => exact ⟨0, Nat.zero_le _, rfl, rfl, HW2⟩
      case round =>
        clear HW2
        obtain ⟨k, hk, rfl, rfl, HW⟩ := hrel
        by_cases hklt : k < d.length
        · have c1 := (HO.out.dr HW.out).top q hq
          have c2 := (HO.out.dr HW.out).cell q k hq hklt
          have hsh := sh_bd (k := k) h1 h2
          by_cases hb : hasB s k
          · have hbb : (s / 2 ^ k % 2 == 1) = true := by simpa [hasB] using hb
            have HS := Lib.hid <| ts_step (d := d) (p := q) hb
            clear hb
            go_wp2
            go_roundw
            case rel => exact ⟨k + 1, by omega, by go_num, by rw [← HS.out], HW⟩
            case measure => simp [intOf]; omega
          · have hbb : (s / 2 ^ k % 2 == 1) = false := by simpa [hasB] using hb
            have HS := Lib.hid <| ts_skip (d := d) (p := q) hb
            clear hb
            go_wp2
            go_roundw
            case rel => exact ⟨k + 1, by omega, by go_num, by rw [← HS.out], HW⟩
            case measure => simp [intOf]; omega
        · have hke : k = d.length := by omega
          subst hke
          go_wp2
          go_ret
          exact ⟨by rw [HV.out]; rfl, HW.out⟩
    · have HV := Lib.hid <| toV_no (d := d) (p := p) (s := s) fun h => hp ⟨h.pt.1, by have := h.pt.2; omega⟩
      have HB := Lib.hid <| hp
      clear cs hS hd hO hp
      go_enter Try.func20, Try.ntmps20
      go_wp2_with fail
      refine (HCS.out).mono ?_
      rintro e w1 ⟨rfl, hd_w1⟩
      have HW1 : Hid (Dr _ w1) := hd_w1
      clear hd_w1
      go_wp2_with fail
      refine (l1In_no _ _ _ _ HB.out).mono ?_
      rintro e w2 ⟨rfl, hd_w2⟩
      have HW2 : Hid (Dr _ w2) := HW1.out.trans hd_w2
      clear hd_w2 HW1
      go_wp2
      go_ret
      exact ⟨by rw [HV.out]; rfl, HW2.out⟩
  · rw [decP_no hS] at cs
    obtain ⟨b, cap, BB, CC, rfl, _⟩ := hd.open
    have HCS := Lib.hid <| cs
    have HV := Lib.hid <| toV_no (d := d) (p := p) (s := s) fun h => hS h.set
    clear cs hS hd
    go_enter Try.func20, Try.ntmps20
    go_wp2_with fail
    refine (HCS.out).mono ?_
    rintro e w1 ⟨rfl, hd_w1⟩
    have HW1 : Hid (Dr _ w1) := hd_w1
    clear hd_w1
    go_wp2
    go_ret
    exact ⟨by rw [HV.out]; rfl, HW1.out⟩

end Go.Proofs.Ytclffncimaigfaa
