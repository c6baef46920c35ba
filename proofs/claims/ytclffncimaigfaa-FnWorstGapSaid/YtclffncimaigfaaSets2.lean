/- What impl.SetsApart, spec.SetsApart, impl.aroundSet, impl.AroundSet and spec.AroundSet return. Conditions: as each theorem says. -/
import Derived.Test.YtclffncimaigfaaSets
namespace Go.Proofs.Ytclffncimaigfaa
set_option linter.unusedVariables false
set_option linter.unusedSimpArgs false
open Go.RowKit Go.Deep

/-- One point's part: how far it is from the other set, if it is in the one. -/
noncomputable def saHalf (d : List (List Int)) (m : Int) (k : Nat) (a b : Int) : Int := if decP (hasB a k) then max m (tsF d k b) else m
theorem saHalf_up {d : List (List Int)} {m : Int} {k : Nat} {a b : Int} (h : hasB a k) (hl : m < tsF d k b) : saHalf d m k a b = tsF d k b := by
  unfold saHalf
  rw [decP_yes h]
  simp only [if_true]
  omega
theorem saHalf_stay {d : List (List Int)} {m : Int} {k : Nat} {a b : Int} (h : hasB a k) (hl : ¬ m < tsF d k b) : saHalf d m k a b = m := by
  unfold saHalf
  rw [decP_yes h]
  simp only [if_true]
  omega
theorem saHalf_no {d : List (List Int)} {m : Int} {k : Nat} {a b : Int} (h : ¬ hasB a k) : saHalf d m k a b = m := by
  unfold saHalf
  rw [decP_no h]
  rfl
noncomputable def saTo (d : List (List Int)) (a b : Int) : Nat → Int
  | 0 => 0
  | k + 1 => saHalf d (saHalf d (saTo d a b k) k a b) k b a
theorem saTo_step {d : List (List Int)} {a b m1 m2 : Int} {k : Nat} (h1 : saHalf d (saTo d a b k) k a b = m1) (h2 : saHalf d m1 k b a = m2) : Value.int IntKind.i64 m2 = Value.int IntKind.i64 (saTo d a b (k + 1)) := by
  rw [← h2, ← h1]
  rfl
structure SaOk (d : List (List Int)) (a b : Int) : Prop where
  a : SetP d a
  b : SetP d b
noncomputable def saV (d : List (List Int)) (a b : Int) : Int := if decP (SaOk d a b) then saTo d a b d.length else -1
theorem saV_yes {d : List (List Int)} {a b : Int} (h : SaOk d a b) : saV d a b = saTo d a b d.length := by simp [saV, decP_yes h]
theorem saV_no {d : List (List Int)} {a b : Int} (h : ¬ SaOk d a b) : saV d a b = -1 := by simp [saV, decP_no h]

set_option maxHeartbeats 4000000 in
theorem implSetsApart_any (lo hi : Nat) (v : Value) (d : List (List Int)) (a b : Int) (w : World) (hd : MMem lo hi w v d) :
    Calls Try.prog 27 #[v, .int .i64 a, .int .i64 b] w (Quiet (.int .i64 (saV d a b)) w) := by
  have ca := isSet_any lo hi v d a w hd
  have cb : ∀ w', Dr w w' → Calls Try.prog 50 #[v, .int .i64 b] w' (Quiet (.bool (decP (SetP d b))) w') := fun w' h => isSet_any lo hi v d b w' (hd.dr h)
  have HD := Lib.hid <| hd
  obtain ⟨bb, cap, BB, CC, rfl, _⟩ := hd.open
  clear hd
  by_cases hA : SetP d a
  · rw [decP_yes hA] at ca
    have HCA := Lib.hid <| ca
    by_cases hB : SetP d b
    · rw [decP_yes hB] at cb
      have HCB := Lib.hid <| cb
      have hsix := hA.sp.six
      have a1 := hA.one
      have a2 := hA.sixty
      have b1 := hB.one
      have b2 := hB.sixty
      have HV := Lib.hid <| saV_yes (d := d) (a := a) (b := b) ⟨hA, hB⟩
      have HSA := Lib.hid <| hA
      have HSB := Lib.hid <| hB
      clear ca cb hA hB
      go_enter Try.func27, Try.ntmps27
      go_wp2_with fail
      refine (HCA.out).mono ?_
      rintro e w1 ⟨rfl, hd_w1⟩
      have HW1 : Hid (Dr _ w1) := hd_w1
      clear hd_w1
      go_wp2_with fail
      refine (HCB.out _ HW1.out).mono ?_
      rintro e w2 ⟨rfl, hd_w2⟩
      have HW2 : Hid (Dr _ w2) := HW1.out.trans hd_w2
      clear hd_w2 HW1
      clear HCA HCB
      go_wp2
      go_loopw [7, 21] (fun mv kv wr => ∃ k : Nat, k ≤ d.length ∧ kv = .int .i64 k ∧ mv = .int .i64 (saTo d a b k) ∧ Hid (Dr w wr)) (fun _ kv _ => d.length - (intOf kv).toNat)
      case atStart => exact ⟨0, Nat.zero_le _, rfl, rfl, HW2⟩
      case round =>
        clear HW2
        obtain ⟨k, hk, rfl, rfl, HW⟩ := hrel
        by_cases hklt : k < d.length
        · have hsa := sh_bd (k := k) a1 a2
          have hsb := sh_bd (k := k) b1 b2
          have handa := and_one hsa.1 hsa.2
          have handb := and_one hsb.1 hsb.2
          have cta : ∀ w', Dr w w' → Calls Try.prog 53 #[.slice (some ⟨bb, 0, none⟩) d.length cap, .int .i64 k, .int .i64 a] w' (Quiet (.int .i64 (tsF d k a)) w') := fun w' h => toSet_any lo hi _ d k a w' (HD.out.dr h) hklt HSA.out
          have ctb : ∀ w', Dr w w' → Calls Try.prog 53 #[.slice (some ⟨bb, 0, none⟩) d.length cap, .int .i64 k, .int .i64 b] w' (Quiet (.int .i64 (tsF d k b)) w') := fun w' h => toSet_any lo hi _ d k b w' (HD.out.dr h) hklt HSB.out
          have HTA := Lib.hid cta
          have HTB := Lib.hid ctb
          clear cta ctb
          by_cases hba : hasB a k
          · have hb1 : (bits BinOp.and IntKind.i64 (a / 2 ^ k) 1 == 1) = true := by rw [handa]; simpa [hasB] using hba
            by_cases hl1 : saTo d a b k < tsF d k b
            · have h1 := saHalf_up hba hl1
              have H1 := Lib.hid h1
              clear h1
              by_cases hbb : hasB b k
              · have hb2 : (bits BinOp.and IntKind.i64 (b / 2 ^ k) 1 == 1) = true := by rw [handb]; simpa [hasB] using hbb
                by_cases hl2 : tsF d k b < tsF d k a
                · have HE : Hid (_ = _) := saTo_step H1.out (saHalf_up hbb hl2)
                  clear handa handb hbb hba
                  go_wp2_with fail
                  refine (HTB.out _ HW.out).mono ?_
                  rintro e w1 ⟨rfl, hd_w1⟩
                  have HX1 : Hid (Dr _ w1) := HW.out.trans hd_w1
                  clear hd_w1 HW
                  go_wp2_with fail
                  refine (HTA.out _ HX1.out).mono ?_
                  rintro e w2 ⟨rfl, hd_w2⟩
                  have HX2 : Hid (Dr _ w2) := HX1.out.trans hd_w2
                  clear hd_w2 HX1
                  go_wp2
                  go_roundw
                  case rel => exact ⟨k + 1, by omega, by go_num, HE.out, HX2⟩
                  case measure => simp [intOf]; omega
                · have HE : Hid (_ = _) := saTo_step H1.out (saHalf_stay hbb hl2)
                  clear handa handb hbb hba
                  go_wp2_with fail
                  refine (HTB.out _ HW.out).mono ?_
                  rintro e w1 ⟨rfl, hd_w1⟩
                  have HX1 : Hid (Dr _ w1) := HW.out.trans hd_w1
                  clear hd_w1 HW
                  go_wp2_with fail
                  refine (HTA.out _ HX1.out).mono ?_
                  rintro e w2 ⟨rfl, hd_w2⟩
                  have HX2 : Hid (Dr _ w2) := HX1.out.trans hd_w2
                  clear hd_w2 HX1
                  go_wp2
                  go_roundw
                  case rel => exact ⟨k + 1, by omega, by go_num, HE.out, HX2⟩
                  case measure => simp [intOf]; omega
              · have hb2 : (bits BinOp.and IntKind.i64 (b / 2 ^ k) 1 == 1) = false := by rw [handb]; simpa [hasB] using hbb
                have HE : Hid (_ = _) := saTo_step H1.out (saHalf_no hbb)
                clear handa handb hbb hba
                go_wp2_with fail
                refine (HTB.out _ HW.out).mono ?_
                rintro e w1 ⟨rfl, hd_w1⟩
                have HX1 : Hid (Dr _ w1) := HW.out.trans hd_w1
                clear hd_w1 HW
                go_wp2
                go_roundw
                case rel => exact ⟨k + 1, by omega, by go_num, HE.out, HX1⟩
                case measure => simp [intOf]; omega
            · have h1 := saHalf_stay hba hl1
              have H1 := Lib.hid h1
              clear h1
              by_cases hbb : hasB b k
              · have hb2 : (bits BinOp.and IntKind.i64 (b / 2 ^ k) 1 == 1) = true := by rw [handb]; simpa [hasB] using hbb
                by_cases hl2 : saTo d a b k < tsF d k a
                · have HE : Hid (_ = _) := saTo_step H1.out (saHalf_up hbb hl2)
                  clear handa handb hbb hba
                  go_wp2_with fail
                  refine (HTB.out _ HW.out).mono ?_
                  rintro e w1 ⟨rfl, hd_w1⟩
                  have HX1 : Hid (Dr _ w1) := HW.out.trans hd_w1
                  clear hd_w1 HW
                  go_wp2_with fail
                  refine (HTA.out _ HX1.out).mono ?_
                  rintro e w2 ⟨rfl, hd_w2⟩
                  have HX2 : Hid (Dr _ w2) := HX1.out.trans hd_w2
                  clear hd_w2 HX1
                  go_wp2
                  go_roundw
                  case rel => exact ⟨k + 1, by omega, by go_num, HE.out, HX2⟩
                  case measure => simp [intOf]; omega
                · have HE : Hid (_ = _) := saTo_step H1.out (saHalf_stay hbb hl2)
                  clear handa handb hbb hba
                  go_wp2_with fail
                  refine (HTB.out _ HW.out).mono ?_
                  rintro e w1 ⟨rfl, hd_w1⟩
                  have HX1 : Hid (Dr _ w1) := HW.out.trans hd_w1
                  clear hd_w1 HW
                  go_wp2_with fail
                  refine (HTA.out _ HX1.out).mono ?_
                  rintro e w2 ⟨rfl, hd_w2⟩
                  have HX2 : Hid (Dr _ w2) := HX1.out.trans hd_w2
                  clear hd_w2 HX1
                  go_wp2
                  go_roundw
                  case rel => exact ⟨k + 1, by omega, by go_num, HE.out, HX2⟩
                  case measure => simp [intOf]; omega
              · have hb2 : (bits BinOp.and IntKind.i64 (b / 2 ^ k) 1 == 1) = false := by rw [handb]; simpa [hasB] using hbb
                have HE : Hid (_ = _) := saTo_step H1.out (saHalf_no hbb)
                clear handa handb hbb hba
                go_wp2_with fail
                refine (HTB.out _ HW.out).mono ?_
                rintro e w1 ⟨rfl, hd_w1⟩
                have HX1 : Hid (Dr _ w1) := HW.out.trans hd_w1
                clear hd_w1 HW
                go_wp2
                go_roundw
                case rel => exact ⟨k + 1, by omega, by go_num, HE.out, HX1⟩
                case measure => simp [intOf]; omega
          · have hb1 : (bits BinOp.and IntKind.i64 (a / 2 ^ k) 1 == 1) = false := by rw [handa]; simpa [hasB] using hba
            have h1 := saHalf_no (d := d) (m := saTo d a b k) (b := b) hba
            have H1 := Lib.hid h1
            clear h1
            by_cases hbb : hasB b k
            · have hb2 : (bits BinOp.and IntKind.i64 (b / 2 ^ k) 1 == 1) = true := by rw [handb]; simpa [hasB] using hbb
              by_cases hl2 : saTo d a b k < tsF d k a
              · have HE : Hid (_ = _) := saTo_step H1.out (saHalf_up hbb hl2)
                clear handa handb hbb hba
                go_wp2_with fail
                refine (HTA.out _ HW.out).mono ?_
                rintro e w2 ⟨rfl, hd_w2⟩
                have HX2 : Hid (Dr _ w2) := HW.out.trans hd_w2
                clear hd_w2 HW
                go_wp2
                go_roundw
                case rel => exact ⟨k + 1, by omega, by go_num, HE.out, HX2⟩
                case measure => simp [intOf]; omega
              · have HE : Hid (_ = _) := saTo_step H1.out (saHalf_stay hbb hl2)
                clear handa handb hbb hba
                go_wp2_with fail
                refine (HTA.out _ HW.out).mono ?_
                rintro e w2 ⟨rfl, hd_w2⟩
                have HX2 : Hid (Dr _ w2) := HW.out.trans hd_w2
                clear hd_w2 HW
                go_wp2
                go_roundw
                case rel => exact ⟨k + 1, by omega, by go_num, HE.out, HX2⟩
                case measure => simp [intOf]; omega
            · have hb2 : (bits BinOp.and IntKind.i64 (b / 2 ^ k) 1 == 1) = false := by rw [handb]; simpa [hasB] using hbb
              have HE : Hid (_ = _) := saTo_step H1.out (saHalf_no hbb)
              clear handa handb hbb hba
              go_wp2
              go_roundw
              case rel => exact ⟨k + 1, by omega, by go_num, HE.out, HW⟩
              case measure => simp [intOf]; omega
        · have hke : k = d.length := by omega
          subst hke
          go_wp2
          go_ret
          exact ⟨by rw [HV.out]; rfl, HW.out⟩
    · rw [decP_no hB] at cb
      have HCB := Lib.hid <| cb
      have HV := Lib.hid <| saV_no (d := d) (a := a) (b := b) fun h => hB h.b
      clear ca cb hA hB
      go_enter Try.func27, Try.ntmps27
      go_wp2_with fail
      refine (HCA.out).mono ?_
      rintro e w1 ⟨rfl, hd_w1⟩
      have HW1 : Hid (Dr _ w1) := hd_w1
      clear hd_w1
      go_wp2_with fail
      refine (HCB.out _ HW1.out).mono ?_
      rintro e w2 ⟨rfl, hd_w2⟩
      have HW2 : Hid (Dr _ w2) := HW1.out.trans hd_w2
      clear hd_w2 HW1
      go_wp2
      go_ret
      exact ⟨by rw [HV.out]; rfl, HW2.out⟩
  · rw [decP_no hA] at ca
    have HCA := Lib.hid <| ca
    have HV := Lib.hid <| saV_no (d := d) (a := a) (b := b) fun h => hA h.a
    clear ca cb hA
    go_enter Try.func27, Try.ntmps27
    go_wp2_with fail
    refine (HCA.out).mono ?_
    rintro e w1 ⟨rfl, hd_w1⟩
    have HW1 : Hid (Dr _ w1) := hd_w1
    clear hd_w1
    go_wp2
    go_ret
    exact ⟨by rw [HV.out]; rfl, HW1.out⟩

set_option maxHeartbeats 4000000 in
theorem specSetsApart_any (lo hi : Nat) (v : Value) (d : List (List Int)) (a b : Int) (w : World) (hd : MMem lo hi w v d) :
    Calls Try.prog 26 #[v, .int .i64 a, .int .i64 b] w (Quiet (.int .i64 (saV d a b)) w) := by
  have ca := specSetOk_any lo hi v d a w hd
  have cb : ∀ w', Dr w w' → Calls Try.prog 16 #[v, .int .i64 b] w' (Quiet (.bool (decP (SetP d b))) w') := fun w' h => specSetOk_any lo hi v d b w' (hd.dr h)
  have HD := Lib.hid <| hd
  obtain ⟨bb, cap, BB, CC, rfl, _⟩ := hd.open
  clear hd
  by_cases hA : SetP d a
  · rw [decP_yes hA] at ca
    have HCA := Lib.hid <| ca
    by_cases hB : SetP d b
    · rw [decP_yes hB] at cb
      have HCB := Lib.hid <| cb
      have hsix := hA.sp.six
      have a1 := hA.one
      have a2 := hA.sixty
      have b1 := hB.one
      have b2 := hB.sixty
      have HV := Lib.hid <| saV_yes (d := d) (a := a) (b := b) ⟨hA, hB⟩
      have HSA := Lib.hid <| hA
      have HSB := Lib.hid <| hB
      clear ca cb hA hB
      go_enter Try.func26, Try.ntmps26
      go_wp2_with fail
      refine (HCA.out).mono ?_
      rintro e w1 ⟨rfl, hd_w1⟩
      have HW1 : Hid (Dr _ w1) := hd_w1
      clear hd_w1
      go_wp2_with fail
      refine (HCB.out _ HW1.out).mono ?_
      rintro e w2 ⟨rfl, hd_w2⟩
      have HW2 : Hid (Dr _ w2) := HW1.out.trans hd_w2
      clear hd_w2 HW1
      clear HCA HCB
      go_wp2
      go_loopw [7, 8] (fun mv kv wr => ∃ k : Nat, k ≤ d.length ∧ kv = .int .i64 k ∧ mv = .int .i64 (saTo d a b k) ∧ Hid (Dr w wr)) (fun _ kv _ => d.length - (intOf kv).toNat)
      case atStart => exact ⟨0, Nat.zero_le _, rfl, rfl, HW2⟩
      case round =>
        clear HW2
        obtain ⟨k, hk, rfl, rfl, HW⟩ := hrel
        by_cases hklt : k < d.length
        · have hsa := sh_bd (k := k) a1 a2
          have hsb := sh_bd (k := k) b1 b2
          have cta : ∀ w', Dr w w' → Calls Try.prog 20 #[.slice (some ⟨bb, 0, none⟩) d.length cap, .int .i64 k, .int .i64 a] w' (Quiet (.int .i64 (tsF d k a)) w') := fun w' h => by
            have := specToSet_any lo hi _ d k a w' (HD.out.dr h)
            rwa [toV_yes ⟨HSA.out, by omega, by omega⟩] at this
          have ctb : ∀ w', Dr w w' → Calls Try.prog 20 #[.slice (some ⟨bb, 0, none⟩) d.length cap, .int .i64 k, .int .i64 b] w' (Quiet (.int .i64 (tsF d k b)) w') := fun w' h => by
            have := specToSet_any lo hi _ d k b w' (HD.out.dr h)
            rwa [toV_yes ⟨HSB.out, by omega, by omega⟩] at this
          have HTA := Lib.hid cta
          have HTB := Lib.hid ctb
          clear cta ctb
          by_cases hba : hasB a k
          · have hb1 : (a / 2 ^ k % 2 == 1) = true := by simpa [hasB] using hba
            by_cases hl1 : saTo d a b k < tsF d k b
            · have h1 := saHalf_up hba hl1
              have H1 := Lib.hid h1
              clear h1
              by_cases hbb : hasB b k
              · have hb2 : (b / 2 ^ k % 2 == 1) = true := by simpa [hasB] using hbb
                by_cases hl2 : tsF d k b < tsF d k a
                · have HE : Hid (_ = _) := saTo_step H1.out (saHalf_up hbb hl2)
                  clear hbb hba
                  go_wp2_with fail
                  refine (HTB.out _ HW.out).mono ?_
                  rintro e w1 ⟨rfl, hd_w1⟩
                  have HX1 : Hid (Dr _ w1) := HW.out.trans hd_w1
                  clear hd_w1 HW
                  go_wp2_with fail
                  refine (HTA.out _ HX1.out).mono ?_
                  rintro e w2 ⟨rfl, hd_w2⟩
                  have HX2 : Hid (Dr _ w2) := HX1.out.trans hd_w2
                  clear hd_w2 HX1
                  go_wp2
                  go_roundw
                  case rel => exact ⟨k + 1, by omega, by go_num, HE.out, HX2⟩
                  case measure => simp [intOf]; omega
                · have HE : Hid (_ = _) := saTo_step H1.out (saHalf_stay hbb hl2)
                  clear hbb hba
                  go_wp2_with fail
                  refine (HTB.out _ HW.out).mono ?_
                  rintro e w1 ⟨rfl, hd_w1⟩
                  have HX1 : Hid (Dr _ w1) := HW.out.trans hd_w1
                  clear hd_w1 HW
                  go_wp2_with fail
                  refine (HTA.out _ HX1.out).mono ?_
                  rintro e w2 ⟨rfl, hd_w2⟩
                  have HX2 : Hid (Dr _ w2) := HX1.out.trans hd_w2
                  clear hd_w2 HX1
                  go_wp2
                  go_roundw
                  case rel => exact ⟨k + 1, by omega, by go_num, HE.out, HX2⟩
                  case measure => simp [intOf]; omega
              · have hb2 : (b / 2 ^ k % 2 == 1) = false := by simpa [hasB] using hbb
                have HE : Hid (_ = _) := saTo_step H1.out (saHalf_no hbb)
                clear hbb hba
                go_wp2_with fail
                refine (HTB.out _ HW.out).mono ?_
                rintro e w1 ⟨rfl, hd_w1⟩
                have HX1 : Hid (Dr _ w1) := HW.out.trans hd_w1
                clear hd_w1 HW
                go_wp2
                go_roundw
                case rel => exact ⟨k + 1, by omega, by go_num, HE.out, HX1⟩
                case measure => simp [intOf]; omega
            · have h1 := saHalf_stay hba hl1
              have H1 := Lib.hid h1
              clear h1
              by_cases hbb : hasB b k
              · have hb2 : (b / 2 ^ k % 2 == 1) = true := by simpa [hasB] using hbb
                by_cases hl2 : saTo d a b k < tsF d k a
                · have HE : Hid (_ = _) := saTo_step H1.out (saHalf_up hbb hl2)
                  clear hbb hba
                  go_wp2_with fail
                  refine (HTB.out _ HW.out).mono ?_
                  rintro e w1 ⟨rfl, hd_w1⟩
                  have HX1 : Hid (Dr _ w1) := HW.out.trans hd_w1
                  clear hd_w1 HW
                  go_wp2_with fail
                  refine (HTA.out _ HX1.out).mono ?_
                  rintro e w2 ⟨rfl, hd_w2⟩
                  have HX2 : Hid (Dr _ w2) := HX1.out.trans hd_w2
                  clear hd_w2 HX1
                  go_wp2
                  go_roundw
                  case rel => exact ⟨k + 1, by omega, by go_num, HE.out, HX2⟩
                  case measure => simp [intOf]; omega
                · have HE : Hid (_ = _) := saTo_step H1.out (saHalf_stay hbb hl2)
                  clear hbb hba
                  go_wp2_with fail
                  refine (HTB.out _ HW.out).mono ?_
                  rintro e w1 ⟨rfl, hd_w1⟩
                  have HX1 : Hid (Dr _ w1) := HW.out.trans hd_w1
                  clear hd_w1 HW
                  go_wp2_with fail
                  refine (HTA.out _ HX1.out).mono ?_
                  rintro e w2 ⟨rfl, hd_w2⟩
                  have HX2 : Hid (Dr _ w2) := HX1.out.trans hd_w2
                  clear hd_w2 HX1
                  go_wp2
                  go_roundw
                  case rel => exact ⟨k + 1, by omega, by go_num, HE.out, HX2⟩
                  case measure => simp [intOf]; omega
              · have hb2 : (b / 2 ^ k % 2 == 1) = false := by simpa [hasB] using hbb
                have HE : Hid (_ = _) := saTo_step H1.out (saHalf_no hbb)
                clear hbb hba
                go_wp2_with fail
                refine (HTB.out _ HW.out).mono ?_
                rintro e w1 ⟨rfl, hd_w1⟩
                have HX1 : Hid (Dr _ w1) := HW.out.trans hd_w1
                clear hd_w1 HW
                go_wp2
                go_roundw
                case rel => exact ⟨k + 1, by omega, by go_num, HE.out, HX1⟩
                case measure => simp [intOf]; omega
          · have hb1 : (a / 2 ^ k % 2 == 1) = false := by simpa [hasB] using hba
            have h1 := saHalf_no (d := d) (m := saTo d a b k) (b := b) hba
            have H1 := Lib.hid h1
            clear h1
            by_cases hbb : hasB b k
            · have hb2 : (b / 2 ^ k % 2 == 1) = true := by simpa [hasB] using hbb
              by_cases hl2 : saTo d a b k < tsF d k a
              · have HE : Hid (_ = _) := saTo_step H1.out (saHalf_up hbb hl2)
                clear hbb hba
                go_wp2_with fail
                refine (HTA.out _ HW.out).mono ?_
                rintro e w2 ⟨rfl, hd_w2⟩
                have HX2 : Hid (Dr _ w2) := HW.out.trans hd_w2
                clear hd_w2 HW
                go_wp2
                go_roundw
                case rel => exact ⟨k + 1, by omega, by go_num, HE.out, HX2⟩
                case measure => simp [intOf]; omega
              · have HE : Hid (_ = _) := saTo_step H1.out (saHalf_stay hbb hl2)
                clear hbb hba
                go_wp2_with fail
                refine (HTA.out _ HW.out).mono ?_
                rintro e w2 ⟨rfl, hd_w2⟩
                have HX2 : Hid (Dr _ w2) := HW.out.trans hd_w2
                clear hd_w2 HW
                go_wp2
                go_roundw
                case rel => exact ⟨k + 1, by omega, by go_num, HE.out, HX2⟩
                case measure => simp [intOf]; omega
            · have hb2 : (b / 2 ^ k % 2 == 1) = false := by simpa [hasB] using hbb
              have HE : Hid (_ = _) := saTo_step H1.out (saHalf_no hbb)
              clear hbb hba
              go_wp2
              go_roundw
              case rel => exact ⟨k + 1, by omega, by go_num, HE.out, HW⟩
              case measure => simp [intOf]; omega
        · have hke : k = d.length := by omega
          subst hke
          go_wp2
          go_ret
          exact ⟨by rw [HV.out]; rfl, HW.out⟩
    · rw [decP_no hB] at cb
      have HCB := Lib.hid <| cb
      have HV := Lib.hid <| saV_no (d := d) (a := a) (b := b) fun h => hB h.b
      clear ca cb hA hB
      go_enter Try.func26, Try.ntmps26
      go_wp2_with fail
      refine (HCA.out).mono ?_
      rintro e w1 ⟨rfl, hd_w1⟩
      have HW1 : Hid (Dr _ w1) := hd_w1
      clear hd_w1
      go_wp2_with fail
      refine (HCB.out _ HW1.out).mono ?_
      rintro e w2 ⟨rfl, hd_w2⟩
      have HW2 : Hid (Dr _ w2) := HW1.out.trans hd_w2
      clear hd_w2 HW1
      go_wp2
      go_ret
      exact ⟨by rw [HV.out]; rfl, HW2.out⟩
  · rw [decP_no hA] at ca
    have HCA := Lib.hid <| ca
    have HV := Lib.hid <| saV_no (d := d) (a := a) (b := b) fun h => hA h.a
    clear ca cb hA
    go_enter Try.func26, Try.ntmps26
    go_wp2_with fail
    refine (HCA.out).mono ?_
    rintro e w1 ⟨rfl, hd_w1⟩
    have HW1 : Hid (Dr _ w1) := hd_w1
    clear hd_w1
    go_wp2
    go_ret
    exact ⟨by rw [HV.out]; rfl, HW1.out⟩

theorem or_pow {i : Nat} (hi : i < 6) {o : Int} (h0 : 0 ≤ o) (h1 : o < 2 ^ i) : bits BinOp.or IntKind.i64 o (2 ^ i) = o + 2 ^ i := by
  obtain ⟨n, rfl⟩ := Int.eq_ofNat_of_zero_le h0
  have hp := pow_bd0 (n := i) (by omega)
  have key : ∀ (j : Fin 6) (m : Fin 64), (m.val : Int) < 2 ^ j.val → bits BinOp.or IntKind.i64 (m.val : Int) (2 ^ j.val) = (m.val : Int) + 2 ^ j.val := by decide +kernel
  exact key ⟨i, hi⟩ ⟨n, by omega⟩ h1
/-- The set of the points among the first k that are near. -/
noncomputable def arTo (d : List (List Int)) (s far : Int) : Nat → Int
  | 0 => 0
  | k + 1 => if decP (tsF d k s ≤ far) then arTo d s far k + 2 ^ k else arTo d s far k
theorem arTo_yes {d : List (List Int)} {s far : Int} {k : Nat} (h : tsF d k s ≤ far) : arTo d s far k + 2 ^ k = arTo d s far (k + 1) := by simp [arTo, decP_yes h]
theorem arTo_no {d : List (List Int)} {s far : Int} {k : Nat} (h : ¬ tsF d k s ≤ far) : arTo d s far k = arTo d s far (k + 1) := by simp [arTo, decP_no h]
theorem pow_succ' (k : Nat) : (2 : Int) ^ (k + 1) = 2 * 2 ^ k := by rw [Int.pow_succ, Int.mul_comm]
theorem arTo_bd (d : List (List Int)) (s far : Int) (k : Nat) : 0 ≤ arTo d s far k ∧ arTo d s far k < 2 ^ k := by
  induction k with
  | zero => simp [arTo]
  | succ k ih =>
    rw [pow_succ']
    have hp : (0 : Int) < 2 ^ k := Int.pow_pos (by decide)
    by_cases h : tsF d k s ≤ far
    · rw [← arTo_yes h]; omega
    · rw [← arTo_no h]; omega
structure ArOk (d : List (List Int)) (s far : Int) : Prop where
  set : SetP d s
  far : 0 ≤ far ∧ far ≤ 60
noncomputable def arV (d : List (List Int)) (s far : Int) : Int := if decP (ArOk d s far) then arTo d s far d.length else -1
theorem arV_yes {d : List (List Int)} {s far : Int} (h : ArOk d s far) : arV d s far = arTo d s far d.length := by simp [arV, decP_yes h]
theorem arV_no {d : List (List Int)} {s far : Int} (h : ¬ ArOk d s far) : arV d s far = -1 := by simp [arV, decP_no h]

set_option maxHeartbeats 1000000 in
theorem aroundSet_any (lo hi : Nat) (v : Value) (d : List (List Int)) (s far : Int) (w : World) (hd : MMem lo hi w v d) (hs : SetP d s) :
    Calls Try.prog 60 #[v, .int .i64 s, .int .i64 far] w (Quiet (.int .i64 (arTo d s far d.length)) w) := by
  have HD := Lib.hid <| hd
  obtain ⟨bb, cap, BB, CC, rfl, _⟩ := hd.open
  have hsix := hs.sp.six
  have HS := Lib.hid <| hs
  clear hd hs
  go_enter Try.func60, Try.ntmps60
  go_wp2
  go_loopw [7, 11] (fun mv kv wr => ∃ k : Nat, k ≤ d.length ∧ kv = .int .i64 k ∧ mv = .int .i64 (arTo d s far k) ∧ Hid (Dr w wr)) (fun _ kv _ => d.length - (intOf kv).toNat)
  case atStart => exact ⟨0, Nat.zero_le _, rfl, rfl, Dr.refl _⟩
  case round =>
    obtain ⟨k, hk, rfl, rfl, HW⟩ := hrel
    by_cases hklt : k < d.length
    · have hw := wrap_pow (n := k) (by omega)
      have ho := or_pow (i := k) (by omega) (arTo_bd d s far k).1 (arTo_bd d s far k).2
      have HC := Lib.hid <| toSet_any lo hi _ d k s wr (HD.out.dr HW.out) hklt HS.out
      by_cases hn : tsF d k s ≤ far
      · have hb : decide (tsF d k s ≤ far) = true := by simpa using hn
        rw [arTo_yes hn] at ho
        clear hn
        go_wp2_with fail
        refine (HC.out).mono ?_
        rintro e w1 ⟨rfl, hd_w1⟩
        have HW1 : Hid (Dr _ w1) := HW.out.trans hd_w1
        clear hd_w1 HW
        go_wp2
        go_roundw
        case rel => exact ⟨k + 1, by omega, by go_num, rfl, HW1⟩
        case measure => simp [intOf]; omega
      · have hb : decide (tsF d k s ≤ far) = false := by simpa using hn
        have HE := Lib.hid <| arTo_no hn
        clear hn ho
        go_wp2_with fail
        refine (HC.out).mono ?_
        rintro e w1 ⟨rfl, hd_w1⟩
        have HW1 : Hid (Dr _ w1) := HW.out.trans hd_w1
        clear hd_w1 HW
        go_wp2
        go_roundw
        case rel => exact ⟨k + 1, by omega, by go_num, by rw [← HE.out], HW1⟩
        case measure => simp [intOf]; omega
    · have hke : k = d.length := by omega
      subst hke
      go_wp2
      go_ret
      exact ⟨rfl, HW.out⟩

set_option maxHeartbeats 1000000 in
theorem implAroundSet_any (lo hi : Nat) (v : Value) (d : List (List Int)) (s far : Int) (w : World) (hd : MMem lo hi w v d) :
    Calls Try.prog 30 #[v, .int .i64 s, .int .i64 far] w (Quiet (.int .i64 (arV d s far)) w) := by
  have cs := isSet_any lo hi v d s w hd
  have HD := Lib.hid <| hd
  obtain ⟨bb, cap, BB, CC, rfl, _⟩ := hd.open
  clear hd
  by_cases hS : SetP d s
  · rw [decP_yes hS] at cs
    have HCS := Lib.hid <| cs
    by_cases h0 : 0 ≤ far
    · by_cases h60 : far ≤ 60
      · have HV := Lib.hid <| arV_yes (d := d) (s := s) (far := far) ⟨hS, h0, h60⟩
        have HS := Lib.hid <| hS
        clear cs hS
        go_enter Try.func30, Try.ntmps30
        go_wp2_with fail
        refine (HCS.out).mono ?_
        rintro e w1 ⟨rfl, hd_w1⟩
        have HW1 : Hid (Dr _ w1) := hd_w1
        clear hd_w1
        go_wp2_with fail
        refine (aroundSet_any lo hi _ d s far w1 (HD.out.dr HW1.out) HS.out).mono ?_
        rintro e w2 ⟨rfl, hd_w2⟩
        have HW2 : Hid (Dr _ w2) := HW1.out.trans hd_w2
        clear hd_w2 HW1
        go_wp2
        go_ret
        exact ⟨by rw [HV.out]; rfl, HW2.out⟩
      · have HV := Lib.hid <| arV_no (d := d) (s := s) (far := far) fun h => h60 h.far.2
        clear cs hS
        go_enter Try.func30, Try.ntmps30
        go_wp2_with fail
        refine (HCS.out).mono ?_
        rintro e w1 ⟨rfl, hd_w1⟩
        have HW1 : Hid (Dr _ w1) := hd_w1
        clear hd_w1
        go_wp2
        go_ret
        exact ⟨by rw [HV.out]; rfl, HW1.out⟩
    · have HV := Lib.hid <| arV_no (d := d) (s := s) (far := far) fun h => h0 h.far.1
      clear cs hS
      go_enter Try.func30, Try.ntmps30
      go_wp2_with fail
      refine (HCS.out).mono ?_
      rintro e w1 ⟨rfl, hd_w1⟩
      have HW1 : Hid (Dr _ w1) := hd_w1
      clear hd_w1
      go_wp2
      go_ret
      exact ⟨by rw [HV.out]; rfl, HW1.out⟩
  · rw [decP_no hS] at cs
    have HCS := Lib.hid <| cs
    have HV := Lib.hid <| arV_no (d := d) (s := s) (far := far) fun h => hS h.set
    clear cs hS
    go_enter Try.func30, Try.ntmps30
    go_wp2_with fail
    refine (HCS.out).mono ?_
    rintro e w1 ⟨rfl, hd_w1⟩
    have HW1 : Hid (Dr _ w1) := hd_w1
    clear hd_w1
    go_wp2
    go_ret
    exact ⟨by rw [HV.out]; rfl, HW1.out⟩

set_option maxHeartbeats 1000000 in
theorem specAroundSet_any (lo hi : Nat) (v : Value) (d : List (List Int)) (s far : Int) (w : World) (hd : MMem lo hi w v d) :
    Calls Try.prog 29 #[v, .int .i64 s, .int .i64 far] w (Quiet (.int .i64 (arV d s far)) w) := by
  have cs := specSetOk_any lo hi v d s w hd
  have HD := Lib.hid <| hd
  obtain ⟨bb, cap, BB, CC, rfl, _⟩ := hd.open
  clear hd
  by_cases hS : SetP d s
  · rw [decP_yes hS] at cs
    have HCS := Lib.hid <| cs
    by_cases hf : 0 ≤ far ∧ far ≤ 60
    · have HV := Lib.hid <| arV_yes (d := d) (s := s) (far := far) ⟨hS, hf⟩
      have HS := Lib.hid <| hS
      have hsix := hS.sp.six
      obtain ⟨f0, f1⟩ := hf
      clear cs hS
      go_enter Try.func29, Try.ntmps29
      go_wp2_with fail
      refine (HCS.out).mono ?_
      rintro e w1 ⟨rfl, hd_w1⟩
      have HW1 : Hid (Dr _ w1) := hd_w1
      clear hd_w1
      go_wp2_with fail
      refine (l1In_yes _ _ _ _ f0 f1).mono ?_
      rintro e w2 ⟨rfl, hd_w2⟩
      have HW2 : Hid (Dr _ w2) := HW1.out.trans hd_w2
      clear hd_w2 HW1
      go_wp2
      go_loopw [7, 8] (fun mv kv wr => ∃ k : Nat, k ≤ d.length ∧ kv = .int .i64 k ∧ mv = .int .i64 (arTo d s far k) ∧ Hid (Dr w wr)) (fun _ kv _ => d.length - (intOf kv).toNat)
      case atStart => exact ⟨0, Nat.zero_le _, rfl, rfl, HW2⟩
      case round =>
        clear HW2
        obtain ⟨k, hk, rfl, rfl, HW⟩ := hrel
        by_cases hklt : k < d.length
        · have hw := wrap_pow (n := k) (by omega)
          have hbd := arTo_bd d s far k
          have hpb := pow_bd0 (n := k) (by omega)
          have ct := specToSet_any lo hi _ d k s wr (HD.out.dr HW.out)
          rw [toV_yes ⟨HS.out, by omega, by omega⟩] at ct
          have HC := Lib.hid <| ct
          clear ct
          by_cases hn : tsF d k s ≤ far
          · have hb : decide (tsF d k s ≤ far) = true := by simpa using hn
            have HE := Lib.hid <| arTo_yes hn
            clear hn
            go_wp2_with fail
            refine (HC.out).mono ?_
            rintro e w1 ⟨rfl, hd_w1⟩
            have HW1 : Hid (Dr _ w1) := HW.out.trans hd_w1
            clear hd_w1 HW
            go_wp2
            go_roundw
            case rel => exact ⟨k + 1, by omega, by go_num, by rw [← HE.out], HW1⟩
            case measure => simp [intOf]; omega
          · have hb : decide (tsF d k s ≤ far) = false := by simpa using hn
            have HE := Lib.hid <| arTo_no hn
            clear hn
            go_wp2_with fail
            refine (HC.out).mono ?_
            rintro e w1 ⟨rfl, hd_w1⟩
            have HW1 : Hid (Dr _ w1) := HW.out.trans hd_w1
            clear hd_w1 HW
            go_wp2
            go_roundw
            case rel => exact ⟨k + 1, by omega, by go_num, by rw [← HE.out], HW1⟩
            case measure => simp [intOf]; omega
        · have hke : k = d.length := by omega
          subst hke
          go_wp2
          go_ret
          exact ⟨by rw [HV.out]; rfl, HW.out⟩
    · have HV := Lib.hid <| arV_no (d := d) (s := s) (far := far) fun h => hf h.far
      have HF := Lib.hid <| hf
      clear cs hS hf
      go_enter Try.func29, Try.ntmps29
      go_wp2_with fail
      refine (HCS.out).mono ?_
      rintro e w1 ⟨rfl, hd_w1⟩
      have HW1 : Hid (Dr _ w1) := hd_w1
      clear hd_w1
      go_wp2_with fail
      refine (l1In_no _ _ _ _ HF.out).mono ?_
      rintro e w2 ⟨rfl, hd_w2⟩
      have HW2 : Hid (Dr _ w2) := HW1.out.trans hd_w2
      clear hd_w2 HW1
      go_wp2
      go_ret
      exact ⟨by rw [HV.out]; rfl, HW2.out⟩
  · rw [decP_no hS] at cs
    have HCS := Lib.hid <| cs
    have HV := Lib.hid <| arV_no (d := d) (s := s) (far := far) fun h => hS h.set
    clear cs hS
    go_enter Try.func29, Try.ntmps29
    go_wp2_with fail
    refine (HCS.out).mono ?_
    rintro e w1 ⟨rfl, hd_w1⟩
    have HW1 : Hid (Dr _ w1) := hd_w1
    clear hd_w1
    go_wp2
    go_ret
    exact ⟨by rw [HV.out]; rfl, HW1.out⟩

end Go.Proofs.Ytclffncimaigfaa
