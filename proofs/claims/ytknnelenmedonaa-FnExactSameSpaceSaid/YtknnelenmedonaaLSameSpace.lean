/- The law FnExactSameSpace: for every input it returns true, and each argument reads behind the call as it read before. Conditions: none. -/
import Derived.Test.YtknnelenmedonaaSameS
import Derived.Test.YtknnelenmedonaaMark
import Derived.Test.YtknnelenmedonaaLawKit
import Derived.Test.YtknnelenmedonaaRows
namespace Go.Proofs.Ytknnelenmedonaa.exactSameSpace
open Go.ChangeShapes Go.WideShapes Go.ChangeAt Go.RowKit Go.Deep
set_option linter.unusedVariables false
set_option linter.unusedSimpArgs false

set_option maxHeartbeats 4000000 in
theorem walk (w : World) (v0 : Value) (d0 : List (List Int)) (v1 : Value) (d1 : List (List Int)) (h0 : MIn w v0 d0) (h1 : MIn w v1 d1)  :
    Calls Try.prog 9 #[v0, v1] w fun e w' => e = .returned (.bool true) ∧ Below w.heap.size w w' := by
  obtain ⟨o0, c0, rfl, hm0, _⟩ := id h0
  obtain ⟨o1, c1, rfl, hm1, _⟩ := id h1
  rw [maxLen_val] at hm0 hm1
  have A0 := Lib.hid h0
  have A1 := Lib.hid h1
  clear h0 h1
  go_enter Try.func9, Try.ntmps9
  have HB : Hid (Below w.heap.size w w) := Below.refl _ _
  go_wp2_with fail
  refine (szIntSS_any _ _ _ _ A0.out (by omega) (by omega)).mono ?_
  rintro e ws0 ⟨r0, rfl, hz0, rfl⟩
  by_cases hr0 : r0 < 0
  · clear hz0
    go_wp2
    go_ret
    exact ⟨rfl, HB.out⟩
  have hz0 : 0 ≤ r0 ∧ r0 ≤ 1048576 ∧ (d0.length : Int) ≤ 1048576 ∧ ∀ i, i < d0.length → ((row d0 i).length : Int) ≤ 1048576 := hz0.resolve_left hr0
  obtain ⟨q0, q0', hl0, hrow0⟩ := hz0
  have L0 : Hid (d0.length ≤ 1048576) := by show _ ≤ _; omega
  have R0 : Hid (∀ i, i < d0.length → (row d0 i).length ≤ 1048576) := fun j hj => by have := hrow0 j hj; omega
  clear hl0 hrow0
  go_wp2_with fail
  refine (szIntSS_any _ _ _ _ A1.out (by omega) (by omega)).mono ?_
  rintro e ws1 ⟨r1, rfl, hz1, rfl⟩
  by_cases hr1 : r1 < 0
  · clear hz1
    go_wp2
    go_ret
    exact ⟨rfl, HB.out⟩
  have hz1 : 0 ≤ r1 ∧ r1 ≤ r0 ∧ (d1.length : Int) ≤ r0 ∧ ∀ i, i < d1.length → ((row d1 i).length : Int) ≤ r0 := hz1.resolve_left hr1
  obtain ⟨q1, q1', hl1, hrow1⟩ := hz1
  have L1 : Hid (d1.length ≤ 1048576) := by show _ ≤ _; omega
  have R1 : Hid (∀ i, i < d1.length → (row d1 i).length ≤ 1048576) := fun j hj => by have := hrow1 j hj; omega
  clear hl1 hrow1
  go_wp2_with fail
  refine (toIntSS_any _ _ _ (A0.out.keep HB.out) L0.out R0.out).mono ?_
  rintro e w1 ⟨x1, rfl, m1, b1⟩
  have HB1 : Hid (Below w.heap.size w w1) := HB.out.trans (b1.mono HB.out.size)
  have S1 : Hid (w.heap.size ≤ w1.heap.size) := b1.size
  clear b1 HB
  have Fx1_1 := Lib.hid m1
  clear m1
  go_wp2_with fail
  refine (toIntSS_any _ _ _ (A1.out.keep HB1.out) L1.out R1.out).mono ?_
  rintro e w2 ⟨x2, rfl, m2, b2⟩
  have Fx1_2 := Lib.hid (Fx1_1.out.fresh b2)
  have HB2 : Hid (Below w.heap.size w w2) := HB1.out.trans (b2.mono HB1.out.size)
  have S2 : Hid (w1.heap.size ≤ w2.heap.size) := b2.size
  clear Fx1_1 b2 HB1
  have Fx2_2 := Lib.hid m2
  clear m2
  go_wp2_with fail
  refine (specSameSpace_any _ _ _ _ _ _ _ _ _ Fx1_2.out Fx2_2.out).mono ?_
  rintro e w3 ⟨x3, rfl, m3, b3⟩
  have Fx1_3 := Lib.hid (Fx1_2.out.fresh b3)
  have Fx2_3 := Lib.hid (Fx2_2.out.fresh b3)
  have HB3 : Hid (Below w.heap.size w w3) := HB2.out.trans (b3.mono HB2.out.size)
  have S3 : Hid (w2.heap.size ≤ w3.heap.size) := b3.size
  clear Fx1_2 Fx2_2 b3 HB2
  have Fx3_3 := Lib.hid m3
  clear m3
  clear Fx1_3
  clear Fx2_3
  go_wp2_with fail
  refine (toIntSS_any _ _ _ (A0.out.keep HB3.out) L0.out R0.out).mono ?_
  rintro e w4 ⟨x4, rfl, m4, b4⟩
  have Fx3_4 := Lib.hid (Fx3_3.out.fresh b4)
  have HB4 : Hid (Below w.heap.size w w4) := HB3.out.trans (b4.mono HB3.out.size)
  have S4 : Hid (w3.heap.size ≤ w4.heap.size) := b4.size
  clear Fx3_3 b4 HB3
  have Fx4_4 := Lib.hid m4
  clear m4
  go_wp2_with fail
  refine (toIntSS_any _ _ _ (A1.out.keep HB4.out) L1.out R1.out).mono ?_
  rintro e w5 ⟨x5, rfl, m5, b5⟩
  have Fx3_5 := Lib.hid (Fx3_4.out.fresh b5)
  have Fx4_5 := Lib.hid (Fx4_4.out.fresh b5)
  have HB5 : Hid (Below w.heap.size w w5) := HB4.out.trans (b5.mono HB4.out.size)
  have S5 : Hid (w4.heap.size ≤ w5.heap.size) := b5.size
  clear Fx3_4 Fx4_4 b5 HB4
  have Fx5_5 := Lib.hid m5
  clear m5
  go_wp2_with fail
  refine (implSameSpace_any _ _ _ _ _ _ _ _ _ Fx4_5.out Fx5_5.out).mono ?_
  rintro e w6 ⟨x6, rfl, m6, b6⟩
  have Fx3_6 := Lib.hid (Fx3_5.out.fresh b6)
  have Fx4_6 := Lib.hid (Fx4_5.out.fresh b6)
  have Fx5_6 := Lib.hid (Fx5_5.out.fresh b6)
  have HB6 : Hid (Below w.heap.size w w6) := HB5.out.trans (b6.mono HB5.out.size)
  have S6 : Hid (w5.heap.size ≤ w6.heap.size) := b6.size
  clear Fx3_5 Fx4_5 Fx5_5 b6 HB5
  have Fx6_6 := Lib.hid m6
  clear m6
  go_wp2_with fail
  refine (eqIntS_yes _ _ _ _ (Fx6_6.out.inn) (Fx3_6.out.inn)).mono ?_
  rintro e w7 ⟨rfl, dd7⟩
  have b7 := dd7.below w6.heap.size
  clear dd7
  have Fx3_7 := Lib.hid (Fx3_6.out.fresh b7)
  have Fx4_7 := Lib.hid (Fx4_6.out.fresh b7)
  have Fx5_7 := Lib.hid (Fx5_6.out.fresh b7)
  have Fx6_7 := Lib.hid (Fx6_6.out.fresh b7)
  have HB7 : Hid (Below w.heap.size w w7) := HB6.out.trans (b7.mono HB6.out.size)
  have S7 : Hid (w6.heap.size ≤ w7.heap.size) := b7.size
  clear Fx3_6 Fx4_6 Fx5_6 Fx6_6 b7 HB6
  go_wp2_with fail
  refine (toIntSS_any _ _ _ (A0.out.keep HB7.out) L0.out R0.out).mono ?_
  rintro e w8 ⟨x8, rfl, m8, b8⟩
  have Fx3_8 := Lib.hid (Fx3_7.out.fresh b8)
  have Fx4_8 := Lib.hid (Fx4_7.out.fresh b8)
  have Fx5_8 := Lib.hid (Fx5_7.out.fresh b8)
  have Fx6_8 := Lib.hid (Fx6_7.out.fresh b8)
  have HB8 : Hid (Below w.heap.size w w8) := HB7.out.trans (b8.mono HB7.out.size)
  have S8 : Hid (w7.heap.size ≤ w8.heap.size) := b8.size
  clear Fx3_7 Fx4_7 Fx5_7 Fx6_7 b8 HB7
  have Fx8_8 := Lib.hid m8
  clear m8
  go_wp2_with fail
  refine (eqIntSS_yes _ _ _ _ (Fx4_8.out.inn) (Fx8_8.out.inn)).mono ?_
  rintro e w9 ⟨rfl, dd9⟩
  have b9 := dd9.below w8.heap.size
  clear dd9
  have Fx3_9 := Lib.hid (Fx3_8.out.fresh b9)
  have Fx4_9 := Lib.hid (Fx4_8.out.fresh b9)
  have Fx5_9 := Lib.hid (Fx5_8.out.fresh b9)
  have Fx6_9 := Lib.hid (Fx6_8.out.fresh b9)
  have Fx8_9 := Lib.hid (Fx8_8.out.fresh b9)
  have HB9 : Hid (Below w.heap.size w w9) := HB8.out.trans (b9.mono HB8.out.size)
  have S9 : Hid (w8.heap.size ≤ w9.heap.size) := b9.size
  clear Fx3_8 Fx4_8 Fx5_8 Fx6_8 Fx8_8 b9 HB8
  clear Fx8_9
  go_wp2_with fail
  refine (toIntSS_any _ _ _ (A1.out.keep HB9.out) L1.out R1.out).mono ?_
  rintro e w10 ⟨x10, rfl, m10, b10⟩
  have Fx3_10 := Lib.hid (Fx3_9.out.fresh b10)
  have Fx4_10 := Lib.hid (Fx4_9.out.fresh b10)
  have Fx5_10 := Lib.hid (Fx5_9.out.fresh b10)
  have Fx6_10 := Lib.hid (Fx6_9.out.fresh b10)
  have HB10 : Hid (Below w.heap.size w w10) := HB9.out.trans (b10.mono HB9.out.size)
  have S10 : Hid (w9.heap.size ≤ w10.heap.size) := b10.size
  clear Fx3_9 Fx4_9 Fx5_9 Fx6_9 b10 HB9
  have Fx10_10 := Lib.hid m10
  clear m10
  go_wp2_with fail
  refine (eqIntSS_yes _ _ _ _ (Fx5_10.out.inn) (Fx10_10.out.inn)).mono ?_
  rintro e w11 ⟨rfl, dd11⟩
  have b11 := dd11.below w10.heap.size
  clear dd11
  have Fx3_11 := Lib.hid (Fx3_10.out.fresh b11)
  have Fx4_11 := Lib.hid (Fx4_10.out.fresh b11)
  have Fx5_11 := Lib.hid (Fx5_10.out.fresh b11)
  have Fx6_11 := Lib.hid (Fx6_10.out.fresh b11)
  have Fx10_11 := Lib.hid (Fx10_10.out.fresh b11)
  have HB11 : Hid (Below w.heap.size w w11) := HB10.out.trans (b11.mono HB10.out.size)
  have S11 : Hid (w10.heap.size ≤ w11.heap.size) := b11.size
  clear Fx3_10 Fx4_10 Fx5_10 Fx6_10 Fx10_10 b11 HB10
  clear Fx10_11
  have T12 := tot_small L0.out R0.out
  have LL12 := L0.out
  go_wp2_with fail
  refine (markIntSS_any w3.heap.size w4.heap.size _ _ _ _ (.inl Fx4_11.out) (by omega) (by omega) (by omega) (by omega)).mono ?_
  rintro e w12 ⟨rfl, m12, b12⟩
  clear LL12
  have oS1 := S1.out
  have oS2 := S2.out
  have oS3 := S3.out
  have oS4 := S4.out
  have oS5 := S5.out
  have oS6 := S6.out
  have oS7 := S7.out
  have oS8 := S8.out
  have oS9 := S9.out
  have oS10 := S10.out
  have oS11 := S11.out
  have Fx3_12 := Lib.hid (Fx3_11.out.outside b12 (by omega))
  have Fx5_12 := Lib.hid (Fx5_11.out.outside b12 (by omega))
  have Fx6_12 := Lib.hid (Fx6_11.out.outside b12 (by omega))
  have HB12 : Hid (Below w.heap.size w w12) := HB11.out.trans (b12.below.mono (by have := HB11.out.size; omega))
  have S12 : Hid (w11.heap.size ≤ w12.heap.size) := by show _ ≤ _; rw [b12.size]; exact Nat.le_refl _
  clear oS1 oS2 oS3 oS4 oS5 oS6 oS7 oS8 oS9 oS10 oS11 Fx3_11 Fx4_11 Fx5_11 Fx6_11 b12 HB11
  clear m12
  have T13 := tot_small L1.out R1.out
  have LL13 := L1.out
  go_wp2_with fail
  refine (markIntSS_any w4.heap.size w5.heap.size _ _ _ _ (.inl Fx5_12.out) (by omega) (by omega) (by omega) (by omega)).mono ?_
  rintro e w13 ⟨rfl, m13, b13⟩
  clear LL13
  have oS1 := S1.out
  have oS2 := S2.out
  have oS3 := S3.out
  have oS4 := S4.out
  have oS5 := S5.out
  have oS6 := S6.out
  have oS7 := S7.out
  have oS8 := S8.out
  have oS9 := S9.out
  have oS10 := S10.out
  have oS11 := S11.out
  have oS12 := S12.out
  have Fx3_13 := Lib.hid (Fx3_12.out.outside b13 (by omega))
  have Fx6_13 := Lib.hid (Fx6_12.out.outside b13 (by omega))
  have HB13 : Hid (Below w.heap.size w w13) := HB12.out.trans (b13.below.mono (by have := HB12.out.size; omega))
  have S13 : Hid (w12.heap.size ≤ w13.heap.size) := by show _ ≤ _; rw [b13.size]; exact Nat.le_refl _
  clear oS1 oS2 oS3 oS4 oS5 oS6 oS7 oS8 oS9 oS10 oS11 oS12 Fx3_12 Fx5_12 Fx6_12 b13 HB12
  clear m13
  go_wp2_with fail
  refine (eqIntS_yes _ _ _ _ (Fx6_13.out.inn) (Fx3_13.out.inn)).mono ?_
  rintro e w14 ⟨rfl, dd14⟩
  have b14 := dd14.below w13.heap.size
  clear dd14
  have Fx3_14 := Lib.hid (Fx3_13.out.fresh b14)
  have Fx6_14 := Lib.hid (Fx6_13.out.fresh b14)
  have HB14 : Hid (Below w.heap.size w w14) := HB13.out.trans (b14.mono HB13.out.size)
  have S14 : Hid (w13.heap.size ≤ w14.heap.size) := b14.size
  clear Fx3_13 Fx6_13 b14 HB13
  have G1 : Hid (((samV d0 d1).getD []).length ≤ 1152921504606846976) := by have := samV_len d0 d1; show _ ≤ _; omega
  go_wp2_with fail
  refine (markIntS_any w5.heap.size w6.heap.size _ _ _ _ Fx6_14.out (by omega) (by omega) G1.out).mono ?_
  rintro e w15 ⟨rfl, m15, b15⟩
  have oS1 := S1.out
  have oS2 := S2.out
  have oS3 := S3.out
  have oS4 := S4.out
  have oS5 := S5.out
  have oS6 := S6.out
  have oS7 := S7.out
  have oS8 := S8.out
  have oS9 := S9.out
  have oS10 := S10.out
  have oS11 := S11.out
  have oS12 := S12.out
  have oS13 := S13.out
  have oS14 := S14.out
  have Fx3_15 := Lib.hid (Fx3_14.out.outside b15 (by omega))
  have HB15 : Hid (Below w.heap.size w w15) := HB14.out.trans (b15.below.mono (by have := HB14.out.size; omega))
  have S15 : Hid (w14.heap.size ≤ w15.heap.size) := by show _ ≤ _; rw [b15.size]; exact Nat.le_refl _
  clear oS1 oS2 oS3 oS4 oS5 oS6 oS7 oS8 oS9 oS10 oS11 oS12 oS13 oS14 Fx3_14 Fx6_14 b15 HB14
  have Fx6_15 := Lib.hid m15
  clear m15
  go_wp2_with fail
  refine (heldIntS_any _ _ _ _ Fx6_15.out.inn (by omega) (by omega) G1.out).mono ?_
  rintro e w16 ⟨rfl, dd16⟩
  have b16 := dd16.below w15.heap.size
  clear dd16
  have Fx3_16 := Lib.hid (Fx3_15.out.fresh b16)
  have Fx6_16 := Lib.hid (Fx6_15.out.fresh b16)
  have HB16 : Hid (Below w.heap.size w w16) := HB15.out.trans (b16.mono HB15.out.size)
  have S16 : Hid (w15.heap.size ≤ w16.heap.size) := b16.size
  clear Fx3_15 Fx6_15 b16 HB15
  go_wp2_with fail
  refine (toIntSS_any _ _ _ (A0.out.keep HB16.out) L0.out R0.out).mono ?_
  rintro e w17 ⟨x17, rfl, m17, b17⟩
  have Fx3_17 := Lib.hid (Fx3_16.out.fresh b17)
  have Fx6_17 := Lib.hid (Fx6_16.out.fresh b17)
  have HB17 : Hid (Below w.heap.size w w17) := HB16.out.trans (b17.mono HB16.out.size)
  have S17 : Hid (w16.heap.size ≤ w17.heap.size) := b17.size
  clear Fx3_16 Fx6_16 b17 HB16
  have Fx17_17 := Lib.hid m17
  clear m17
  go_wp2_with fail
  refine (toIntSS_any _ _ _ (A1.out.keep HB17.out) L1.out R1.out).mono ?_
  rintro e w18 ⟨x18, rfl, m18, b18⟩
  have Fx3_18 := Lib.hid (Fx3_17.out.fresh b18)
  have Fx6_18 := Lib.hid (Fx6_17.out.fresh b18)
  have Fx17_18 := Lib.hid (Fx17_17.out.fresh b18)
  have HB18 : Hid (Below w.heap.size w w18) := HB17.out.trans (b18.mono HB17.out.size)
  have S18 : Hid (w17.heap.size ≤ w18.heap.size) := b18.size
  clear Fx3_17 Fx6_17 Fx17_17 b18 HB17
  have Fx18_18 := Lib.hid m18
  clear m18
  go_wp2_with fail
  refine (implSameSpace_any _ _ _ _ _ _ _ _ _ Fx17_18.out Fx18_18.out).mono ?_
  rintro e w19 ⟨x19, rfl, m19, b19⟩
  have Fx3_19 := Lib.hid (Fx3_18.out.fresh b19)
  have Fx6_19 := Lib.hid (Fx6_18.out.fresh b19)
  have Fx17_19 := Lib.hid (Fx17_18.out.fresh b19)
  have Fx18_19 := Lib.hid (Fx18_18.out.fresh b19)
  have HB19 : Hid (Below w.heap.size w w19) := HB18.out.trans (b19.mono HB18.out.size)
  have S19 : Hid (w18.heap.size ≤ w19.heap.size) := b19.size
  clear Fx3_18 Fx6_18 Fx17_18 Fx18_18 b19 HB18
  have Fx19_19 := Lib.hid m19
  clear m19
  clear Fx17_19
  clear Fx18_19
  go_wp2_with fail
  refine (eqIntS_yes _ _ _ _ (Fx19_19.out.inn) (Fx3_19.out.inn)).mono ?_
  rintro e w20 ⟨rfl, dd20⟩
  have b20 := dd20.below w19.heap.size
  clear dd20
  have Fx3_20 := Lib.hid (Fx3_19.out.fresh b20)
  have Fx6_20 := Lib.hid (Fx6_19.out.fresh b20)
  have Fx19_20 := Lib.hid (Fx19_19.out.fresh b20)
  have HB20 : Hid (Below w.heap.size w w20) := HB19.out.trans (b20.mono HB19.out.size)
  have S20 : Hid (w19.heap.size ≤ w20.heap.size) := b20.size
  clear Fx3_19 Fx6_19 Fx19_19 b20 HB19
  go_wp2_with fail
  refine (heldIntS_any _ _ _ _ Fx6_20.out.inn (by omega) (by omega) G1.out).mono ?_
  rintro e w21 ⟨rfl, dd21⟩
  have b21 := dd21.below w20.heap.size
  clear dd21
  have Fx3_21 := Lib.hid (Fx3_20.out.fresh b21)
  have Fx6_21 := Lib.hid (Fx6_20.out.fresh b21)
  have Fx19_21 := Lib.hid (Fx19_20.out.fresh b21)
  have HB21 : Hid (Below w.heap.size w w21) := HB20.out.trans (b21.mono HB20.out.size)
  have S21 : Hid (w20.heap.size ≤ w21.heap.size) := b21.size
  clear Fx3_20 Fx6_20 Fx19_20 b21 HB20
  go_wp2
  go_ret
  exact ⟨rfl, HB21.out⟩

theorem walk_all (w : World) (v0 : Value) (d0 : List (List Int)) (v1 : Value) (d1 : List (List Int)) (h0 : MIn w v0 d0) (h1 : MIn w v1 d1) :
    Calls Try.prog 9 #[v0, v1] w fun e w' => e = .returned (.bool true) ∧ Below w.heap.size w w' := by
  exact walk w v0 d0 v1 d1 h0 h1

set_option maxRecDepth 100000 in
theorem lifted (os : Os) (started : os.Started) (H : Type) (enc : TypeId × Value → H) :
    ReturnsInHanded {} Try.checked os 9 .any (Rows.fnExactSameSpaceSpec.pre6 enc Try.prog Try.f9 Rows.fnExactSameSpaceRow.domain false) (Rows.fnExactSameSpaceSpec.post enc Try.prog Try.f9 false true false false) := by
  refine returnsInHanded_of_change (C := Try.checked) own_knob started (by kernel_rfl) Try.func9
    (ChangeSpec.witness6 (enc := enc) (C := Try.checked) false ⟨#[], #[.slice none 0 0, .slice none 0 0], []⟩ 8 (by kernel_rfl) (by kernel_rfl) (by kernel_rfl) (by kernel_rfl)) ?_
  intro W base args ds gs before hval0 hW hcnd _
  have hval : ∀ (j : Nat) t v, Try.f9.params[j]? = some t → args[j]? = some v → Value.okWide Try.prog W .any base t v := hval0
  have hW' := hW
  obtain ⟨p, q, hA0, hV, rfl, hfz, hnd⟩ := hW
  have hA : DataW.TrodAll enc Try.prog W 0 (fun _ => true) true Try.f9.params.toList args.toList ds p := hA0
  rw [Try.params9] at hA hval
  obtain ⟨v0, vs0, e0, es0, p0, q0, hargs, rfl, rfl, h0, r0⟩ := trodAll_cons hA
  obtain ⟨v1, vs1, e1, es1, p1, q1, rfl, rfl, rfl, h1, r1⟩ := trodAll_cons r0
  obtain ⟨rfl, rfl, rfl⟩ := trodAll_nil r1
  obtain rfl : args = #[v0, v1] := by cases args; simp_all
  obtain ⟨rfl, rfl⟩ := trodVars_none hV
  obtain ⟨a0, len0, cap0, rfl⟩ := okWide_slice Try.underlying30 (hval 0 30 v0 rfl rfl)
  have k0 := h0
  have lt0 : ∀ x ∈ p0, x.block < W.heap.size := by obtain ⟨m, hm⟩ := k0; exact DataW.trod_lt m _ _ _ hm
  obtain ⟨z0, y0⟩ := open_rows h0
  obtain ⟨a1, len1, cap1, rfl⟩ := okWide_slice Try.underlying30 (hval 1 30 v1 rfl rfl)
  have k1 := h1
  have lt1 : ∀ x ∈ p1, x.block < W.heap.size := by obtain ⟨m, hm⟩ := k1; exact DataW.trod_lt m _ _ _ hm
  obtain ⟨z1, y1⟩ := open_rows h1
  clear hA0 hval0
  refine (walk_all W _ z0 _ z1 y0 y1).mono fun e W' ⟨he, bel⟩ => ?_
  subst he
  exact ⟨_, rfl, _, _, _, [], _, [], hW', trodAll_mk1 (shut_bool Try.underlying4 _), (trodAll_cons_mk (Below.trod laid_out (by kernel_rfl) (of_decide_eq_true (by kernel_rfl)) k0 bel lt0) (trodAll_cons_mk (Below.trod laid_out (by kernel_rfl) (of_decide_eq_true (by kernel_rfl)) k1 bel lt1) trodAll_mk0)), rfl, bel.frame _, fun h => by cases h⟩

theorem over : Rows.fnExactSameSpaceRow.holds Try.pinned (OpenSpec.ofChange Rows.fnExactSameSpaceSpec) :=
  OpenClaim.holds_of_wide 9 Try.f9 rfl rfl rfl rfl rfl rfl rfl ⟨rfl, rfl, rfl, rfl, rfl⟩ rfl rfl rfl rfl rfl (by kernel_rfl) Try.func9 (by kernel_rfl)
    (of_decide_eq_true (by kernel_rfl)) (by unfold Func.isWrapper; first | (rw [if_pos (by decide +kernel)]; kernel_rfl) | (rw [if_neg (by decide +kernel)]; exact ⟨rfl, rfl⟩))
    (fun os started H enc _ => lifted os started H enc)
end Go.Proofs.Ytknnelenmedonaa.exactSameSpace
namespace Go.Proofs.Ytknnelenmedonaa
theorem fnExactSameSpace_holds : Rows.FnExactSameSpaceSaid := exactSameSpace.over
#print axioms fnExactSameSpace_holds
end Go.Proofs.Ytknnelenmedonaa
