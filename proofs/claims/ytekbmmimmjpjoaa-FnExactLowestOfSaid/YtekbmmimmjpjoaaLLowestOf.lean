/- The law FnExactLowestOf: for every input it returns true, and each argument reads behind the call as it read before. Conditions: none. -/
import Derived.Test.YtekbmmimmjpjoaaLens
import Derived.Test.YtekbmmimmjpjoaaLawKit
import Derived.Test.YtekbmmimmjpjoaaRows
namespace Go.Proofs.Ytekbmmimmjpjoaa.exactLowestOf
open Go.ChangeShapes Go.WideShapes Go.ChangeAt Go.RowKit Go.Deep
set_option linter.unusedVariables false
set_option linter.unusedSimpArgs false

set_option maxHeartbeats 4000000 in
theorem walk (w : World) (v0 : Value) (d0 : List (List Int)) (v1 : Value) (d1 : List Int) (v2 : Value) (d2 : List Int) (h0 : MIn w v0 d0) (h1 : IIn w v1 d1) (h2 : IIn w v2 d2) (s1 : d1.length ≤ 1048576) (s2 : d2.length ≤ 1048576) :
    Calls Try.prog 15 #[v0, v1, v2] w fun e w' => e = .returned (.bool true) ∧ Below w.heap.size w w' := by
  obtain ⟨o0, c0, rfl, hm0, _⟩ := id h0
  obtain ⟨o1, c1, rfl, hm1, _⟩ := id h1
  obtain ⟨o2, c2, rfl, hm2, _⟩ := id h2
  rw [maxLen_val] at hm0 hm1 hm2
  have A0 := Lib.hid h0
  have A1 := Lib.hid h1
  have A2 := Lib.hid h2
  clear h0 h1 h2
  go_enter Try.func15, Try.ntmps15
  have HB : Hid (Below w.heap.size w w) := Below.refl _ _
  go_wp2_with fail
  refine (szIntSS_any _ _ _ _ A0.out (by omega) (by omega)).mono ?_
  rintro e ws0 ⟨r0, rfl, hz0, rfl⟩
  by_cases hr0 : r0 < 0
  · clear hz0
    go_wp2
    go_ret
    exact ⟨rfl, HB.out⟩
  have hz0 : 0 ≤ r0 ∧ r0 ≤ 1048576 ∧ (d0.length : Int) ≤ 1048576 ∧ ∀ i, i < d0.length → ((row d0 i).length : Int) ≤ 1048576 := hz0.resolve_left hr0
  obtain ⟨q0, q0', hl0, hrow0⟩ := hz0
  have L0 : Hid (d0.length ≤ 1048576) := by show _ ≤ _; omega
  have R0 : Hid (∀ i, i < d0.length → (row d0 i).length ≤ 1048576) := fun j hj => by have := hrow0 j hj; omega
  clear hl0 hrow0
  go_wp2_with fail
  refine (toIntSS_any _ _ _ (A0.out.keep HB.out) L0.out R0.out).mono ?_
  rintro e w1 ⟨x1, rfl, m1, b1⟩
  have HB1 : Hid (Below w.heap.size w w1) := HB.out.trans (b1.mono HB.out.size)
  have S1 : Hid (w.heap.size ≤ w1.heap.size) := b1.size
  clear b1 HB
  have Fx1_1 := Lib.hid m1
  clear m1
  go_wp2_with fail
  refine (toIntS_any _ _ _ (A1.out.keep HB1.out) s1).mono ?_
  rintro e w2 ⟨x2, rfl, m2, b2⟩
  have Fx1_2 := Lib.hid (Fx1_1.out.fresh b2)
  have HB2 : Hid (Below w.heap.size w w2) := HB1.out.trans (b2.mono HB1.out.size)
  have S2 : Hid (w1.heap.size ≤ w2.heap.size) := b2.size
  clear Fx1_1 b2 HB1
  have Fx2_2 := Lib.hid m2
  clear m2
  go_wp2_with fail
  refine (toIntS_any _ _ _ (A2.out.keep HB2.out) s2).mono ?_
  rintro e w3 ⟨x3, rfl, m3, b3⟩
  have Fx1_3 := Lib.hid (Fx1_2.out.fresh b3)
  have Fx2_3 := Lib.hid (Fx2_2.out.fresh b3)
  have HB3 : Hid (Below w.heap.size w w3) := HB2.out.trans (b3.mono HB2.out.size)
  have S3 : Hid (w2.heap.size ≤ w3.heap.size) := b3.size
  clear Fx1_2 Fx2_2 b3 HB2
  have Fx3_3 := Lib.hid m3
  clear m3
  go_wp2_with fail
  refine (specLowestOf_any _ _ _ _ _ _ _ _ _ _ _ _ _ Fx1_3.out Fx2_3.out Fx3_3.out).mono ?_
  rintro e w4 ⟨x4, rfl, m4, b4⟩
  have Fx1_4 := Lib.hid (Fx1_3.out.fresh b4)
  have Fx2_4 := Lib.hid (Fx2_3.out.fresh b4)
  have Fx3_4 := Lib.hid (Fx3_3.out.fresh b4)
  have HB4 : Hid (Below w.heap.size w w4) := HB3.out.trans (b4.mono HB3.out.size)
  have S4 : Hid (w3.heap.size ≤ w4.heap.size) := b4.size
  clear Fx1_3 Fx2_3 Fx3_3 b4 HB3
  have Fx4_4 := Lib.hid m4
  clear m4
  clear Fx1_4
  clear Fx2_4
  clear Fx3_4
  go_wp2_with fail
  refine (toIntSS_any _ _ _ (A0.out.keep HB4.out) L0.out R0.out).mono ?_
  rintro e w5 ⟨x5, rfl, m5, b5⟩
  have Fx4_5 := Lib.hid (Fx4_4.out.fresh b5)
  have HB5 : Hid (Below w.heap.size w w5) := HB4.out.trans (b5.mono HB4.out.size)
  have S5 : Hid (w4.heap.size ≤ w5.heap.size) := b5.size
  clear Fx4_4 b5 HB4
  have Fx5_5 := Lib.hid m5
  clear m5
  go_wp2_with fail
  refine (toIntS_any _ _ _ (A1.out.keep HB5.out) s1).mono ?_
  rintro e w6 ⟨x6, rfl, m6, b6⟩
  have Fx4_6 := Lib.hid (Fx4_5.out.fresh b6)
  have Fx5_6 := Lib.hid (Fx5_5.out.fresh b6)
  have HB6 : Hid (Below w.heap.size w w6) := HB5.out.trans (b6.mono HB5.out.size)
  have S6 : Hid (w5.heap.size ≤ w6.heap.size) := b6.size
  clear Fx4_5 Fx5_5 b6 HB5
  have Fx6_6 := Lib.hid m6
  clear m6
  go_wp2_with fail
  refine (toIntS_any _ _ _ (A2.out.keep HB6.out) s2).mono ?_
  rintro e w7 ⟨x7, rfl, m7, b7⟩
  have Fx4_7 := Lib.hid (Fx4_6.out.fresh b7)
  have Fx5_7 := Lib.hid (Fx5_6.out.fresh b7)
  have Fx6_7 := Lib.hid (Fx6_6.out.fresh b7)
  have HB7 : Hid (Below w.heap.size w w7) := HB6.out.trans (b7.mono HB6.out.size)
  have S7 : Hid (w6.heap.size ≤ w7.heap.size) := b7.size
  clear Fx4_6 Fx5_6 Fx6_6 b7 HB6
  have Fx7_7 := Lib.hid m7
  clear m7
  go_wp2_with fail
  refine (implLowestOf_any _ _ _ _ _ _ _ _ _ _ _ _ _ Fx5_7.out Fx6_7.out Fx7_7.out).mono ?_
  rintro e w8 ⟨x8, rfl, m8, b8⟩
  have Fx4_8 := Lib.hid (Fx4_7.out.fresh b8)
  have Fx5_8 := Lib.hid (Fx5_7.out.fresh b8)
  have Fx6_8 := Lib.hid (Fx6_7.out.fresh b8)
  have Fx7_8 := Lib.hid (Fx7_7.out.fresh b8)
  have HB8 : Hid (Below w.heap.size w w8) := HB7.out.trans (b8.mono HB7.out.size)
  have S8 : Hid (w7.heap.size ≤ w8.heap.size) := b8.size
  clear Fx4_7 Fx5_7 Fx6_7 Fx7_7 b8 HB7
  have Fx8_8 := Lib.hid m8
  clear m8
  go_wp2_with fail
  refine (eqIntS_yes _ _ _ _ (Fx8_8.out.inn) (Fx4_8.out.inn)).mono ?_
  rintro e w9 ⟨rfl, dd9⟩
  have b9 := dd9.below w8.heap.size
  clear dd9
  have Fx4_9 := Lib.hid (Fx4_8.out.fresh b9)
  have Fx5_9 := Lib.hid (Fx5_8.out.fresh b9)
  have Fx6_9 := Lib.hid (Fx6_8.out.fresh b9)
  have Fx7_9 := Lib.hid (Fx7_8.out.fresh b9)
  have Fx8_9 := Lib.hid (Fx8_8.out.fresh b9)
  have HB9 : Hid (Below w.heap.size w w9) := HB8.out.trans (b9.mono HB8.out.size)
  have S9 : Hid (w8.heap.size ≤ w9.heap.size) := b9.size
  clear Fx4_8 Fx5_8 Fx6_8 Fx7_8 Fx8_8 b9 HB8
  go_wp2_with fail
  refine (toIntSS_any _ _ _ (A0.out.keep HB9.out) L0.out R0.out).mono ?_
  rintro e w10 ⟨x10, rfl, m10, b10⟩
  have Fx4_10 := Lib.hid (Fx4_9.out.fresh b10)
  have Fx5_10 := Lib.hid (Fx5_9.out.fresh b10)
  have Fx6_10 := Lib.hid (Fx6_9.out.fresh b10)
  have Fx7_10 := Lib.hid (Fx7_9.out.fresh b10)
  have Fx8_10 := Lib.hid (Fx8_9.out.fresh b10)
  have HB10 : Hid (Below w.heap.size w w10) := HB9.out.trans (b10.mono HB9.out.size)
  have S10 : Hid (w9.heap.size ≤ w10.heap.size) := b10.size
  clear Fx4_9 Fx5_9 Fx6_9 Fx7_9 Fx8_9 b10 HB9
  have Fx10_10 := Lib.hid m10
  clear m10
  go_wp2_with fail
  refine (eqIntSS_yes _ _ _ _ (Fx5_10.out.inn) (Fx10_10.out.inn)).mono ?_
  rintro e w11 ⟨rfl, dd11⟩
  have b11 := dd11.below w10.heap.size
  clear dd11
  have Fx4_11 := Lib.hid (Fx4_10.out.fresh b11)
  have Fx5_11 := Lib.hid (Fx5_10.out.fresh b11)
  have Fx6_11 := Lib.hid (Fx6_10.out.fresh b11)
  have Fx7_11 := Lib.hid (Fx7_10.out.fresh b11)
  have Fx8_11 := Lib.hid (Fx8_10.out.fresh b11)
  have Fx10_11 := Lib.hid (Fx10_10.out.fresh b11)
  have HB11 : Hid (Below w.heap.size w w11) := HB10.out.trans (b11.mono HB10.out.size)
  have S11 : Hid (w10.heap.size ≤ w11.heap.size) := b11.size
  clear Fx4_10 Fx5_10 Fx6_10 Fx7_10 Fx8_10 Fx10_10 b11 HB10
  clear Fx10_11
  go_wp2_with fail
  refine (toIntS_any _ _ _ (A1.out.keep HB11.out) s1).mono ?_
  rintro e w12 ⟨x12, rfl, m12, b12⟩
  have Fx4_12 := Lib.hid (Fx4_11.out.fresh b12)
  have Fx5_12 := Lib.hid (Fx5_11.out.fresh b12)
  have Fx6_12 := Lib.hid (Fx6_11.out.fresh b12)
  have Fx7_12 := Lib.hid (Fx7_11.out.fresh b12)
  have Fx8_12 := Lib.hid (Fx8_11.out.fresh b12)
  have HB12 : Hid (Below w.heap.size w w12) := HB11.out.trans (b12.mono HB11.out.size)
  have S12 : Hid (w11.heap.size ≤ w12.heap.size) := b12.size
  clear Fx4_11 Fx5_11 Fx6_11 Fx7_11 Fx8_11 b12 HB11
  have Fx12_12 := Lib.hid m12
  clear m12
  go_wp2_with fail
  refine (eqIntS_yes _ _ _ _ (Fx6_12.out.inn) (Fx12_12.out.inn)).mono ?_
  rintro e w13 ⟨rfl, dd13⟩
  have b13 := dd13.below w12.heap.size
  clear dd13
  have Fx4_13 := Lib.hid (Fx4_12.out.fresh b13)
  have Fx5_13 := Lib.hid (Fx5_12.out.fresh b13)
  have Fx6_13 := Lib.hid (Fx6_12.out.fresh b13)
  have Fx7_13 := Lib.hid (Fx7_12.out.fresh b13)
  have Fx8_13 := Lib.hid (Fx8_12.out.fresh b13)
  have Fx12_13 := Lib.hid (Fx12_12.out.fresh b13)
  have HB13 : Hid (Below w.heap.size w w13) := HB12.out.trans (b13.mono HB12.out.size)
  have S13 : Hid (w12.heap.size ≤ w13.heap.size) := b13.size
  clear Fx4_12 Fx5_12 Fx6_12 Fx7_12 Fx8_12 Fx12_12 b13 HB12
  clear Fx12_13
  go_wp2_with fail
  refine (toIntS_any _ _ _ (A2.out.keep HB13.out) s2).mono ?_
  rintro e w14 ⟨x14, rfl, m14, b14⟩
  have Fx4_14 := Lib.hid (Fx4_13.out.fresh b14)
  have Fx5_14 := Lib.hid (Fx5_13.out.fresh b14)
  have Fx6_14 := Lib.hid (Fx6_13.out.fresh b14)
  have Fx7_14 := Lib.hid (Fx7_13.out.fresh b14)
  have Fx8_14 := Lib.hid (Fx8_13.out.fresh b14)
  have HB14 : Hid (Below w.heap.size w w14) := HB13.out.trans (b14.mono HB13.out.size)
  have S14 : Hid (w13.heap.size ≤ w14.heap.size) := b14.size
  clear Fx4_13 Fx5_13 Fx6_13 Fx7_13 Fx8_13 b14 HB13
  have Fx14_14 := Lib.hid m14
  clear m14
  go_wp2_with fail
  refine (eqIntS_yes _ _ _ _ (Fx7_14.out.inn) (Fx14_14.out.inn)).mono ?_
  rintro e w15 ⟨rfl, dd15⟩
  have b15 := dd15.below w14.heap.size
  clear dd15
  have Fx4_15 := Lib.hid (Fx4_14.out.fresh b15)
  have Fx5_15 := Lib.hid (Fx5_14.out.fresh b15)
  have Fx6_15 := Lib.hid (Fx6_14.out.fresh b15)
  have Fx7_15 := Lib.hid (Fx7_14.out.fresh b15)
  have Fx8_15 := Lib.hid (Fx8_14.out.fresh b15)
  have Fx14_15 := Lib.hid (Fx14_14.out.fresh b15)
  have HB15 : Hid (Below w.heap.size w w15) := HB14.out.trans (b15.mono HB14.out.size)
  have S15 : Hid (w14.heap.size ≤ w15.heap.size) := b15.size
  clear Fx4_14 Fx5_14 Fx6_14 Fx7_14 Fx8_14 Fx14_14 b15 HB14
  clear Fx14_15
  have T16 := tot_small L0.out R0.out
  have LL16 := L0.out
  go_wp2_with fail
  refine (markIntSS_any w4.heap.size w5.heap.size _ _ _ _ (.inl Fx5_15.out) (by omega) (by omega) (by omega) (by omega)).mono ?_
  rintro e w16 ⟨rfl, m16, b16⟩
  clear LL16
  have oS1 := S1.out
  have oS2 := S2.out
  have oS3 := S3.out
  have oS4 := S4.out
  have oS5 := S5.out
  have oS6 := S6.out
  have oS7 := S7.out
  have oS8 := S8.out
  have oS9 := S9.out
  have oS10 := S10.out
  have oS11 := S11.out
  have oS12 := S12.out
  have oS13 := S13.out
  have oS14 := S14.out
  have oS15 := S15.out
  have Fx4_16 := Lib.hid (Fx4_15.out.outside b16 (by omega))
  have Fx6_16 := Lib.hid (Fx6_15.out.outside b16 (by omega))
  have Fx7_16 := Lib.hid (Fx7_15.out.outside b16 (by omega))
  have Fx8_16 := Lib.hid (Fx8_15.out.outside b16 (by omega))
  have HB16 : Hid (Below w.heap.size w w16) := HB15.out.trans (b16.below.mono (by have := HB15.out.size; omega))
  have S16 : Hid (w15.heap.size ≤ w16.heap.size) := by show _ ≤ _; rw [b16.size]; exact Nat.le_refl _
  clear oS1 oS2 oS3 oS4 oS5 oS6 oS7 oS8 oS9 oS10 oS11 oS12 oS13 oS14 oS15 Fx4_15 Fx5_15 Fx6_15 Fx7_15 Fx8_15 b16 HB15
  clear m16
  go_wp2_with fail
  refine (markIntS_any w5.heap.size w6.heap.size _ _ _ _ (.inl Fx6_16.out) (by omega) (by omega) (by omega)).mono ?_
  rintro e w17 ⟨rfl, m17, b17⟩
  have oS1 := S1.out
  have oS2 := S2.out
  have oS3 := S3.out
  have oS4 := S4.out
  have oS5 := S5.out
  have oS6 := S6.out
  have oS7 := S7.out
  have oS8 := S8.out
  have oS9 := S9.out
  have oS10 := S10.out
  have oS11 := S11.out
  have oS12 := S12.out
  have oS13 := S13.out
  have oS14 := S14.out
  have oS15 := S15.out
  have oS16 := S16.out
  have Fx4_17 := Lib.hid (Fx4_16.out.outside b17 (by omega))
  have Fx7_17 := Lib.hid (Fx7_16.out.outside b17 (by omega))
  have Fx8_17 := Lib.hid (Fx8_16.out.outside b17 (by omega))
  have HB17 : Hid (Below w.heap.size w w17) := HB16.out.trans (b17.below.mono (by have := HB16.out.size; omega))
  have S17 : Hid (w16.heap.size ≤ w17.heap.size) := by show _ ≤ _; rw [b17.size]; exact Nat.le_refl _
  clear oS1 oS2 oS3 oS4 oS5 oS6 oS7 oS8 oS9 oS10 oS11 oS12 oS13 oS14 oS15 oS16 Fx4_16 Fx6_16 Fx7_16 Fx8_16 b17 HB16
  clear m17
  go_wp2_with fail
  refine (markIntS_any w6.heap.size w7.heap.size _ _ _ _ (.inl Fx7_17.out) (by omega) (by omega) (by omega)).mono ?_
  rintro e w18 ⟨rfl, m18, b18⟩
  have oS1 := S1.out
  have oS2 := S2.out
  have oS3 := S3.out
  have oS4 := S4.out
  have oS5 := S5.out
  have oS6 := S6.out
  have oS7 := S7.out
  have oS8 := S8.out
  have oS9 := S9.out
  have oS10 := S10.out
  have oS11 := S11.out
  have oS12 := S12.out
  have oS13 := S13.out
  have oS14 := S14.out
  have oS15 := S15.out
  have oS16 := S16.out
  have oS17 := S17.out
  have Fx4_18 := Lib.hid (Fx4_17.out.outside b18 (by omega))
  have Fx8_18 := Lib.hid (Fx8_17.out.outside b18 (by omega))
  have HB18 : Hid (Below w.heap.size w w18) := HB17.out.trans (b18.below.mono (by have := HB17.out.size; omega))
  have S18 : Hid (w17.heap.size ≤ w18.heap.size) := by show _ ≤ _; rw [b18.size]; exact Nat.le_refl _
  clear oS1 oS2 oS3 oS4 oS5 oS6 oS7 oS8 oS9 oS10 oS11 oS12 oS13 oS14 oS15 oS16 oS17 Fx4_17 Fx7_17 Fx8_17 b18 HB17
  clear m18
  go_wp2_with fail
  refine (eqIntS_yes _ _ _ _ (Fx8_18.out.inn) (Fx4_18.out.inn)).mono ?_
  rintro e w19 ⟨rfl, dd19⟩
  have b19 := dd19.below w18.heap.size
  clear dd19
  have Fx4_19 := Lib.hid (Fx4_18.out.fresh b19)
  have Fx8_19 := Lib.hid (Fx8_18.out.fresh b19)
  have HB19 : Hid (Below w.heap.size w w19) := HB18.out.trans (b19.mono HB18.out.size)
  have S19 : Hid (w18.heap.size ≤ w19.heap.size) := b19.size
  clear Fx4_18 Fx8_18 b19 HB18
  have G1 : Hid ((loV d0 d1 d2).length ≤ 1152921504606846976) := by have := loV_len d0 d1 d2; show _ ≤ _; omega
  go_wp2_with fail
  refine (markIntS_any w7.heap.size w8.heap.size _ _ _ _ Fx8_19.out (by omega) (by omega) G1.out).mono ?_
  rintro e w20 ⟨rfl, m20, b20⟩
  have oS1 := S1.out
  have oS2 := S2.out
  have oS3 := S3.out
  have oS4 := S4.out
  have oS5 := S5.out
  have oS6 := S6.out
  have oS7 := S7.out
  have oS8 := S8.out
  have oS9 := S9.out
  have oS10 := S10.out
  have oS11 := S11.out
  have oS12 := S12.out
  have oS13 := S13.out
  have oS14 := S14.out
  have oS15 := S15.out
  have oS16 := S16.out
  have oS17 := S17.out
  have oS18 := S18.out
  have oS19 := S19.out
  have Fx4_20 := Lib.hid (Fx4_19.out.outside b20 (by omega))
  have HB20 : Hid (Below w.heap.size w w20) := HB19.out.trans (b20.below.mono (by have := HB19.out.size; omega))
  have S20 : Hid (w19.heap.size ≤ w20.heap.size) := by show _ ≤ _; rw [b20.size]; exact Nat.le_refl _
  clear oS1 oS2 oS3 oS4 oS5 oS6 oS7 oS8 oS9 oS10 oS11 oS12 oS13 oS14 oS15 oS16 oS17 oS18 oS19 Fx4_19 Fx8_19 b20 HB19
  have Fx8_20 := Lib.hid m20
  clear m20
  go_wp2_with fail
  refine (heldIntS_any _ _ _ _ Fx8_20.out.inn (by omega) (by omega) G1.out).mono ?_
  rintro e w21 ⟨rfl, dd21⟩
  have b21 := dd21.below w20.heap.size
  clear dd21
  have Fx4_21 := Lib.hid (Fx4_20.out.fresh b21)
  have Fx8_21 := Lib.hid (Fx8_20.out.fresh b21)
  have HB21 : Hid (Below w.heap.size w w21) := HB20.out.trans (b21.mono HB20.out.size)
  have S21 : Hid (w20.heap.size ≤ w21.heap.size) := b21.size
  clear Fx4_20 Fx8_20 b21 HB20
  go_wp2_with fail
  refine (toIntSS_any _ _ _ (A0.out.keep HB21.out) L0.out R0.out).mono ?_
  rintro e w22 ⟨x22, rfl, m22, b22⟩
  have Fx4_22 := Lib.hid (Fx4_21.out.fresh b22)
  have Fx8_22 := Lib.hid (Fx8_21.out.fresh b22)
  have HB22 : Hid (Below w.heap.size w w22) := HB21.out.trans (b22.mono HB21.out.size)
  have S22 : Hid (w21.heap.size ≤ w22.heap.size) := b22.size
  clear Fx4_21 Fx8_21 b22 HB21
  have Fx22_22 := Lib.hid m22
  clear m22
  go_wp2_with fail
  refine (toIntS_any _ _ _ (A1.out.keep HB22.out) s1).mono ?_
  rintro e w23 ⟨x23, rfl, m23, b23⟩
  have Fx4_23 := Lib.hid (Fx4_22.out.fresh b23)
  have Fx8_23 := Lib.hid (Fx8_22.out.fresh b23)
  have Fx22_23 := Lib.hid (Fx22_22.out.fresh b23)
  have HB23 : Hid (Below w.heap.size w w23) := HB22.out.trans (b23.mono HB22.out.size)
  have S23 : Hid (w22.heap.size ≤ w23.heap.size) := b23.size
  clear Fx4_22 Fx8_22 Fx22_22 b23 HB22
  have Fx23_23 := Lib.hid m23
  clear m23
  go_wp2_with fail
  refine (toIntS_any _ _ _ (A2.out.keep HB23.out) s2).mono ?_
  rintro e w24 ⟨x24, rfl, m24, b24⟩
  have Fx4_24 := Lib.hid (Fx4_23.out.fresh b24)
  have Fx8_24 := Lib.hid (Fx8_23.out.fresh b24)
  have Fx22_24 := Lib.hid (Fx22_23.out.fresh b24)
  have Fx23_24 := Lib.hid (Fx23_23.out.fresh b24)
  have HB24 : Hid (Below w.heap.size w w24) := HB23.out.trans (b24.mono HB23.out.size)
  have S24 : Hid (w23.heap.size ≤ w24.heap.size) := b24.size
  clear Fx4_23 Fx8_23 Fx22_23 Fx23_23 b24 HB23
  have Fx24_24 := Lib.hid m24
  clear m24
  go_wp2_with fail
  refine (implLowestOf_any _ _ _ _ _ _ _ _ _ _ _ _ _ Fx22_24.out Fx23_24.out Fx24_24.out).mono ?_
  rintro e w25 ⟨x25, rfl, m25, b25⟩
  have Fx4_25 := Lib.hid (Fx4_24.out.fresh b25)
  have Fx8_25 := Lib.hid (Fx8_24.out.fresh b25)
  have Fx22_25 := Lib.hid (Fx22_24.out.fresh b25)
  have Fx23_25 := Lib.hid (Fx23_24.out.fresh b25)
  have Fx24_25 := Lib.hid (Fx24_24.out.fresh b25)
  have HB25 : Hid (Below w.heap.size w w25) := HB24.out.trans (b25.mono HB24.out.size)
  have S25 : Hid (w24.heap.size ≤ w25.heap.size) := b25.size
  clear Fx4_24 Fx8_24 Fx22_24 Fx23_24 Fx24_24 b25 HB24
  have Fx25_25 := Lib.hid m25
  clear m25
  clear Fx22_25
  clear Fx23_25
  clear Fx24_25
  go_wp2_with fail
  refine (eqIntS_yes _ _ _ _ (Fx25_25.out.inn) (Fx4_25.out.inn)).mono ?_
  rintro e w26 ⟨rfl, dd26⟩
  have b26 := dd26.below w25.heap.size
  clear dd26
  have Fx4_26 := Lib.hid (Fx4_25.out.fresh b26)
  have Fx8_26 := Lib.hid (Fx8_25.out.fresh b26)
  have Fx25_26 := Lib.hid (Fx25_25.out.fresh b26)
  have HB26 : Hid (Below w.heap.size w w26) := HB25.out.trans (b26.mono HB25.out.size)
  have S26 : Hid (w25.heap.size ≤ w26.heap.size) := b26.size
  clear Fx4_25 Fx8_25 Fx25_25 b26 HB25
  go_wp2_with fail
  refine (heldIntS_any _ _ _ _ Fx8_26.out.inn (by omega) (by omega) G1.out).mono ?_
  rintro e w27 ⟨rfl, dd27⟩
  have b27 := dd27.below w26.heap.size
  clear dd27
  have Fx4_27 := Lib.hid (Fx4_26.out.fresh b27)
  have Fx8_27 := Lib.hid (Fx8_26.out.fresh b27)
  have Fx25_27 := Lib.hid (Fx25_26.out.fresh b27)
  have HB27 : Hid (Below w.heap.size w w27) := HB26.out.trans (b27.mono HB26.out.size)
  have S27 : Hid (w26.heap.size ≤ w27.heap.size) := b27.size
  clear Fx4_26 Fx8_26 Fx25_26 b27 HB26
  go_wp2
  go_ret
  exact ⟨rfl, HB27.out⟩

set_option maxHeartbeats 400000 in
theorem long1 (w : World) (v0 : Value) (d0 : List (List Int)) (v1 : Value) (d1 : List Int) (v2 : Value) (d2 : List Int) (h0 : MIn w v0 d0) (h1 : IIn w v1 d1) (h2 : IIn w v2 d2)  (hs : ¬ d1.length ≤ 1048576) :
    Calls Try.prog 15 #[v0, v1, v2] w fun e w' => e = .returned (.bool true) ∧ Below w.heap.size w w' := by
  obtain ⟨o0, c0, rfl, hm0, _⟩ := id h0
  obtain ⟨o1, c1, rfl, hm1, _⟩ := id h1
  obtain ⟨o2, c2, rfl, hm2, _⟩ := id h2
  rw [maxLen_val] at hm0 hm1 hm2
  clear h0 h1 h2
  go_enter Try.func15, Try.ntmps15
  go_wp2
  go_ret
  exact ⟨rfl, Below.refl _ _⟩
set_option maxHeartbeats 400000 in
theorem long2 (w : World) (v0 : Value) (d0 : List (List Int)) (v1 : Value) (d1 : List Int) (v2 : Value) (d2 : List Int) (h0 : MIn w v0 d0) (h1 : IIn w v1 d1) (h2 : IIn w v2 d2) (s1 : d1.length ≤ 1048576) (hs : ¬ d2.length ≤ 1048576) :
    Calls Try.prog 15 #[v0, v1, v2] w fun e w' => e = .returned (.bool true) ∧ Below w.heap.size w w' := by
  obtain ⟨o0, c0, rfl, hm0, _⟩ := id h0
  obtain ⟨o1, c1, rfl, hm1, _⟩ := id h1
  obtain ⟨o2, c2, rfl, hm2, _⟩ := id h2
  rw [maxLen_val] at hm0 hm1 hm2
  clear h0 h1 h2
  go_enter Try.func15, Try.ntmps15
  go_wp2
  go_ret
  exact ⟨rfl, Below.refl _ _⟩
theorem walk_all (w : World) (v0 : Value) (d0 : List (List Int)) (v1 : Value) (d1 : List Int) (v2 : Value) (d2 : List Int) (h0 : MIn w v0 d0) (h1 : IIn w v1 d1) (h2 : IIn w v2 d2) :
    Calls Try.prog 15 #[v0, v1, v2] w fun e w' => e = .returned (.bool true) ∧ Below w.heap.size w w' := by
  by_cases s1 : d1.length ≤ 1048576
  rotate_left
  · exact long1 w v0 d0 v1 d1 v2 d2 h0 h1 h2 s1
  by_cases s2 : d2.length ≤ 1048576
  rotate_left
  · exact long2 w v0 d0 v1 d1 v2 d2 h0 h1 h2 s1 s2
  exact walk w v0 d0 v1 d1 v2 d2 h0 h1 h2 s1 s2

set_option maxRecDepth 100000 in
theorem lifted (os : Os) (started : os.Started) (H : Type) (enc : TypeId × Value → H) :
    ReturnsInHanded {} Try.checked os 15 .any (Rows.fnExactLowestOfSpec.pre6 enc Try.prog Try.f15 Rows.fnExactLowestOfRow.domain false) (Rows.fnExactLowestOfSpec.post enc Try.prog Try.f15 false true false false) := by
  refine returnsInHanded_of_change (C := Try.checked) own_knob started (by kernel_rfl) Try.func15
    (ChangeSpec.witness6 (enc := enc) (C := Try.checked) false ⟨#[], #[.slice none 0 0, .slice none 0 0, .slice none 0 0], []⟩ 8 (by kernel_rfl) (by kernel_rfl) (by kernel_rfl) (by kernel_rfl)) ?_
  intro W base args ds gs before hval0 hW hcnd _
  have hval : ∀ (j : Nat) t v, Try.f15.params[j]? = some t → args[j]? = some v → Value.okWide Try.prog W .any base t v := hval0
  have hW' := hW
  obtain ⟨p, q, hA0, hV, rfl, hfz, hnd⟩ := hW
  have hA : DataW.TrodAll enc Try.prog W 0 (fun _ => true) true Try.f15.params.toList args.toList ds p := hA0
  rw [Try.params15] at hA hval
  obtain ⟨v0, vs0, e0, es0, p0, q0, hargs, rfl, rfl, h0, r0⟩ := trodAll_cons hA
  obtain ⟨v1, vs1, e1, es1, p1, q1, rfl, rfl, rfl, h1, r1⟩ := trodAll_cons r0
  obtain ⟨v2, vs2, e2, es2, p2, q2, rfl, rfl, rfl, h2, r2⟩ := trodAll_cons r1
  obtain ⟨rfl, rfl, rfl⟩ := trodAll_nil r2
  obtain rfl : args = #[v0, v1, v2] := by cases args; simp_all
  obtain ⟨rfl, rfl⟩ := trodVars_none hV
  obtain ⟨a0, len0, cap0, rfl⟩ := okWide_slice Try.underlying26 (hval 0 26 v0 rfl rfl)
  have k0 := h0
  have lt0 : ∀ x ∈ p0, x.block < W.heap.size := by obtain ⟨m, hm⟩ := k0; exact DataW.trod_lt m _ _ _ hm
  obtain ⟨z0, y0⟩ := open_rows h0
  obtain ⟨a1, len1, cap1, rfl⟩ := okWide_slice Try.underlying22 (hval 1 22 v1 rfl rfl)
  have k1 := h1
  have lt1 : ∀ x ∈ p1, x.block < W.heap.size := by obtain ⟨m, hm⟩ := k1; exact DataW.trod_lt m _ _ _ hm
  obtain ⟨z1, y1⟩ := open_in h1
  obtain ⟨a2, len2, cap2, rfl⟩ := okWide_slice Try.underlying22 (hval 2 22 v2 rfl rfl)
  have k2 := h2
  have lt2 : ∀ x ∈ p2, x.block < W.heap.size := by obtain ⟨m, hm⟩ := k2; exact DataW.trod_lt m _ _ _ hm
  obtain ⟨z2, y2⟩ := open_in h2
  clear hA0 hval0
  refine (walk_all W _ z0 _ z1 _ z2 y0 y1 y2).mono fun e W' ⟨he, bel⟩ => ?_
  subst he
  exact ⟨_, rfl, _, _, _, [], _, [], hW', trodAll_mk1 (shut_bool Try.underlying4 _), (trodAll_cons_mk (Below.trod laid_out (by kernel_rfl) (of_decide_eq_true (by kernel_rfl)) k0 bel lt0) (trodAll_cons_mk (Below.trod laid_out (by kernel_rfl) (of_decide_eq_true (by kernel_rfl)) k1 bel lt1) (trodAll_cons_mk (Below.trod laid_out (by kernel_rfl) (of_decide_eq_true (by kernel_rfl)) k2 bel lt2) trodAll_mk0))), rfl, bel.frame _, fun h => by cases h⟩

theorem over : Rows.fnExactLowestOfRow.holds Try.pinned (OpenSpec.ofChange Rows.fnExactLowestOfSpec) :=
  OpenClaim.holds_of_wide 15 Try.f15 rfl rfl rfl rfl rfl rfl rfl ⟨rfl, rfl, rfl, rfl, rfl⟩ rfl rfl rfl rfl rfl (by kernel_rfl) Try.func15 (by kernel_rfl)
    (of_decide_eq_true (by kernel_rfl)) (by unfold Func.isWrapper; first | (rw [if_pos (by decide +kernel)]; kernel_rfl) | (rw [if_neg (by decide +kernel)]; exact ⟨rfl, rfl⟩))
    (fun os started H enc _ => lifted os started H enc)
end Go.Proofs.Ytekbmmimmjpjoaa.exactLowestOf
namespace Go.Proofs.Ytekbmmimmjpjoaa
theorem fnExactLowestOf_holds : Rows.FnExactLowestOfSaid := exactLowestOf.over
#print axioms fnExactLowestOf_holds
end Go.Proofs.Ytekbmmimmjpjoaa
