/- The law FnExactPlacesOf: for every input it returns true, and each argument reads behind the call as it read before. Conditions: none. -/
import Derived.Test.YtknnelenmedonaaPlacesW
import Derived.Test.YtknnelenmedonaaMark
import Derived.Test.YtknnelenmedonaaLawKit
import Derived.Test.YtknnelenmedonaaRows
namespace Go.Proofs.Ytknnelenmedonaa.exactPlacesOf
open Go.ChangeShapes Go.WideShapes Go.ChangeAt Go.RowKit Go.Deep
set_option linter.unusedVariables false
set_option linter.unusedSimpArgs false

set_option maxHeartbeats 4000000 in
theorem walk (w : World) (v0 : Value) (d0 : List (List Int)) (h0 : MIn w v0 d0)  :
    Calls Try.prog 13 #[v0] w fun e w' => e = .returned (.bool true) ∧ Below w.heap.size w w' := by
  obtain ⟨o0, c0, rfl, hm0, _⟩ := id h0
  rw [maxLen_val] at hm0
  have A0 := Lib.hid h0
  clear h0
  go_enter Try.func13, Try.ntmps13
  have HB : Hid (Below w.heap.size w w) := Below.refl _ _
  go_wp2_with fail
  refine (szIntSS_any _ _ _ _ A0.out (by omega) (by omega)).mono ?_
  rintro e ws0 ⟨r0, rfl, hz0, rfl⟩
  by_cases hr0 : r0 < 0
  · clear hz0
    go_wp2
    go_ret
    exact ⟨rfl, HB.out⟩
  have hz0 : 0 ≤ r0 ∧ r0 ≤ 1048576 ∧ (d0.length : Int) ≤ 1048576 ∧ ∀ i, i < d0.length → ((row d0 i).length : Int) ≤ 1048576 := hz0.resolve_left hr0
  obtain ⟨q0, q0', hl0, hrow0⟩ := hz0
  have L0 : Hid (d0.length ≤ 1048576) := by show _ ≤ _; omega
  have R0 : Hid (∀ i, i < d0.length → (row d0 i).length ≤ 1048576) := fun j hj => by have := hrow0 j hj; omega
  clear hl0 hrow0
  go_wp2_with fail
  refine (toIntSS_any _ _ _ (A0.out.keep HB.out) L0.out R0.out).mono ?_
  rintro e w1 ⟨x1, rfl, m1, b1⟩
  have HB1 : Hid (Below w.heap.size w w1) := HB.out.trans (b1.mono HB.out.size)
  have S1 : Hid (w.heap.size ≤ w1.heap.size) := b1.size
  clear b1 HB
  have Fx1_1 := Lib.hid m1
  clear m1
  go_wp2_with fail
  refine (specPlacesOf_any _ _ _ _ _ Fx1_1.out).mono ?_
  rintro e w2 ⟨x2, rfl, m2, b2⟩
  have Fx1_2 := Lib.hid (Fx1_1.out.fresh b2)
  have HB2 : Hid (Below w.heap.size w w2) := HB1.out.trans (b2.mono HB1.out.size)
  have S2 : Hid (w1.heap.size ≤ w2.heap.size) := b2.size
  clear Fx1_1 b2 HB1
  have Fx2_2 := Lib.hid m2
  clear m2
  clear Fx1_2
  go_wp2_with fail
  refine (toIntSS_any _ _ _ (A0.out.keep HB2.out) L0.out R0.out).mono ?_
  rintro e w3 ⟨x3, rfl, m3, b3⟩
  have Fx2_3 := Lib.hid (Fx2_2.out.fresh b3)
  have HB3 : Hid (Below w.heap.size w w3) := HB2.out.trans (b3.mono HB2.out.size)
  have S3 : Hid (w2.heap.size ≤ w3.heap.size) := b3.size
  clear Fx2_2 b3 HB2
  have Fx3_3 := Lib.hid m3
  clear m3
  go_wp2_with fail
  refine (implPlacesOf_any _ _ _ _ _ Fx3_3.out).mono ?_
  rintro e w4 ⟨x4, rfl, m4, b4⟩
  have Fx2_4 := Lib.hid (Fx2_3.out.fresh b4)
  have Fx3_4 := Lib.hid (Fx3_3.out.fresh b4)
  have HB4 : Hid (Below w.heap.size w w4) := HB3.out.trans (b4.mono HB3.out.size)
  have S4 : Hid (w3.heap.size ≤ w4.heap.size) := b4.size
  clear Fx2_3 Fx3_3 b4 HB3
  have Fx4_4 := Lib.hid m4
  clear m4
  go_wp2_with fail
  refine (eqIntS_yes _ _ _ _ (Fx4_4.out.inn) (Fx2_4.out.inn)).mono ?_
  rintro e w5 ⟨rfl, dd5⟩
  have b5 := dd5.below w4.heap.size
  clear dd5
  have Fx2_5 := Lib.hid (Fx2_4.out.fresh b5)
  have Fx3_5 := Lib.hid (Fx3_4.out.fresh b5)
  have Fx4_5 := Lib.hid (Fx4_4.out.fresh b5)
  have HB5 : Hid (Below w.heap.size w w5) := HB4.out.trans (b5.mono HB4.out.size)
  have S5 : Hid (w4.heap.size ≤ w5.heap.size) := b5.size
  clear Fx2_4 Fx3_4 Fx4_4 b5 HB4
  go_wp2_with fail
  refine (toIntSS_any _ _ _ (A0.out.keep HB5.out) L0.out R0.out).mono ?_
  rintro e w6 ⟨x6, rfl, m6, b6⟩
  have Fx2_6 := Lib.hid (Fx2_5.out.fresh b6)
  have Fx3_6 := Lib.hid (Fx3_5.out.fresh b6)
  have Fx4_6 := Lib.hid (Fx4_5.out.fresh b6)
  have HB6 : Hid (Below w.heap.size w w6) := HB5.out.trans (b6.mono HB5.out.size)
  have S6 : Hid (w5.heap.size ≤ w6.heap.size) := b6.size
  clear Fx2_5 Fx3_5 Fx4_5 b6 HB5
  have Fx6_6 := Lib.hid m6
  clear m6
  go_wp2_with fail
  refine (eqIntSS_yes _ _ _ _ (Fx3_6.out.inn) (Fx6_6.out.inn)).mono ?_
  rintro e w7 ⟨rfl, dd7⟩
  have b7 := dd7.below w6.heap.size
  clear dd7
  have Fx2_7 := Lib.hid (Fx2_6.out.fresh b7)
  have Fx3_7 := Lib.hid (Fx3_6.out.fresh b7)
  have Fx4_7 := Lib.hid (Fx4_6.out.fresh b7)
  have Fx6_7 := Lib.hid (Fx6_6.out.fresh b7)
  have HB7 : Hid (Below w.heap.size w w7) := HB6.out.trans (b7.mono HB6.out.size)
  have S7 : Hid (w6.heap.size ≤ w7.heap.size) := b7.size
  clear Fx2_6 Fx3_6 Fx4_6 Fx6_6 b7 HB6
  clear Fx6_7
  have T8 := tot_small L0.out R0.out
  have LL8 := L0.out
  go_wp2_with fail
  refine (markIntSS_any w2.heap.size w3.heap.size _ _ _ _ (.inl Fx3_7.out) (by omega) (by omega) (by omega) (by omega)).mono ?_
  rintro e w8 ⟨rfl, m8, b8⟩
  clear LL8
  have oS1 := S1.out
  have oS2 := S2.out
  have oS3 := S3.out
  have oS4 := S4.out
  have oS5 := S5.out
  have oS6 := S6.out
  have oS7 := S7.out
  have Fx2_8 := Lib.hid (Fx2_7.out.outside b8 (by omega))
  have Fx4_8 := Lib.hid (Fx4_7.out.outside b8 (by omega))
  have HB8 : Hid (Below w.heap.size w w8) := HB7.out.trans (b8.below.mono (by have := HB7.out.size; omega))
  have S8 : Hid (w7.heap.size ≤ w8.heap.size) := by show _ ≤ _; rw [b8.size]; exact Nat.le_refl _
  clear oS1 oS2 oS3 oS4 oS5 oS6 oS7 Fx2_7 Fx3_7 Fx4_7 b8 HB7
  clear m8
  go_wp2_with fail
  refine (eqIntS_yes _ _ _ _ (Fx4_8.out.inn) (Fx2_8.out.inn)).mono ?_
  rintro e w9 ⟨rfl, dd9⟩
  have b9 := dd9.below w8.heap.size
  clear dd9
  have Fx2_9 := Lib.hid (Fx2_8.out.fresh b9)
  have Fx4_9 := Lib.hid (Fx4_8.out.fresh b9)
  have HB9 : Hid (Below w.heap.size w w9) := HB8.out.trans (b9.mono HB8.out.size)
  have S9 : Hid (w8.heap.size ≤ w9.heap.size) := b9.size
  clear Fx2_8 Fx4_8 b9 HB8
  have G1 : Hid ((plV d0).length ≤ 1152921504606846976) := by have := plV_len d0; show _ ≤ _; omega
  go_wp2_with fail
  refine (markIntS_any w3.heap.size w4.heap.size _ _ _ _ Fx4_9.out (by omega) (by omega) G1.out).mono ?_
  rintro e w10 ⟨rfl, m10, b10⟩
  have oS1 := S1.out
  have oS2 := S2.out
  have oS3 := S3.out
  have oS4 := S4.out
  have oS5 := S5.out
  have oS6 := S6.out
  have oS7 := S7.out
  have oS8 := S8.out
  have oS9 := S9.out
  have Fx2_10 := Lib.hid (Fx2_9.out.outside b10 (by omega))
  have HB10 : Hid (Below w.heap.size w w10) := HB9.out.trans (b10.below.mono (by have := HB9.out.size; omega))
  have S10 : Hid (w9.heap.size ≤ w10.heap.size) := by show _ ≤ _; rw [b10.size]; exact Nat.le_refl _
  clear oS1 oS2 oS3 oS4 oS5 oS6 oS7 oS8 oS9 Fx2_9 Fx4_9 b10 HB9
  have Fx4_10 := Lib.hid m10
  clear m10
  go_wp2_with fail
  refine (heldIntS_any _ _ _ _ Fx4_10.out.inn (by omega) (by omega) G1.out).mono ?_
  rintro e w11 ⟨rfl, dd11⟩
  have b11 := dd11.below w10.heap.size
  clear dd11
  have Fx2_11 := Lib.hid (Fx2_10.out.fresh b11)
  have Fx4_11 := Lib.hid (Fx4_10.out.fresh b11)
  have HB11 : Hid (Below w.heap.size w w11) := HB10.out.trans (b11.mono HB10.out.size)
  have S11 : Hid (w10.heap.size ≤ w11.heap.size) := b11.size
  clear Fx2_10 Fx4_10 b11 HB10
  go_wp2_with fail
  refine (toIntSS_any _ _ _ (A0.out.keep HB11.out) L0.out R0.out).mono ?_
  rintro e w12 ⟨x12, rfl, m12, b12⟩
  have Fx2_12 := Lib.hid (Fx2_11.out.fresh b12)
  have Fx4_12 := Lib.hid (Fx4_11.out.fresh b12)
  have HB12 : Hid (Below w.heap.size w w12) := HB11.out.trans (b12.mono HB11.out.size)
  have S12 : Hid (w11.heap.size ≤ w12.heap.size) := b12.size
  clear Fx2_11 Fx4_11 b12 HB11
  have Fx12_12 := Lib.hid m12
  clear m12
  go_wp2_with fail
  refine (implPlacesOf_any _ _ _ _ _ Fx12_12.out).mono ?_
  rintro e w13 ⟨x13, rfl, m13, b13⟩
  have Fx2_13 := Lib.hid (Fx2_12.out.fresh b13)
  have Fx4_13 := Lib.hid (Fx4_12.out.fresh b13)
  have Fx12_13 := Lib.hid (Fx12_12.out.fresh b13)
  have HB13 : Hid (Below w.heap.size w w13) := HB12.out.trans (b13.mono HB12.out.size)
  have S13 : Hid (w12.heap.size ≤ w13.heap.size) := b13.size
  clear Fx2_12 Fx4_12 Fx12_12 b13 HB12
  have Fx13_13 := Lib.hid m13
  clear m13
  clear Fx12_13
  go_wp2_with fail
  refine (eqIntS_yes _ _ _ _ (Fx13_13.out.inn) (Fx2_13.out.inn)).mono ?_
  rintro e w14 ⟨rfl, dd14⟩
  have b14 := dd14.below w13.heap.size
  clear dd14
  have Fx2_14 := Lib.hid (Fx2_13.out.fresh b14)
  have Fx4_14 := Lib.hid (Fx4_13.out.fresh b14)
  have Fx13_14 := Lib.hid (Fx13_13.out.fresh b14)
  have HB14 : Hid (Below w.heap.size w w14) := HB13.out.trans (b14.mono HB13.out.size)
  have S14 : Hid (w13.heap.size ≤ w14.heap.size) := b14.size
  clear Fx2_13 Fx4_13 Fx13_13 b14 HB13
  go_wp2_with fail
  refine (heldIntS_any _ _ _ _ Fx4_14.out.inn (by omega) (by omega) G1.out).mono ?_
  rintro e w15 ⟨rfl, dd15⟩
  have b15 := dd15.below w14.heap.size
  clear dd15
  have Fx2_15 := Lib.hid (Fx2_14.out.fresh b15)
  have Fx4_15 := Lib.hid (Fx4_14.out.fresh b15)
  have Fx13_15 := Lib.hid (Fx13_14.out.fresh b15)
  have HB15 : Hid (Below w.heap.size w w15) := HB14.out.trans (b15.mono HB14.out.size)
  have S15 : Hid (w14.heap.size ≤ w15.heap.size) := b15.size
  clear Fx2_14 Fx4_14 Fx13_14 b15 HB14
  go_wp2
  go_ret
  exact ⟨rfl, HB15.out⟩

theorem walk_all (w : World) (v0 : Value) (d0 : List (List Int)) (h0 : MIn w v0 d0) :
    Calls Try.prog 13 #[v0] w fun e w' => e = .returned (.bool true) ∧ Below w.heap.size w w' := by
  exact walk w v0 d0 h0

set_option maxRecDepth 100000 in
theorem lifted (os : Os) (started : os.Started) (H : Type) (enc : TypeId × Value → H) :
    ReturnsInHanded {} Try.checked os 13 .any (Rows.fnExactPlacesOfSpec.pre6 enc Try.prog Try.f13 Rows.fnExactPlacesOfRow.domain false) (Rows.fnExactPlacesOfSpec.post enc Try.prog Try.f13 false true false false) := by
  refine returnsInHanded_of_change (C := Try.checked) own_knob started (by kernel_rfl) Try.func13
    (ChangeSpec.witness6 (enc := enc) (C := Try.checked) false ⟨#[], #[.slice none 0 0], []⟩ 8 (by kernel_rfl) (by kernel_rfl) (by kernel_rfl) (by kernel_rfl)) ?_
  intro W base args ds gs before hval0 hW hcnd _
  have hval : ∀ (j : Nat) t v, Try.f13.params[j]? = some t → args[j]? = some v → Value.okWide Try.prog W .any base t v := hval0
  have hW' := hW
  obtain ⟨p, q, hA0, hV, rfl, hfz, hnd⟩ := hW
  have hA : DataW.TrodAll enc Try.prog W 0 (fun _ => true) true Try.f13.params.toList args.toList ds p := hA0
  rw [Try.params13] at hA hval
  obtain ⟨v0, vs0, e0, es0, p0, q0, hargs, rfl, rfl, h0, r0⟩ := trodAll_cons hA
  obtain ⟨rfl, rfl, rfl⟩ := trodAll_nil r0
  obtain rfl : args = #[v0] := by cases args; simp_all
  obtain ⟨rfl, rfl⟩ := trodVars_none hV
  obtain ⟨a0, len0, cap0, rfl⟩ := okWide_slice Try.underlying30 (hval 0 30 v0 rfl rfl)
  have k0 := h0
  have lt0 : ∀ x ∈ p0, x.block < W.heap.size := by obtain ⟨m, hm⟩ := k0; exact DataW.trod_lt m _ _ _ hm
  obtain ⟨z0, y0⟩ := open_rows h0
  clear hA0 hval0
  refine (walk_all W _ z0 y0).mono fun e W' ⟨he, bel⟩ => ?_
  subst he
  exact ⟨_, rfl, _, _, _, [], _, [], hW', trodAll_mk1 (shut_bool Try.underlying4 _), (trodAll_cons_mk (Below.trod laid_out (by kernel_rfl) (of_decide_eq_true (by kernel_rfl)) k0 bel lt0) trodAll_mk0), rfl, bel.frame _, fun h => by cases h⟩

theorem over : Rows.fnExactPlacesOfRow.holds Try.pinned (OpenSpec.ofChange Rows.fnExactPlacesOfSpec) :=
  OpenClaim.holds_of_wide 13 Try.f13 rfl rfl rfl rfl rfl rfl rfl ⟨rfl, rfl, rfl, rfl, rfl⟩ rfl rfl rfl rfl rfl (by kernel_rfl) Try.func13 (by kernel_rfl)
    (of_decide_eq_true (by kernel_rfl)) (by unfold Func.isWrapper; first | (rw [if_pos (by decide +kernel)]; kernel_rfl) | (rw [if_neg (by decide +kernel)]; exact ⟨rfl, rfl⟩))
    (fun os started H enc _ => lifted os started H enc)
end Go.Proofs.Ytknnelenmedonaa.exactPlacesOf
namespace Go.Proofs.Ytknnelenmedonaa
theorem fnExactPlacesOf_holds : Rows.FnExactPlacesOfSaid := exactPlacesOf.over
#print axioms fnExactPlacesOf_holds
end Go.Proofs.Ytknnelenmedonaa
