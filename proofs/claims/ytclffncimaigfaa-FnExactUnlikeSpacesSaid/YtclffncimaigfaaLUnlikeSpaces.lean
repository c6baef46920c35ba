/- The law FnExactUnlikeSpaces: for every input it returns true, and each argument reads behind the call as it read before. Conditions: none. -/
import Derived.Test.YtclffncimaigfaaUsI
import Derived.Test.YtclffncimaigfaaLawKit
import Derived.Test.YtclffncimaigfaaRows
namespace Go.Proofs.Ytclffncimaigfaa.exactUnlikeSpaces
open Go.ChangeShapes Go.WideShapes Go.ChangeAt Go.RowKit Go.Deep
set_option linter.unusedVariables false
set_option linter.unusedSimpArgs false

set_option maxHeartbeats 4000000 in
theorem walk (w : World) (v0 : Value) (d0 : List (List Int)) (v1 : Value) (d1 : List (List Int)) (h0 : MIn w v0 d0) (h1 : MIn w v1 d1)  :
    Calls Try.prog 11 #[v0, v1] w fun e w' => e = .returned (.bool true) ∧ Below w.heap.size w w' := by
  obtain ⟨o0, c0, rfl, hm0, _⟩ := id h0
  obtain ⟨o1, c1, rfl, hm1, _⟩ := id h1
  rw [maxLen_val] at hm0 hm1
  have A0 := Lib.hid h0
  have A1 := Lib.hid h1
  clear h0 h1
  go_enter Try.func11, Try.ntmps11
  have HB : Hid (Below w.heap.size w w) := Below.refl _ _
  go_wp2_with fail
  refine (szIntSS_any _ _ _ _ A0.out (by omega) (by omega)).mono ?_
  rintro e ws0 ⟨r0, rfl, hz0, rfl⟩
  by_cases hr0 : r0 < 0
  · clear hz0
    go_wp2
    go_ret
    exact ⟨rfl, HB.out⟩
  have hz0 : 0 ≤ r0 ∧ r0 ≤ 1048576 ∧ (d0.length : Int) ≤ 1048576 ∧ ∀ i, i < d0.length → ((row d0 i).length : Int) ≤ 1048576 := hz0.resolve_left hr0
  obtain ⟨q0, q0', hl0, hrow0⟩ := hz0
  have L0 : Hid (d0.length ≤ 1048576) := by show _ ≤ _; omega
  have R0 : Hid (∀ i, i < d0.length → (row d0 i).length ≤ 1048576) := fun j hj => by have := hrow0 j hj; omega
  clear hl0 hrow0
  go_wp2_with fail
  refine (szIntSS_any _ _ _ _ A1.out (by omega) (by omega)).mono ?_
  rintro e ws1 ⟨r1, rfl, hz1, rfl⟩
  by_cases hr1 : r1 < 0
  · clear hz1
    go_wp2
    go_ret
    exact ⟨rfl, HB.out⟩
  have hz1 : 0 ≤ r1 ∧ r1 ≤ r0 ∧ (d1.length : Int) ≤ r0 ∧ ∀ i, i < d1.length → ((row d1 i).length : Int) ≤ r0 := hz1.resolve_left hr1
  obtain ⟨q1, q1', hl1, hrow1⟩ := hz1
  have L1 : Hid (d1.length ≤ 1048576) := by show _ ≤ _; omega
  have R1 : Hid (∀ i, i < d1.length → (row d1 i).length ≤ 1048576) := fun j hj => by have := hrow1 j hj; omega
  clear hl1 hrow1
  go_wp2_with fail
  refine (toIntSS_any _ _ _ (A0.out.keep HB.out) L0.out R0.out).mono ?_
  rintro e w1 ⟨x1, rfl, m1, b1⟩
  have HB1 : Hid (Below w.heap.size w w1) := HB.out.trans (b1.mono HB.out.size)
  have S1 : Hid (w.heap.size ≤ w1.heap.size) := b1.size
  clear b1 HB
  have Fx1_1 := Lib.hid m1
  clear m1
  go_wp2_with fail
  refine (toIntSS_any _ _ _ (A1.out.keep HB1.out) L1.out R1.out).mono ?_
  rintro e w2 ⟨x2, rfl, m2, b2⟩
  have Fx1_2 := Lib.hid (Fx1_1.out.fresh b2)
  have HB2 : Hid (Below w.heap.size w w2) := HB1.out.trans (b2.mono HB1.out.size)
  have S2 : Hid (w1.heap.size ≤ w2.heap.size) := b2.size
  clear Fx1_1 b2 HB1
  have Fx2_2 := Lib.hid m2
  clear m2
  go_wp2_with fail
  refine (specUnlikeSpaces_any _ _ _ _ _ _ _ _ _ Fx1_2.out Fx2_2.out).mono ?_
  rintro e w3 ⟨rfl, b3⟩
  have Fx1_3 := Lib.hid (Fx1_2.out.fresh b3)
  have Fx2_3 := Lib.hid (Fx2_2.out.fresh b3)
  have HB3 : Hid (Below w.heap.size w w3) := HB2.out.trans (b3.mono HB2.out.size)
  have S3 : Hid (w2.heap.size ≤ w3.heap.size) := b3.size
  clear Fx1_2 Fx2_2 b3 HB2
  clear Fx1_3
  clear Fx2_3
  go_wp2_with fail
  refine (toIntSS_any _ _ _ (A0.out.keep HB3.out) L0.out R0.out).mono ?_
  rintro e w4 ⟨x4, rfl, m4, b4⟩
  have HB4 : Hid (Below w.heap.size w w4) := HB3.out.trans (b4.mono HB3.out.size)
  have S4 : Hid (w3.heap.size ≤ w4.heap.size) := b4.size
  clear b4 HB3
  have Fx4_4 := Lib.hid m4
  clear m4
  go_wp2_with fail
  refine (toIntSS_any _ _ _ (A1.out.keep HB4.out) L1.out R1.out).mono ?_
  rintro e w5 ⟨x5, rfl, m5, b5⟩
  have Fx4_5 := Lib.hid (Fx4_4.out.fresh b5)
  have HB5 : Hid (Below w.heap.size w w5) := HB4.out.trans (b5.mono HB4.out.size)
  have S5 : Hid (w4.heap.size ≤ w5.heap.size) := b5.size
  clear Fx4_4 b5 HB4
  have Fx5_5 := Lib.hid m5
  clear m5
  go_wp2_with fail
  refine (implUnlikeSpaces_any _ _ _ _ _ _ _ _ _ Fx4_5.out Fx5_5.out).mono ?_
  rintro e w6 ⟨rfl, b6⟩
  have Fx4_6 := Lib.hid (Fx4_5.out.fresh b6)
  have Fx5_6 := Lib.hid (Fx5_5.out.fresh b6)
  have HB6 : Hid (Below w.heap.size w w6) := HB5.out.trans (b6.mono HB5.out.size)
  have S6 : Hid (w5.heap.size ≤ w6.heap.size) := b6.size
  clear Fx4_5 Fx5_5 b6 HB5
  go_wp2_with fail
  refine (toIntSS_any _ _ _ (A0.out.keep HB6.out) L0.out R0.out).mono ?_
  rintro e w7 ⟨x7, rfl, m7, b7⟩
  have Fx4_7 := Lib.hid (Fx4_6.out.fresh b7)
  have Fx5_7 := Lib.hid (Fx5_6.out.fresh b7)
  have HB7 : Hid (Below w.heap.size w w7) := HB6.out.trans (b7.mono HB6.out.size)
  have S7 : Hid (w6.heap.size ≤ w7.heap.size) := b7.size
  clear Fx4_6 Fx5_6 b7 HB6
  have Fx7_7 := Lib.hid m7
  clear m7
  go_wp2_with fail
  refine (eqIntSS_yes _ _ _ _ (Fx4_7.out.inn) (Fx7_7.out.inn)).mono ?_
  rintro e w8 ⟨rfl, dd8⟩
  have b8 := dd8.below w7.heap.size
  clear dd8
  have Fx4_8 := Lib.hid (Fx4_7.out.fresh b8)
  have Fx5_8 := Lib.hid (Fx5_7.out.fresh b8)
  have Fx7_8 := Lib.hid (Fx7_7.out.fresh b8)
  have HB8 : Hid (Below w.heap.size w w8) := HB7.out.trans (b8.mono HB7.out.size)
  have S8 : Hid (w7.heap.size ≤ w8.heap.size) := b8.size
  clear Fx4_7 Fx5_7 Fx7_7 b8 HB7
  clear Fx7_8
  go_wp2_with fail
  refine (toIntSS_any _ _ _ (A1.out.keep HB8.out) L1.out R1.out).mono ?_
  rintro e w9 ⟨x9, rfl, m9, b9⟩
  have Fx4_9 := Lib.hid (Fx4_8.out.fresh b9)
  have Fx5_9 := Lib.hid (Fx5_8.out.fresh b9)
  have HB9 : Hid (Below w.heap.size w w9) := HB8.out.trans (b9.mono HB8.out.size)
  have S9 : Hid (w8.heap.size ≤ w9.heap.size) := b9.size
  clear Fx4_8 Fx5_8 b9 HB8
  have Fx9_9 := Lib.hid m9
  clear m9
  go_wp2_with fail
  refine (eqIntSS_yes _ _ _ _ (Fx5_9.out.inn) (Fx9_9.out.inn)).mono ?_
  rintro e w10 ⟨rfl, dd10⟩
  have b10 := dd10.below w9.heap.size
  clear dd10
  have Fx4_10 := Lib.hid (Fx4_9.out.fresh b10)
  have Fx5_10 := Lib.hid (Fx5_9.out.fresh b10)
  have Fx9_10 := Lib.hid (Fx9_9.out.fresh b10)
  have HB10 : Hid (Below w.heap.size w w10) := HB9.out.trans (b10.mono HB9.out.size)
  have S10 : Hid (w9.heap.size ≤ w10.heap.size) := b10.size
  clear Fx4_9 Fx5_9 Fx9_9 b10 HB9
  clear Fx9_10
  go_wp2
  go_ret
  exact ⟨rfl, HB10.out⟩

theorem walk_all (w : World) (v0 : Value) (d0 : List (List Int)) (v1 : Value) (d1 : List (List Int)) (h0 : MIn w v0 d0) (h1 : MIn w v1 d1) :
    Calls Try.prog 11 #[v0, v1] w fun e w' => e = .returned (.bool true) ∧ Below w.heap.size w w' := by
  exact walk w v0 d0 v1 d1 h0 h1

set_option maxRecDepth 100000 in
theorem lifted (os : Os) (started : os.Started) (H : Type) (enc : TypeId × Value → H) :
    ReturnsInHanded {} Try.checked os 11 .any (Rows.fnExactUnlikeSpacesSpec.pre6 enc Try.prog Try.f11 Rows.fnExactUnlikeSpacesRow.domain false) (Rows.fnExactUnlikeSpacesSpec.post enc Try.prog Try.f11 false true false false) := by
  refine returnsInHanded_of_change (C := Try.checked) own_knob started (by kernel_rfl) Try.func11
    (ChangeSpec.witness6 (enc := enc) (C := Try.checked) false ⟨#[], #[.slice none 0 0, .slice none 0 0], []⟩ 8 (by kernel_rfl) (by kernel_rfl) (by kernel_rfl) (by kernel_rfl)) ?_
  intro W base args ds gs before hval0 hW hcnd _
  have hval : ∀ (j : Nat) t v, Try.f11.params[j]? = some t → args[j]? = some v → Value.okWide Try.prog W .any base t v := hval0
  have hW' := hW
  obtain ⟨p, q, hA0, hV, rfl, hfz, hnd⟩ := hW
  have hA : DataW.TrodAll enc Try.prog W 0 (fun _ => true) true Try.f11.params.toList args.toList ds p := hA0
  rw [Try.params11] at hA hval
  obtain ⟨v0, vs0, e0, es0, p0, q0, hargs, rfl, rfl, h0, r0⟩ := trodAll_cons hA
  obtain ⟨v1, vs1, e1, es1, p1, q1, rfl, rfl, rfl, h1, r1⟩ := trodAll_cons r0
  obtain ⟨rfl, rfl, rfl⟩ := trodAll_nil r1
  obtain rfl : args = #[v0, v1] := by cases args; simp_all
  obtain ⟨rfl, rfl⟩ := trodVars_none hV
  obtain ⟨a0, len0, cap0, rfl⟩ := okWide_slice Try.underlying22 (hval 0 22 v0 rfl rfl)
  have k0 := h0
  have lt0 : ∀ x ∈ p0, x.block < W.heap.size := by obtain ⟨m, hm⟩ := k0; exact DataW.trod_lt m _ _ _ hm
  obtain ⟨z0, y0⟩ := open_rows h0
  obtain ⟨a1, len1, cap1, rfl⟩ := okWide_slice Try.underlying22 (hval 1 22 v1 rfl rfl)
  have k1 := h1
  have lt1 : ∀ x ∈ p1, x.block < W.heap.size := by obtain ⟨m, hm⟩ := k1; exact DataW.trod_lt m _ _ _ hm
  obtain ⟨z1, y1⟩ := open_rows h1
  clear hA0 hval0
  refine (walk_all W _ z0 _ z1 y0 y1).mono fun e W' ⟨he, bel⟩ => ?_
  subst he
  exact ⟨_, rfl, _, _, _, [], _, [], hW', trodAll_mk1 (shut_bool Try.underlying4 _), (trodAll_cons_mk (Below.trod laid_out (by kernel_rfl) (of_decide_eq_true (by kernel_rfl)) k0 bel lt0) (trodAll_cons_mk (Below.trod laid_out (by kernel_rfl) (of_decide_eq_true (by kernel_rfl)) k1 bel lt1) trodAll_mk0)), rfl, bel.frame _, fun h => by cases h⟩

theorem over : Rows.fnExactUnlikeSpacesRow.holds Try.pinned (OpenSpec.ofChange Rows.fnExactUnlikeSpacesSpec) :=
  OpenClaim.holds_of_wide 11 Try.f11 rfl rfl rfl rfl rfl rfl rfl ⟨rfl, rfl, rfl, rfl, rfl⟩ rfl rfl rfl rfl rfl (by kernel_rfl) Try.func11 (by kernel_rfl)
    (of_decide_eq_true (by kernel_rfl)) (by unfold Func.isWrapper; first | (rw [if_pos (by decide +kernel)]; kernel_rfl) | (rw [if_neg (by decide +kernel)]; exact ⟨rfl, rfl⟩))
    (fun os started H enc _ => lifted os started H enc)
end Go.Proofs.Ytclffncimaigfaa.exactUnlikeSpaces
namespace Go.Proofs.Ytclffncimaigfaa
theorem fnExactUnlikeSpaces_holds : Rows.FnExactUnlikeSpacesSaid := exactUnlikeSpaces.over
#print axioms fnExactUnlikeSpaces_holds
end Go.Proofs.Ytclffncimaigfaa
