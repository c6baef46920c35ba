/- The law FnExactOrderOk: for every input it returns true, and each argument reads behind the call as it read before. Conditions: none. -/
import Derived.Test.YtknnelenmedonaaOrdW
import Derived.Test.YtknnelenmedonaaLawKit
import Derived.Test.YtknnelenmedonaaRows
namespace Go.Proofs.Ytknnelenmedonaa.exactOrderOk
open Go.ChangeShapes Go.WideShapes Go.ChangeAt Go.RowKit Go.Deep
set_option linter.unusedVariables false
set_option linter.unusedSimpArgs false

set_option maxHeartbeats 4000000 in
theorem walk (w : World) (v0 : Value) (d0 : List Int) (h0 : IIn w v0 d0) (s0 : d0.length ≤ 1048576) :
    Calls Try.prog 3 #[v0] w fun e w' => e = .returned (.bool true) ∧ Below w.heap.size w w' := by
  obtain ⟨o0, c0, rfl, hm0, _⟩ := id h0
  rw [maxLen_val] at hm0
  have A0 := Lib.hid h0
  clear h0
  go_enter Try.func3, Try.ntmps3
  have HB : Hid (Below w.heap.size w w) := Below.refl _ _
  go_wp2_with fail
  refine (toIntS_any _ _ _ (A0.out.keep HB.out) s0).mono ?_
  rintro e w1 ⟨x1, rfl, m1, b1⟩
  have HB1 : Hid (Below w.heap.size w w1) := HB.out.trans (b1.mono HB.out.size)
  have S1 : Hid (w.heap.size ≤ w1.heap.size) := b1.size
  clear b1 HB
  have Fx1_1 := Lib.hid m1
  clear m1
  go_wp2_with fail
  refine (gives_of_quiet (specOrderOk_any _ _ _ _ _ Fx1_1.out)).mono ?_
  rintro e w2 ⟨rfl, b2⟩
  have Fx1_2 := Lib.hid (Fx1_1.out.fresh b2)
  have HB2 : Hid (Below w.heap.size w w2) := HB1.out.trans (b2.mono HB1.out.size)
  have S2 : Hid (w1.heap.size ≤ w2.heap.size) := b2.size
  clear Fx1_1 b2 HB1
  clear Fx1_2
  go_wp2_with fail
  refine (toIntS_any _ _ _ (A0.out.keep HB2.out) s0).mono ?_
  rintro e w3 ⟨x3, rfl, m3, b3⟩
  have HB3 : Hid (Below w.heap.size w w3) := HB2.out.trans (b3.mono HB2.out.size)
  have S3 : Hid (w2.heap.size ≤ w3.heap.size) := b3.size
  clear b3 HB2
  have Fx3_3 := Lib.hid m3
  clear m3
  go_wp2_with fail
  refine (gives_of_quiet (implOrderOk_any _ _ _ _ _ Fx3_3.out)).mono ?_
  rintro e w4 ⟨rfl, b4⟩
  have Fx3_4 := Lib.hid (Fx3_3.out.fresh b4)
  have HB4 : Hid (Below w.heap.size w w4) := HB3.out.trans (b4.mono HB3.out.size)
  have S4 : Hid (w3.heap.size ≤ w4.heap.size) := b4.size
  clear Fx3_3 b4 HB3
  go_wp2_with fail
  refine (toIntS_any _ _ _ (A0.out.keep HB4.out) s0).mono ?_
  rintro e w5 ⟨x5, rfl, m5, b5⟩
  have Fx3_5 := Lib.hid (Fx3_4.out.fresh b5)
  have HB5 : Hid (Below w.heap.size w w5) := HB4.out.trans (b5.mono HB4.out.size)
  have S5 : Hid (w4.heap.size ≤ w5.heap.size) := b5.size
  clear Fx3_4 b5 HB4
  have Fx5_5 := Lib.hid m5
  clear m5
  go_wp2_with fail
  refine (eqIntS_yes _ _ _ _ (Fx3_5.out.inn) (Fx5_5.out.inn)).mono ?_
  rintro e w6 ⟨rfl, dd6⟩
  have b6 := dd6.below w5.heap.size
  clear dd6
  have Fx3_6 := Lib.hid (Fx3_5.out.fresh b6)
  have Fx5_6 := Lib.hid (Fx5_5.out.fresh b6)
  have HB6 : Hid (Below w.heap.size w w6) := HB5.out.trans (b6.mono HB5.out.size)
  have S6 : Hid (w5.heap.size ≤ w6.heap.size) := b6.size
  clear Fx3_5 Fx5_5 b6 HB5
  clear Fx5_6
  go_wp2
  go_ret
  exact ⟨rfl, HB6.out⟩

set_option maxHeartbeats 400000 in
theorem long0 (w : World) (v0 : Value) (d0 : List Int) (h0 : IIn w v0 d0)  (hs : ¬ d0.length ≤ 1048576) :
    Calls Try.prog 3 #[v0] w fun e w' => e = .returned (.bool true) ∧ Below w.heap.size w w' := by
  obtain ⟨o0, c0, rfl, hm0, _⟩ := id h0
  rw [maxLen_val] at hm0
  clear h0
  go_enter Try.func3, Try.ntmps3
  go_wp2
  go_ret
  exact ⟨rfl, Below.refl _ _⟩
theorem walk_all (w : World) (v0 : Value) (d0 : List Int) (h0 : IIn w v0 d0) :
    Calls Try.prog 3 #[v0] w fun e w' => e = .returned (.bool true) ∧ Below w.heap.size w w' := by
  by_cases s0 : d0.length ≤ 1048576
  rotate_left
  · exact long0 w v0 d0 h0 s0
  exact walk w v0 d0 h0 s0

set_option maxRecDepth 100000 in
theorem lifted (os : Os) (started : os.Started) (H : Type) (enc : TypeId × Value → H) :
    ReturnsInHanded {} Try.checked os 3 .any (Rows.fnExactOrderOkSpec.pre6 enc Try.prog Try.f3 Rows.fnExactOrderOkRow.domain false) (Rows.fnExactOrderOkSpec.post enc Try.prog Try.f3 false true false false) := by
  refine returnsInHanded_of_change (C := Try.checked) own_knob started (by kernel_rfl) Try.func3
    (ChangeSpec.witness6 (enc := enc) (C := Try.checked) false ⟨#[], #[.slice none 0 0], []⟩ 8 (by kernel_rfl) (by kernel_rfl) (by kernel_rfl) (by kernel_rfl)) ?_
  intro W base args ds gs before hval0 hW hcnd _
  have hval : ∀ (j : Nat) t v, Try.f3.params[j]? = some t → args[j]? = some v → Value.okWide Try.prog W .any base t v := hval0
  have hW' := hW
  obtain ⟨p, q, hA0, hV, rfl, hfz, hnd⟩ := hW
  have hA : DataW.TrodAll enc Try.prog W 0 (fun _ => true) true Try.f3.params.toList args.toList ds p := hA0
  rw [Try.params3] at hA hval
  obtain ⟨v0, vs0, e0, es0, p0, q0, hargs, rfl, rfl, h0, r0⟩ := trodAll_cons hA
  obtain ⟨rfl, rfl, rfl⟩ := trodAll_nil r0
  obtain rfl : args = #[v0] := by cases args; simp_all
  obtain ⟨rfl, rfl⟩ := trodVars_none hV
  obtain ⟨a0, len0, cap0, rfl⟩ := okWide_slice Try.underlying22 (hval 0 22 v0 rfl rfl)
  have k0 := h0
  have lt0 : ∀ x ∈ p0, x.block < W.heap.size := by obtain ⟨m, hm⟩ := k0; exact DataW.trod_lt m _ _ _ hm
  obtain ⟨z0, y0⟩ := open_in h0
  clear hA0 hval0
  refine (walk_all W _ z0 y0).mono fun e W' ⟨he, bel⟩ => ?_
  subst he
  exact ⟨_, rfl, _, _, _, [], _, [], hW', trodAll_mk1 (shut_bool Try.underlying4 _), (trodAll_cons_mk (Below.trod laid_out (by kernel_rfl) (of_decide_eq_true (by kernel_rfl)) k0 bel lt0) trodAll_mk0), rfl, bel.frame _, fun h => by cases h⟩

theorem over : Rows.fnExactOrderOkRow.holds Try.pinned (OpenSpec.ofChange Rows.fnExactOrderOkSpec) :=
  OpenClaim.holds_of_wide 3 Try.f3 rfl rfl rfl rfl rfl rfl rfl ⟨rfl, rfl, rfl, rfl, rfl⟩ rfl rfl rfl rfl rfl (by kernel_rfl) Try.func3 (by kernel_rfl)
    (of_decide_eq_true (by kernel_rfl)) (by unfold Func.isWrapper; first | (rw [if_pos (by decide +kernel)]; kernel_rfl) | (rw [if_neg (by decide +kernel)]; exact ⟨rfl, rfl⟩))
    (fun os started H enc _ => lifted os started H enc)
end Go.Proofs.Ytknnelenmedonaa.exactOrderOk
namespace Go.Proofs.Ytknnelenmedonaa
theorem fnExactOrderOk_holds : Rows.FnExactOrderOkSaid := exactOrderOk.over
#print axioms fnExactOrderOk_holds
end Go.Proofs.Ytknnelenmedonaa
