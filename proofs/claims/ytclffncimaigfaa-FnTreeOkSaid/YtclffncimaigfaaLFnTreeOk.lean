/- The law FnTreeOk: for every code it returns true. Conditions: none. -/
import Derived.Test.YtclffncimaigfaaDrawW
import Derived.Test.YtclffncimaigfaaTreeY
import Derived.Test.YtclffncimaigfaaSame
import Derived.Test.YtclffncimaigfaaLawFn
import Derived.Test.YtclffncimaigfaaOpenB
import Derived.Test.YtclffncimaigfaaRows
namespace Go.Proofs.Ytclffncimaigfaa
set_option linter.unusedVariables false
set_option linter.unusedSimpArgs false
namespace fnTreeOk
open Go.ChangeShapes Go.WideShapes Go.ChangeAt Go.RowKit Go.Deep

set_option maxRecDepth 100000 in
set_option maxHeartbeats 8000000 in
theorem walk_all (w : World) (v0 : Value) (n0 : Nat) (h0 : BIn w v0 n0) :
    Calls Try.prog 14 #[v0] w fun e w' => e = .returned (.bool true) ∧ Below w.heap.size w w' := by
  obtain ⟨ao, cap, rfl, hn1, hn2, _⟩ := id h0
  rw [maxLen_val] at hn2
  have hN : n0 ≤ 9223372036854775807 := by omega
  have H0 := Lib.hid h0
  clear h0 hn1 hn2
  by_cases hlong : n0 ≤ 1048576
  rotate_left
  · clear H0
    go_enter Try.func14, Try.ntmps14
    go_wp2
    go_ret
    exact ⟨rfl, Below.refl _ _⟩
  go_enter Try.func14, Try.ntmps14
  go_wp2_with fail
  refine (drawTreeOk_any _ _ _ H0.out).mono ?_
  rintro e w1 ⟨vd, d, rfl, hd, hD, hb⟩
  clear H0 hlong
  have H1 : Hid (Below w1.heap.size w1 w1) := Below.refl _ _
  obtain ⟨db, dc, _, _, rfl, -⟩ := id hd.open
  have HD := Lib.hid hd
  have HB := Lib.hid hb
  have hd6 := hD.six
  have ci : ∀ (w' : World), Below w1.heap.size w1 w' → Calls Try.prog 38 #[.slice (some ⟨db, 0, none⟩) d.length dc] w' (Gives (.bool (decP (TrOk d))) w') := fun w' hb => implTreeOk_any _ _ _ _ _ (HD.out.fresh hb)
  have cs : ∀ (w' : World), Below w1.heap.size w1 w' → Calls Try.prog 45 #[.slice (some ⟨db, 0, none⟩) d.length dc] w' (Gives (.bool (decP (TrOk d))) w') := fun w' hb => specTreeOk_any _ _ _ _ _ (HD.out.fresh hb)
  have cp : ∀ (w' : World), Below w1.heap.size w1 w' → Calls Try.prog 23 #[.slice (some ⟨db, 0, none⟩) d.length dc] w' (Quiet (.bool (decP (Space d))) w') := fun w' hb => specSpaceOk_any _ _ _ _ _ (HD.out.fresh hb)
  have cu : ∀ (w' : World), Below w1.heap.size w1 w' → Calls Try.prog 46 #[.slice (some ⟨db, 0, none⟩) d.length dc] w' (Quiet (.bool (decP (Ultra d))) w') := fun w' hb => implUltraOk_any _ _ _ _ _ (HD.out.fresh hb)
  clear hd hb hD
  by_cases hS : Space d
  · rw [decP_yes hS] at cp
    by_cases hT : TrOk d
    · rw [decP_yes hT] at ci cs
      have CI := Lib.hid <| ci
      have CS := Lib.hid <| cs
      have CP := Lib.hid <| cp
      clear ci cs cp hS hT
      by_cases hU : Ultra d
      · rw [decP_yes hU] at cu
        have CU := Lib.hid <| cu
        clear cu hU
        by_cases h3 : 3 < d.length
        · have h3i : (3 : Int) < (d.length : Int) := by omega
          go_wp2_with fail
          refine (CI.out w1 H1.out).mono ?_
          rintro e w2 ⟨rfl, hb2⟩
          have H2 := Lib.hid (below_chain H1.out hb2)
          clear hb2 H1 CI
          go_wp2_with fail
          refine (CS.out _ H2.out).mono ?_
          rintro e w3 ⟨rfl, hb3⟩
          have H3 := Lib.hid (below_chain H2.out hb3)
          clear hb3 H2 CS
          go_wp2_with fail
          refine (CP.out _ H3.out).mono ?_
          rintro e w4 ⟨rfl, hd4⟩
          have H4 := Lib.hid (below_chain H3.out (hd4.below _))
          clear hd4 H3 CP
          go_wp2_with fail
          refine (CU.out _ H4.out).mono ?_
          rintro e w5 ⟨rfl, hd5⟩
          have H5 := Lib.hid (below_chain H4.out (hd5.below _))
          clear hd5 H4 CU
          go_wp2
          go_ret
          exact ⟨rfl, below_chain HB.out H5.out⟩
        · have h3n : decide (3 < d.length) = false := decide_eq_false h3
          have h3i : decide ((3 : Int) < (d.length : Int)) = false := decide_eq_false (by omega)
          go_wp2_with fail
          refine (CI.out w1 H1.out).mono ?_
          rintro e w2 ⟨rfl, hb2⟩
          have H2 := Lib.hid (below_chain H1.out hb2)
          clear hb2 H1 CI
          go_wp2_with fail
          refine (CS.out _ H2.out).mono ?_
          rintro e w3 ⟨rfl, hb3⟩
          have H3 := Lib.hid (below_chain H2.out hb3)
          clear hb3 H2 CS
          go_wp2_with fail
          refine (CP.out _ H3.out).mono ?_
          rintro e w4 ⟨rfl, hd4⟩
          have H4 := Lib.hid (below_chain H3.out (hd4.below _))
          clear hd4 H3 CP
          go_wp2_with fail
          refine (CU.out _ H4.out).mono ?_
          rintro e w5 ⟨rfl, hd5⟩
          have H5 := Lib.hid (below_chain H4.out (hd5.below _))
          clear hd5 H4 CU
          go_wp2
          go_ret
          exact ⟨rfl, below_chain HB.out H5.out⟩
      · rw [decP_no hU] at cu
        have CU := Lib.hid <| cu
        clear cu hU
        by_cases h3 : 3 < d.length
        · have h3i : (3 : Int) < (d.length : Int) := by omega
          go_wp2_with fail
          refine (CI.out w1 H1.out).mono ?_
          rintro e w2 ⟨rfl, hb2⟩
          have H2 := Lib.hid (below_chain H1.out hb2)
          clear hb2 H1 CI
          go_wp2_with fail
          refine (CS.out _ H2.out).mono ?_
          rintro e w3 ⟨rfl, hb3⟩
          have H3 := Lib.hid (below_chain H2.out hb3)
          clear hb3 H2 CS
          go_wp2_with fail
          refine (CP.out _ H3.out).mono ?_
          rintro e w4 ⟨rfl, hd4⟩
          have H4 := Lib.hid (below_chain H3.out (hd4.below _))
          clear hd4 H3 CP
          go_wp2_with fail
          refine (CU.out _ H4.out).mono ?_
          rintro e w5 ⟨rfl, hd5⟩
          have H5 := Lib.hid (below_chain H4.out (hd5.below _))
          clear hd5 H4 CU
          go_wp2
          go_ret
          exact ⟨rfl, below_chain HB.out H5.out⟩
        · have h3n : decide (3 < d.length) = false := decide_eq_false h3
          have h3i : decide ((3 : Int) < (d.length : Int)) = false := decide_eq_false (by omega)
          go_wp2_with fail
          refine (CI.out w1 H1.out).mono ?_
          rintro e w2 ⟨rfl, hb2⟩
          have H2 := Lib.hid (below_chain H1.out hb2)
          clear hb2 H1 CI
          go_wp2_with fail
          refine (CS.out _ H2.out).mono ?_
          rintro e w3 ⟨rfl, hb3⟩
          have H3 := Lib.hid (below_chain H2.out hb3)
          clear hb3 H2 CS
          go_wp2_with fail
          refine (CP.out _ H3.out).mono ?_
          rintro e w4 ⟨rfl, hd4⟩
          have H4 := Lib.hid (below_chain H3.out (hd4.below _))
          clear hd4 H3 CP
          go_wp2_with fail
          refine (CU.out _ H4.out).mono ?_
          rintro e w5 ⟨rfl, hd5⟩
          have H5 := Lib.hid (below_chain H4.out (hd5.below _))
          clear hd5 H4 CU
          go_wp2
          go_ret
          exact ⟨rfl, below_chain HB.out H5.out⟩
    · have hU : ¬ Ultra d := fun u => hT ⟨hS, wg_ultra u⟩
      have h3 : 3 < d.length := by
        by_cases h : d.length ≤ 3
        · exact absurd ⟨hS, wg_three hS h⟩ hT
        · omega
      have h3i : (3 : Int) < (d.length : Int) := by omega
      rw [decP_no hT] at ci cs
      rw [decP_no hU] at cu
      have CI := Lib.hid <| ci
      have CS := Lib.hid <| cs
      have CP := Lib.hid <| cp
      have CU := Lib.hid <| cu
      clear ci cs cp cu hS hT hU
      go_wp2_with fail
      refine (CI.out w1 H1.out).mono ?_
      rintro e w2 ⟨rfl, hb2⟩
      have H2 := Lib.hid (below_chain H1.out hb2)
      clear hb2 H1 CI
      go_wp2_with fail
      refine (CS.out _ H2.out).mono ?_
      rintro e w3 ⟨rfl, hb3⟩
      have H3 := Lib.hid (below_chain H2.out hb3)
      clear hb3 H2 CS
      go_wp2_with fail
      refine (CP.out _ H3.out).mono ?_
      rintro e w4 ⟨rfl, hd4⟩
      have H4 := Lib.hid (below_chain H3.out (hd4.below _))
      clear hd4 H3 CP
      go_wp2_with fail
      refine (CU.out _ H4.out).mono ?_
      rintro e w5 ⟨rfl, hd5⟩
      have H5 := Lib.hid (below_chain H4.out (hd5.below _))
      clear hd5 H4 CU
      go_wp2
      go_ret
      exact ⟨rfl, below_chain HB.out H5.out⟩
  · rw [decP_no hS] at cp
    rw [decP_no fun h : TrOk d => hS h.1] at ci cs
    have CI := Lib.hid <| ci
    have CS := Lib.hid <| cs
    have CP := Lib.hid <| cp
    clear ci cs cp cu hS
    go_wp2_with fail
    refine (CI.out w1 H1.out).mono ?_
    rintro e w2 ⟨rfl, hb2⟩
    have H2 := Lib.hid (below_chain H1.out hb2)
    clear hb2 H1 CI
    go_wp2_with fail
    refine (CS.out _ H2.out).mono ?_
    rintro e w3 ⟨rfl, hb3⟩
    have H3 := Lib.hid (below_chain H2.out hb3)
    clear hb3 H2 CS
    go_wp2_with fail
    refine (CP.out _ H3.out).mono ?_
    rintro e w4 ⟨rfl, hd4⟩
    have H4 := Lib.hid (below_chain H3.out (hd4.below _))
    clear hd4 H3 CP
    go_wp2_with fail
    refine (alive_any _).mono ?_
    rintro e w5 ⟨rfl, hd_w5⟩
    have H5 : Hid (Below w1.heap.size w1 w5) := below_chain H4.out hd_w5
    clear hd_w5 H4
    go_wp2
    go_ret
    exact ⟨rfl, below_chain HB.out H5.out⟩

set_option maxRecDepth 100000 in
theorem lifted (os : Os) (started : os.Started) (H : Type) (enc : TypeId × Value → H) :
    ReturnsInHanded {} Try.checked os 14 .any (Rows.fnTreeOkSpec.pre6 enc Try.prog Try.f14 Rows.fnTreeOkRow.domain false) (Rows.fnTreeOkSpec.post enc Try.prog Try.f14 false true false false) := by
  refine returnsInHanded_of_change (C := Try.checked) own_knob started (by kernel_rfl) Try.func14
    (ChangeSpec.witness6 (enc := enc) (C := Try.checked) false ⟨#[], #[.slice none 0 0], []⟩ 8 (by kernel_rfl) (by kernel_rfl) (by kernel_rfl) (by kernel_rfl)) ?_
  intro W base args ds gs before hval0 hW hcnd _
  have hval : ∀ (j : Nat) t v, Try.f14.params[j]? = some t → args[j]? = some v → Value.okWide Try.prog W .any base t v := hval0
  have hW' := hW
  obtain ⟨p, q, hA0, hV, rfl, hfz, hnd⟩ := hW
  have hA : DataW.TrodAll enc Try.prog W 0 (fun _ => true) true Try.f14.params.toList args.toList ds p := hA0
  rw [Try.params14] at hA hval
  obtain ⟨v0, vs0, e0, es0, p0, q0, hargs, rfl, rfl, h0, r0⟩ := trodAll_cons hA
  obtain ⟨rfl, rfl, rfl⟩ := trodAll_nil r0
  obtain rfl : args = #[v0] := by cases args; simp_all
  obtain ⟨rfl, rfl⟩ := trodVars_none hV
  obtain ⟨a0, len0, cap0, rfl⟩ := okWide_slice Try.underlying29 (hval 0 29 v0 rfl rfl)
  have k0 := h0
  have lt0 : ∀ x ∈ p0, x.block < W.heap.size := by obtain ⟨m, hm⟩ := k0; exact DataW.trod_lt m _ _ _ hm
  obtain ⟨z0, y0⟩ := open_bytes h0
  clear hA0 hval0
  refine (walk_all W _ z0 y0).mono fun e W' ⟨he, bel⟩ => ?_
  subst he
  exact ⟨_, rfl, _, _, _, [], _, [], hW', trodAll_mk1 (shut_bool Try.underlying4 _), (trodAll_cons_mk (Below.trod laid_out (by kernel_rfl) (of_decide_eq_true (by kernel_rfl)) k0 bel lt0) trodAll_mk0), rfl, bel.frame _, fun h => by cases h⟩

theorem over : Rows.fnTreeOkRow.holds Try.pinned (OpenSpec.ofChange Rows.fnTreeOkSpec) :=
  OpenClaim.holds_of_wide 14 Try.f14 rfl rfl rfl rfl rfl rfl rfl ⟨rfl, rfl, rfl, rfl, rfl⟩ rfl rfl rfl rfl rfl (by kernel_rfl) Try.func14 (by kernel_rfl)
    (of_decide_eq_true (by kernel_rfl)) (by unfold Func.isWrapper; first | (rw [if_pos (by decide +kernel)]; kernel_rfl) | (rw [if_neg (by decide +kernel)]; exact ⟨rfl, rfl⟩))
    (fun os started H enc _ => lifted os started H enc)

end fnTreeOk
theorem fnTreeOk_holds : Rows.FnTreeOkSaid := fnTreeOk.over
#print axioms fnTreeOk_holds
end Go.Proofs.Ytclffncimaigfaa

