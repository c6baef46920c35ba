/- The law FnSteepestOf: for every code it returns true. Conditions: none. -/
import Derived.Test.YtapllhnlngnobaaDrawX
import Derived.Test.YtapllhnlngnobaaSteep
import Derived.Test.YtapllhnlngnobaaSame
import Derived.Test.YtapllhnlngnobaaLawFn
import Derived.Test.YtapllhnlngnobaaOpenB
import Derived.Test.YtapllhnlngnobaaRows
namespace Go.Proofs.Ytapllhnlngnobaa
set_option linter.unusedVariables false
set_option linter.unusedSimpArgs false
namespace fnSteepestOf
open Go.ChangeShapes Go.WideShapes Go.ChangeAt Go.RowKit Go.Deep

theorem zeros_ok {d : List (List Int)} {f : List Int} (h : SteepOk d f) : SteepOk d (List.replicate f.length 0) :=
  ⟨h.sp, h.two, by have := h.vals.1; simpa using this, fun i _ => by rw [iat_zeros]; omega⟩
theorem zeros {d : List (List Int)} {f : List Int} (h : SteepOk d f) : steepV d (List.replicate f.length 0) = 0 := by
  rw [steepV_yes (zeros_ok h)]
  have h1 := stI_nonneg d (List.replicate f.length 0) d.length
  have h2 : stI d (List.replicate f.length 0) d.length ≤ 0 := stI_le (by omega) fun i k _ _ => by
    unfold stG
    rw [iat_zeros, iat_zeros]
    simp
  omega

set_option maxHeartbeats 8000000 in
theorem walk_all (w : World) (v0 : Value) (n0 : Nat) (h0 : BIn w v0 n0) :
    Calls Try.prog 6 #[v0] w fun e w' => e = .returned (.bool true) ∧ Below w.heap.size w w' := by
  obtain ⟨ao, cap, rfl, hn1, hn2, _⟩ := id h0
  rw [maxLen_val] at hn2
  have hN : n0 ≤ 9223372036854775807 := by omega
  have H0 := Lib.hid h0
  clear h0 hn1 hn2
  by_cases hlong : n0 ≤ 1048576
  rotate_left
  · clear H0
    go_enter Try.func6, Try.ntmps6
    go_wp2
    go_ret
    exact ⟨rfl, Below.refl _ _⟩
  go_enter Try.func6, Try.ntmps6
  go_wp2_with fail
  refine (drawSteepestOf_any _ _ _ H0.out).mono ?_
  rintro e w1 ⟨vd, vf, d, f, rfl, hd, hf, hdn, hvf, hfl, hb⟩
  clear H0 hlong
  have H1 : Hid (Below w1.heap.size w1 w1) := Below.refl _ _
  obtain ⟨fb, fc, rfl, _⟩ := id hf.open
  have HD := Lib.hid hd
  have HF := Lib.hid hf
  have HB := Lib.hid hb
  clear hd hf hb hvf
  have ci : ∀ w', Below w1.heap.size w1 w' → Calls Try.prog 24 #[vd, .slice (some ⟨fb, 0, none⟩) f.length fc] w' (Gives (.int .i64 (steepV d f)) w') := fun w' hb => gives_of_quiet (implSteepestOf_any _ _ _ _ _ _ _ _ _ (HD.out.fresh hb) (HF.out.fresh hb))
  have cs : ∀ w', Below w1.heap.size w1 w' → Calls Try.prog 29 #[vd, .slice (some ⟨fb, 0, none⟩) f.length fc] w' (Gives (.int .i64 (steepV d f)) w') := fun w' hb => gives_of_quiet (specSteepestOf_any _ _ _ _ _ _ _ _ _ (HD.out.fresh hb) (HF.out.fresh hb))
  by_cases hok : SteepOk d f
  · have hbd := stI_bd hok (Nat.le_refl _)
    rw [← steepV_yes hok] at hbd
    have hmk := run_make_row' (P := Try.prog) 23 3 (.int .i64 0) 8 Try.underlying23 info_int rfl .i64 .i64 f.length (by omega) (by omega)
    have c1 : ∀ w3, Below w1.heap.size w1 w3 → Calls Try.prog 24 #[vd, .slice (some ⟨w3.heap.size, 0, none⟩) f.length f.length] (w3.alloc (.cells (madeCells #[.int .i64 0] f.length) 3)) (Gives (.int .i64 0) (w3.alloc (.cells (madeCells #[.int .i64 0] f.length) 3))) := fun w3 h3 => by
      have := gives_of_quiet (implSteepestOf_any _ _ _ _ _ _ _ _ _ ((HD.out.fresh h3).alloc (.cells (madeCells #[.int .i64 0] f.length) 3)) (IMem.zeros w3 (n := f.length) (by rw [maxLen_val]; omega)))
      rwa [zeros hok] at this
    have CI := Lib.hid <| ci
    have CS := Lib.hid <| cs
    have C1 := Lib.hid <| c1
    clear ci cs c1 hok
    go_wp2_with fail
    refine (CI.out _ H1.out).mono ?_
    rintro e w2 ⟨rfl, hd_w2⟩
    have H2 : Hid (Below w1.heap.size w1 w2) := below_chain H1.out hd_w2
    clear hd_w2 H1
    go_wp2_with fail
    refine (CS.out _ H2.out).mono ?_
    rintro e w3 ⟨rfl, hd_w3⟩
    have H3 : Hid (Below w1.heap.size w1 w3) := below_chain H2.out hd_w3
    clear hd_w3 H2
    have HZ : Hid (Below w1.heap.size w1 (w3.alloc (.cells (madeCells #[.int .i64 0] f.length) 3))) := H3.out.alloc H3.out.size _
    go_wp2_with fail
    refine (C1.out _ H3.out).mono ?_
    rintro e w4 ⟨rfl, hd4⟩
    have H4 := Lib.hid (below_chain HZ.out hd4)
    clear hd4 hmk
    go_wp2_with fail
    refine (alive_any _).mono ?_
    rintro e w5 ⟨rfl, hd_w5⟩
    have H5 : Hid (Below w1.heap.size w1 w5) := below_chain H4.out hd_w5
    clear hd_w5 H4
    go_wp2
    go_ret
    exact ⟨rfl, below_chain HB.out H5.out⟩
  · rw [steepV_no hok] at ci cs
    have CI := Lib.hid <| ci
    have CS := Lib.hid <| cs
    clear ci cs hok
    go_wp2_with fail
    refine (CI.out _ H1.out).mono ?_
    rintro e w2 ⟨rfl, hd_w2⟩
    have H2 : Hid (Below w1.heap.size w1 w2) := below_chain H1.out hd_w2
    clear hd_w2 H1
    go_wp2_with fail
    refine (CS.out _ H2.out).mono ?_
    rintro e w3 ⟨rfl, hd_w3⟩
    have H3 : Hid (Below w1.heap.size w1 w3) := below_chain H2.out hd_w3
    clear hd_w3 H2
    go_wp2_with fail
    refine (alive_any _).mono ?_
    rintro e w4 ⟨rfl, hd_w4⟩
    have H4 : Hid (Below w1.heap.size w1 w4) := below_chain H3.out hd_w4
    clear hd_w4 H3
    go_wp2
    go_ret
    exact ⟨rfl, below_chain HB.out H4.out⟩

set_option maxRecDepth 100000 in
theorem lifted (os : Os) (started : os.Started) (H : Type) (enc : TypeId × Value → H) :
    ReturnsInHanded {} Try.checked os 6 .any (Rows.fnSteepestOfSpec.pre6 enc Try.prog Try.f6 Rows.fnSteepestOfRow.domain false) (Rows.fnSteepestOfSpec.post enc Try.prog Try.f6 false true false false) := by
  refine returnsInHanded_of_change (C := Try.checked) own_knob started (by kernel_rfl) Try.func6
    (ChangeSpec.witness6 (enc := enc) (C := Try.checked) false ⟨#[], #[.slice none 0 0], []⟩ 8 (by kernel_rfl) (by kernel_rfl) (by kernel_rfl) (by kernel_rfl)) ?_
  intro W base args ds gs before hval0 hW hcnd _
  have hval : ∀ (j : Nat) t v, Try.f6.params[j]? = some t → args[j]? = some v → Value.okWide Try.prog W .any base t v := hval0
  have hW' := hW
  obtain ⟨p, q, hA0, hV, rfl, hfz, hnd⟩ := hW
  have hA : DataW.TrodAll enc Try.prog W 0 (fun _ => true) true Try.f6.params.toList args.toList ds p := hA0
  rw [Try.params6] at hA hval
  obtain ⟨v0, vs0, e0, es0, p0, q0, hargs, rfl, rfl, h0, r0⟩ := trodAll_cons hA
  obtain ⟨rfl, rfl, rfl⟩ := trodAll_nil r0
  obtain rfl : args = #[v0] := by cases args; simp_all
  obtain ⟨rfl, rfl⟩ := trodVars_none hV
  obtain ⟨a0, len0, cap0, rfl⟩ := okWide_slice Try.underlying22 (hval 0 22 v0 rfl rfl)
  have k0 := h0
  have lt0 : ∀ x ∈ p0, x.block < W.heap.size := by obtain ⟨m, hm⟩ := k0; exact DataW.trod_lt m _ _ _ hm
  obtain ⟨z0, y0⟩ := open_bytes h0
  clear hA0 hval0
  refine (walk_all W _ z0 y0).mono fun e W' ⟨he, bel⟩ => ?_
  subst he
  exact ⟨_, rfl, _, _, _, [], _, [], hW', trodAll_mk1 (shut_bool Try.underlying4 _), (trodAll_cons_mk (Below.trod laid_out (by kernel_rfl) (of_decide_eq_true (by kernel_rfl)) k0 bel lt0) trodAll_mk0), rfl, bel.frame _, fun h => by cases h⟩

theorem over : Rows.fnSteepestOfRow.holds Try.pinned (OpenSpec.ofChange Rows.fnSteepestOfSpec) :=
  OpenClaim.holds_of_wide 6 Try.f6 rfl rfl rfl rfl rfl rfl rfl ⟨rfl, rfl, rfl, rfl, rfl⟩ rfl rfl rfl rfl rfl (by kernel_rfl) Try.func6 (by kernel_rfl)
    (of_decide_eq_true (by kernel_rfl)) (by unfold Func.isWrapper; first | (rw [if_pos (by decide +kernel)]; kernel_rfl) | (rw [if_neg (by decide +kernel)]; exact ⟨rfl, rfl⟩))
    (fun os started H enc _ => lifted os started H enc)

end fnSteepestOf
theorem fnSteepestOf_holds : Rows.FnSteepestOfSaid := fnSteepestOf.over
#print axioms fnSteepestOf_holds
end Go.Proofs.Ytapllhnlngnobaa

