/- The law FnSetOk: for every code it returns true. Conditions: none. -/
import Derived.Test.YtclffncimaigfaaDrawS
import Derived.Test.YtclffncimaigfaaSets
import Derived.Test.YtclffncimaigfaaSetsLaw
import Derived.Test.YtclffncimaigfaaSame
import Derived.Test.YtclffncimaigfaaLawFn
import Derived.Test.YtclffncimaigfaaOpenB
import Derived.Test.YtclffncimaigfaaRows
namespace Go.Proofs.Ytclffncimaigfaa
set_option linter.unusedVariables false
set_option linter.unusedSimpArgs false
namespace fnSetOk
open Go.ChangeShapes Go.WideShapes Go.ChangeAt Go.RowKit Go.Deep

theorem not_set0 (d : List (List Int)) : ¬ SetP d 0 := fun h => by have := h.one; omega
set_option maxRecDepth 100000 in
set_option maxHeartbeats 8000000 in
theorem walk_all (w : World) (v0 : Value) (n0 : Nat) (h0 : BIn w v0 n0) :
    Calls Try.prog 5 #[v0] w fun e w' => e = .returned (.bool true) ∧ Below w.heap.size w w' := by
  obtain ⟨ao, cap, rfl, hn1, hn2, _⟩ := id h0
  rw [maxLen_val] at hn2
  have hN : n0 ≤ 9223372036854775807 := by omega
  have H0 := Lib.hid h0
  clear h0 hn1 hn2
  by_cases hlong : n0 ≤ 1048576
  rotate_left
  · clear H0
    go_enter Try.func5, Try.ntmps5
    go_wp2
    go_ret
    exact ⟨rfl, Below.refl _ _⟩
  go_enter Try.func5, Try.ntmps5
  go_wp2_with fail
  refine (drawSetOk_any _ _ _ H0.out).mono ?_
  rintro e w1 ⟨vd, d, s, rfl, hd, hdn, hb⟩
  clear H0 hlong
  have H1 : Hid (Below w1.heap.size w1 w1) := Below.refl _ _
  have hd6 := hdn.six
  obtain ⟨db, dc, _, _, rfl, -⟩ := id hd.open
  have HD := Lib.hid hd
  have HB := Lib.hid hb
  have ci : ∀ (w' : World) (s : Int), Below w1.heap.size w1 w' → Calls Try.prog 18 #[.slice (some ⟨db, 0, none⟩) d.length dc, .int .i64 s] w' (Gives (.bool (decP (SetP d s))) w') := fun w' s hb => gives_of_quiet (implSetOk_any _ _ _ _ _ _ (HD.out.fresh hb))
  have cs : ∀ (w' : World) (s : Int), Below w1.heap.size w1 w' → Calls Try.prog 16 #[.slice (some ⟨db, 0, none⟩) d.length dc, .int .i64 s] w' (Gives (.bool (decP (SetP d s))) w') := fun w' s hb => gives_of_quiet (specSetOk_any _ _ _ _ _ _ (HD.out.fresh hb))
  have cx : ∀ (w' : World), Below w1.heap.size w1 w' → Calls Try.prog 23 #[.slice (some ⟨db, 0, none⟩) d.length dc] w' (Gives (.bool (decP (Space d))) w') := fun w' hb => gives_of_quiet (specSpaceOk_any _ _ _ _ _ (HD.out.fresh hb))
  by_cases hS : Space d
  · rw [decP_yes hS] at cx
    have c1 : ∀ (w' : World), Below w1.heap.size w1 w' → Calls Try.prog 18 #[.slice (some ⟨db, 0, none⟩) d.length dc, .int .i64 (2 ^ d.length - 1)] w' (Gives (.bool true) w') := fun w' hb => by
      have := ci w' (2 ^ d.length - 1) hb
      rwa [decP_yes (set_all hS)] at this
    have c2 : ∀ (w' : World), Below w1.heap.size w1 w' → Calls Try.prog 18 #[.slice (some ⟨db, 0, none⟩) d.length dc, .int .i64 0] w' (Gives (.bool false) w') := fun w' hb => by
      have := ci w' 0 hb
      rwa [decP_no (not_set0 d)] at this
    have hw := wrap_pow hd6
    have hbd := pow_bd0 hd6
    have hw2 : IntKind.i64.wrap (2 ^ d.length - 1) = 2 ^ d.length - 1 := IntWalk.i64_in _ (by omega)
    have CI := Lib.hid <| fun w' => ci w' s
    have CS := Lib.hid <| fun w' => cs w' s
    have CX := Lib.hid <| cx
    have C1 := Lib.hid <| c1
    have C2 := Lib.hid <| c2
    clear ci cs cx c1 c2 hd hb hdn hS
    generalize decP (SetP d s) = ok at *
    go_wp2_with fail
    refine (CI.out _ H1.out).mono ?_
    rintro e w2 ⟨rfl, hd_w2⟩
    have H2 : Hid (Below w1.heap.size w1 w2) := below_chain H1.out hd_w2
    clear hd_w2 H1
    go_wp2_with fail
    refine (CS.out _ H2.out).mono ?_
    rintro e w3 ⟨rfl, hd_w3⟩
    have H3 : Hid (Below w1.heap.size w1 w3) := below_chain H2.out hd_w3
    clear hd_w3 H2
    go_wp2_with fail
    refine (CX.out _ H3.out).mono ?_
    rintro e w4 ⟨rfl, hd_w4⟩
    have H4 : Hid (Below w1.heap.size w1 w4) := below_chain H3.out hd_w4
    clear hd_w4 H3
    go_wp2_with fail
    refine (C1.out _ H4.out).mono ?_
    rintro e w5 ⟨rfl, hd_w5⟩
    have H5 : Hid (Below w1.heap.size w1 w5) := below_chain H4.out hd_w5
    clear hd_w5 H4
    go_wp2_with fail
    refine (C2.out _ H5.out).mono ?_
    rintro e w6 ⟨rfl, hd_w6⟩
    have H6 : Hid (Below w1.heap.size w1 w6) := below_chain H5.out hd_w6
    clear hd_w6 H5
    go_wp2
    go_ret
    exact ⟨rfl, below_chain HB.out H6.out⟩
  · rw [decP_no hS] at cx
    have hno := decP_no (p := SetP d s) (fun h => hS h.sp)
    have CI := Lib.hid <| fun w' (hb : Below w1.heap.size w1 w') => by have := ci w' s hb; rwa [hno] at this
    have CS := Lib.hid <| fun w' (hb : Below w1.heap.size w1 w') => by have := cs w' s hb; rwa [hno] at this
    have CX := Lib.hid <| cx
    clear ci cs cx hd hb hdn hS
    go_wp2_with fail
    refine (CI.out _ H1.out).mono ?_
    rintro e w2 ⟨rfl, hd_w2⟩
    have H2 : Hid (Below w1.heap.size w1 w2) := below_chain H1.out hd_w2
    clear hd_w2 H1
    go_wp2_with fail
    refine (CS.out _ H2.out).mono ?_
    rintro e w3 ⟨rfl, hd_w3⟩
    have H3 : Hid (Below w1.heap.size w1 w3) := below_chain H2.out hd_w3
    clear hd_w3 H2
    go_wp2_with fail
    refine (CX.out _ H3.out).mono ?_
    rintro e w4 ⟨rfl, hd_w4⟩
    have H4 : Hid (Below w1.heap.size w1 w4) := below_chain H3.out hd_w4
    clear hd_w4 H3
    go_wp2_with fail
    refine (alive_any _).mono ?_
    rintro e w5 ⟨rfl, hd_w5⟩
    have H5 : Hid (Below w1.heap.size w1 w5) := below_chain H4.out hd_w5
    clear hd_w5 H4
    go_wp2
    go_ret
    exact ⟨rfl, below_chain HB.out H5.out⟩

set_option maxRecDepth 100000 in
theorem lifted (os : Os) (started : os.Started) (H : Type) (enc : TypeId × Value → H) :
    ReturnsInHanded {} Try.checked os 5 .any (Rows.fnSetOkSpec.pre6 enc Try.prog Try.f5 Rows.fnSetOkRow.domain false) (Rows.fnSetOkSpec.post enc Try.prog Try.f5 false true false false) := by
  refine returnsInHanded_of_change (C := Try.checked) own_knob started (by kernel_rfl) Try.func5
    (ChangeSpec.witness6 (enc := enc) (C := Try.checked) false ⟨#[], #[.slice none 0 0], []⟩ 8 (by kernel_rfl) (by kernel_rfl) (by kernel_rfl) (by kernel_rfl)) ?_
  intro W base args ds gs before hval0 hW hcnd _
  have hval : ∀ (j : Nat) t v, Try.f5.params[j]? = some t → args[j]? = some v → Value.okWide Try.prog W .any base t v := hval0
  have hW' := hW
  obtain ⟨p, q, hA0, hV, rfl, hfz, hnd⟩ := hW
  have hA : DataW.TrodAll enc Try.prog W 0 (fun _ => true) true Try.f5.params.toList args.toList ds p := hA0
  rw [Try.params5] at hA hval
  obtain ⟨v0, vs0, e0, es0, p0, q0, hargs, rfl, rfl, h0, r0⟩ := trodAll_cons hA
  obtain ⟨rfl, rfl, rfl⟩ := trodAll_nil r0
  obtain rfl : args = #[v0] := by cases args; simp_all
  obtain ⟨rfl, rfl⟩ := trodVars_none hV
  obtain ⟨a0, len0, cap0, rfl⟩ := okWide_slice Try.underlying29 (hval 0 29 v0 rfl rfl)
  have k0 := h0
  have lt0 : ∀ x ∈ p0, x.block < W.heap.size := by obtain ⟨m, hm⟩ := k0; exact DataW.trod_lt m _ _ _ hm
  obtain ⟨z0, y0⟩ := open_bytes h0
  clear hA0 hval0
  refine (walk_all W _ z0 y0).mono fun e W' ⟨he, bel⟩ => ?_
  subst he
  exact ⟨_, rfl, _, _, _, [], _, [], hW', trodAll_mk1 (shut_bool Try.underlying4 _), (trodAll_cons_mk (Below.trod laid_out (by kernel_rfl) (of_decide_eq_true (by kernel_rfl)) k0 bel lt0) trodAll_mk0), rfl, bel.frame _, fun h => by cases h⟩

theorem over : Rows.fnSetOkRow.holds Try.pinned (OpenSpec.ofChange Rows.fnSetOkSpec) :=
  OpenClaim.holds_of_wide 5 Try.f5 rfl rfl rfl rfl rfl rfl rfl ⟨rfl, rfl, rfl, rfl, rfl⟩ rfl rfl rfl rfl rfl (by kernel_rfl) Try.func5 (by kernel_rfl)
    (of_decide_eq_true (by kernel_rfl)) (by unfold Func.isWrapper; first | (rw [if_pos (by decide +kernel)]; kernel_rfl) | (rw [if_neg (by decide +kernel)]; exact ⟨rfl, rfl⟩))
    (fun os started H enc _ => lifted os started H enc)

end fnSetOk
theorem fnSetOk_holds : Rows.FnSetOkSaid := fnSetOk.over
#print axioms fnSetOk_holds
end Go.Proofs.Ytclffncimaigfaa

