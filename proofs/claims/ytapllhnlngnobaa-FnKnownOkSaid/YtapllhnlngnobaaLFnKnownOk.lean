/- The law FnKnownOk: for every code it returns true. Conditions: none. -/
import Derived.Deep.RegionLaw
import Derived.Deep.Cut
import Derived.Test.YtapllhnlngnobaaDrawK
import Derived.Test.YtapllhnlngnobaaKnown
import Derived.Test.YtapllhnlngnobaaFnPlain
import Derived.Test.YtapllhnlngnobaaSame
import Derived.Test.YtapllhnlngnobaaLawFn
import Derived.Test.YtapllhnlngnobaaOpenB
import Derived.Test.YtapllhnlngnobaaRows
namespace Go.Proofs.Ytapllhnlngnobaa
set_option linter.unusedVariables false
set_option linter.unusedSimpArgs false
namespace fnKnownOk
open Go.ChangeShapes Go.WideShapes Go.ChangeAt Go.RowKit Go.Deep

def oneL (n : Nat) : List Int := (List.replicate n 0).set 0 1
def sevL (n : Nat) : List Int := (List.replicate n 0).set 0 7
theorem iat_first {n i : Nat} {x : Int} (h : i < n) : iat ((List.replicate n 0).set 0 x) i = if 0 = i then x else 0 := by
  rw [iat_setD (by simpa using h)]
  split
  · rfl
  · exact iat_zeros n i
theorem known_one {d : List (List Int)} (h : Space d) : Known d (oneL d.length) (sevL d.length) := by
  have h1 := h.one
  refine ⟨h, by simp [oneL], by simp [sevL], fun i hi => ?_, ⟨0, by omega, by rw [oneL, iat_first (by omega)]; rfl⟩, fun i k hi hk hi1 hk1 => ?_⟩
  · unfold KnAt oneL sevL
    rw [iat_first hi, iat_first hi]
    by_cases e : 0 = i
    · subst e
      left; simp
    · rw [if_neg e, if_neg e]
      right; omega
  · rw [oneL, iat_first hi] at hi1
    rw [oneL, iat_first hk] at hk1
    have e1 : 0 = i := by
      by_cases e : 0 = i
      · exact e
      · rw [if_neg e] at hi1; omega
    have e2 : 0 = k := by
      by_cases e : 0 = k
      · exact e
      · rw [if_neg e] at hk1; omega
    subst e1; subst e2
    have := h.own hi
    omega
theorem not_known_zero {d : List (List Int)} : ¬ Known d (List.replicate d.length 0) (List.replicate d.length 0) := fun h => by
  obtain ⟨i, _, e⟩ := h.some
  rw [iat_zeros] at e
  omega

set_option maxRecDepth 100000 in
set_option maxHeartbeats 8000000 in
theorem walk_all (w : World) (v0 : Value) (n0 : Nat) (h0 : BIn w v0 n0) :
    Calls Try.prog 8 #[v0] w fun e w' => e = .returned (.bool true) ∧ Below w.heap.size w w' := by
  obtain ⟨ao, cap, rfl, hn1, hn2, _⟩ := id h0
  rw [maxLen_val] at hn2
  have hN : n0 ≤ 9223372036854775807 := by omega
  have H0 := Lib.hid h0
  clear h0 hn1 hn2
  by_cases hlong : n0 ≤ 1048576
  rotate_left
  · clear H0
    go_enter Try.func8, Try.ntmps8
    go_wp2
    go_ret
    exact ⟨rfl, Below.refl _ _⟩
  go_enter Try.func8, Try.ntmps8
  go_wp2_with fail
  refine (drawKnownOk_any _ _ _ H0.out).mono ?_
  rintro e w1 ⟨vd, vk, vf, d, kn, f, rfl, hd, hkn, hf, hdn, hvk, hkl, hvf, hfl, hb⟩
  clear H0 hlong
  have H1 : Hid (Below w1.heap.size w1 w1) := Below.refl _ _
  have hd6 := hdn.six
  have HB := Lib.hid hb
  obtain ⟨db, dc, _, _, rfl, _⟩ := id hd.open
  have HD := Lib.hid hd
  have ci : ∀ (w' : World), Below w1.heap.size w1 w' → Calls Try.prog 35 #[.slice (some ⟨db, 0, none⟩) d.length dc, vk, vf] w' (Gives (.bool (decP (Known d kn f))) w') := fun w' hb => gives_of_quiet (implKnownOk_any _ _ _ _ _ _ _ _ _ _ _ _ _ (hd.fresh hb) (hkn.fresh hb) (hf.fresh hb))
  have cs : ∀ (w' : World), Below w1.heap.size w1 w' → Calls Try.prog 36 #[.slice (some ⟨db, 0, none⟩) d.length dc, vk, vf] w' (Gives (.bool (decP (Known d kn f))) w') := fun w' hb => gives_of_quiet (specKnownOk_any _ _ _ _ _ _ _ _ _ _ _ _ _ (hd.fresh hb) (hkn.fresh hb) (hf.fresh hb))
  have cx : ∀ (w' : World), Below w1.heap.size w1 w' → Calls Try.prog 33 #[.slice (some ⟨db, 0, none⟩) d.length dc] w' (Gives (.bool (decP (Space d))) w') := fun w' hb => gives_of_quiet (specSpaceOk_any _ _ _ _ _ (HD.out.fresh hb))
  by_cases hS : Space d
  · have hone := hS.one
    rw [decP_yes hS] at cx
    have cz : ∀ (w' : World) (lo hi lo' hi' : Nat) (v u : Value) (a b : List Int), IMem lo hi w' v a → IMem lo' hi' w' u b → Below w1.heap.size w1 w' → Calls Try.prog 35 #[.slice (some ⟨db, 0, none⟩) d.length dc, v, u] w' (Quiet (.bool (decP (Known d a b))) w') := fun w' lo hi lo' hi' v u a b ha hb' hb => implKnownOk_any _ _ _ _ _ _ _ _ _ _ _ _ _ (HD.out.fresh hb) ha hb'
    have HK1 := Lib.hid (known_one hS)
    have CI := Lib.hid <| ci
    have CS := Lib.hid <| cs
    have CX := Lib.hid <| cx
    have CZ := Lib.hid <| cz
    clear ci cs cx cz hd hkn hf hb hdn hvf hvk hS hfl hkl
    generalize decP (Known d kn f) = t at *
    go_wp2_with fail
    refine (CI.out _ H1.out).mono ?_
    rintro e w2 ⟨rfl, hd_w2⟩
    have H2 : Hid (Below w1.heap.size w1 w2) := below_chain H1.out hd_w2
    clear hd_w2 H1
    go_wp2_with fail
    refine (CS.out _ H2.out).mono ?_
    rintro e w3 ⟨rfl, hd_w3⟩
    have H3 : Hid (Below w1.heap.size w1 w3) := below_chain H2.out hd_w3
    clear hd_w3 H2
    go_wp2_with fail
    refine (CX.out _ H3.out).mono ?_
    rintro e w4 ⟨rfl, hd_w4⟩
    have H4 : Hid (Below w1.heap.size w1 w4) := below_chain H3.out hd_w4
    clear hd_w4 H3
    have hmk := run_make_row' (P := Try.prog) 23 3 (.int .i64 0) 8 Try.underlying23 info_int rfl .i64 .i64 d.length (by omega) (by omega)
    have hml : d.length ≤ maxLen := by rw [maxLen_val]; omega
    have hz1 := (IMem.zeros w4 hml).alloc (.cells (madeCells #[.int .i64 0] d.length) 3)
    have hz2 := IMem.zeros (w4.alloc (.cells (madeCells #[.int .i64 0] d.length) 3)) hml
    have e1 : (w4.alloc (.cells (madeCells #[.int .i64 0] d.length) 3)).heap.size = w4.heap.size + 1 := by simp
    rw [e1] at hz2
    have hb2 : Below w1.heap.size w1 ((w4.alloc (.cells (madeCells #[.int .i64 0] d.length) 3)).alloc (.cells (madeCells #[.int .i64 0] d.length) 3)) := (H4.out.alloc H4.out.size _).alloc (by have := H4.out.size; simp; omega) _
    have HZ1 := Lib.hid hz1
    have HZ2 := Lib.hid hz2
    have HBM := Lib.hid hb2
    clear hz1 hz2 hb2 e1 CI CS CX
    go_upto_region 11 with (fail)
    generalize (w4.alloc (.cells (madeCells #[.int .i64 0] d.length) 3)).alloc (.cells (madeCells #[.int .i64 0] d.length) 3) = wm at *
    have hz1 := HZ1.out
    have hz2 := HZ2.out
    have c0 := hz2.cellAt (i := 0) (by simp; omega)
    have f0 := hz2.frozenAt 0
    have c1 := hz1.cellAt (i := 0) (by simp; omega)
    have f1 := hz1.frozenAt 0
    have hs1 : IMem w4.heap.size (w4.heap.size + 1) (wm.setCell ⟨w4.heap.size, 0, none⟩ (.int .i64 1)) (.slice (some ⟨w4.heap.size, 0, none⟩) d.length d.length) (oneL d.length) :=
      hz1.set (by simp [oneL]) 0 (by rw [oneL, iat_first (by omega)]; rfl) (fun j hj hne => by rw [oneL, iat_first (by simpa using hj), if_neg (fun h => hne h.symm), iat_zeros])
    have hz3 := hz2.setCell_other (p := ⟨w4.heap.size, 0, none⟩) (by simp [Value.ownBlock]) (.int .i64 1)
    have c2 := hz3.cellAt (i := 0) (by simp; omega)
    have f2 := hz3.frozenAt 0
    have hs2 := hz3.set (ys := sevL d.length) (x := 7) (by simp [sevL]) 0 (by rw [sevL, iat_first (by omega)]; rfl) (fun j hj hne => by rw [sevL, iat_first (by simpa using hj), if_neg (fun h => hne h.symm), iat_zeros])
    have hs3 := hs1.setCell_other (p := ⟨w4.heap.size + 1, 0, none⟩) (by simp [Value.ownBlock]) (.int .i64 7)
    have hb3 := (HBM.out.setCell (p := ⟨w4.heap.size, 0, none⟩) H4.out.size (.int .i64 1)).setCell (p := ⟨w4.heap.size + 1, 0, none⟩) (by have := H4.out.size; show w1.heap.size ≤ w4.heap.size + 1; omega) (.int .i64 7)
    have HO := Lib.hid hs3
    have HS := Lib.hid hs2
    have HZ := Lib.hid hb3
    have hdi : (0 : Int) < (d.length : Int) := by omega
    clear hz1 hz2 hz3 hs1 hs2 hs3 hb3 HZ1 HZ2 HBM
    go_wp2_with fail
    generalize (wm.setCell ⟨w4.heap.size, 0, none⟩ (.int .i64 1)).setCell ⟨w4.heap.size + 1, 0, none⟩ (.int .i64 7) = wz at *
    have C1 : Hid (Calls Try.prog 35 #[.slice (some ⟨db, 0, none⟩) d.length dc, .slice (some ⟨w4.heap.size, 0, none⟩) d.length d.length, .slice (some ⟨w4.heap.size + 1, 0, none⟩) d.length d.length] wz.drew (Quiet (.bool true) wz.drew)) := by
      have := CZ.out wz.drew _ _ _ _ _ _ _ _ (HO.out.drewN 1) (HS.out.drewN 1) HZ.out.drew
      rwa [decP_yes HK1.out] at this
    have HNZ := Lib.hid (not_known_zero (d := d))
    have h2 : ∀ w6 : World, Below w1.heap.size w1 w6 → IMem w6.heap.size (w6.heap.size + 1) ((w6.alloc (.cells (madeCells #[.int .i64 0] d.length) 3)).alloc (.cells (madeCells #[.int .i64 0] d.length) 3)) (.slice (some ⟨w6.heap.size, 0, none⟩) d.length d.length) (List.replicate d.length 0) ∧
        IMem (w6.heap.size + 1) (w6.heap.size + 2) ((w6.alloc (.cells (madeCells #[.int .i64 0] d.length) 3)).alloc (.cells (madeCells #[.int .i64 0] d.length) 3)) (.slice (some ⟨w6.heap.size + 1, 0, none⟩) d.length d.length) (List.replicate d.length 0) ∧
        Below w1.heap.size w1 ((w6.alloc (.cells (madeCells #[.int .i64 0] d.length) 3)).alloc (.cells (madeCells #[.int .i64 0] d.length) 3)) := by
      intro w6 h6
      have a2 := IMem.zeros (w6.alloc (.cells (madeCells #[.int .i64 0] d.length) 3)) hml
      have e1 : (w6.alloc (.cells (madeCells #[.int .i64 0] d.length) 3)).heap.size = w6.heap.size + 1 := by simp
      rw [e1] at a2
      exact ⟨(IMem.zeros w6 hml).alloc _, a2, (h6.alloc h6.size _).alloc (by have := h6.size; simp; omega) _⟩
    have HM2 := Lib.hid <| h2
    have c2 : ∀ (w6 : World) (x y : Nat), (x = w6.heap.size ∧ y = w6.heap.size + 1) ∨ (x = w6.heap.size + 1 ∧ y = w6.heap.size) → Below w1.heap.size w1 w6 → Calls Try.prog 35 #[.slice (some ⟨db, 0, none⟩) d.length dc, .slice (some ⟨x, 0, none⟩) d.length d.length, .slice (some ⟨y, 0, none⟩) d.length d.length] ((w6.alloc (.cells (madeCells #[.int .i64 0] d.length) 3)).alloc (.cells (madeCells #[.int .i64 0] d.length) 3)) (Gives (.bool false) ((w6.alloc (.cells (madeCells #[.int .i64 0] d.length) 3)).alloc (.cells (madeCells #[.int .i64 0] d.length) 3))) := by
      intro w6 x y hxy h6
      obtain ⟨a1, a2, a3⟩ := HM2.out w6 h6
      rcases hxy with ⟨rfl, rfl⟩ | ⟨rfl, rfl⟩
      · have := gives_of_quiet (CZ.out _ _ _ _ _ _ _ _ _ a1 a2 a3)
        rwa [decP_no HNZ.out] at this
      · have := gives_of_quiet (CZ.out _ _ _ _ _ _ _ _ _ a2 a1 a3)
        rwa [decP_no HNZ.out] at this
    have C2 := Lib.hid <| c2
    clear h2 c2 CZ HNZ HK1
    go_region_law (first
      | (go_simp; go_at_call 35; refine C1.out.mono ?_; rintro e w6 ⟨rfl, hd6⟩; have H6 := Lib.hid (HZ.out.trans ((Dr.below (⟨1, rfl⟩ : Dr wz wz.drew) _).trans (hd6.below _))); clear hd6 C1)
      | (go_simp; go_at_call 35; refine (C2.out w6 _ _ ?_ H6.out).mono ?_; (first | exact Or.inl ⟨rfl, rfl⟩ | exact Or.inr ⟨rfl, rfl⟩); rintro e w7 ⟨rfl, hb7⟩; have H7 := Lib.hid (below_chain (HM2.out w6 H6.out).2.2 hb7); clear hb7))
    all_goals
      go_wp2
      go_ret
      exact ⟨rfl, below_chain HB.out H7.out⟩
  · rw [decP_no hS] at cx
    rw [decP_no (fun h => hS h.sp)] at ci cs
    have CI := Lib.hid <| ci
    have CS := Lib.hid <| cs
    have CX := Lib.hid <| cx
    clear ci cs cx hd hkn hf hb hdn hvf hvk hS hfl hkl
    go_wp2_with fail
    refine (CI.out _ H1.out).mono ?_
    rintro e w2 ⟨rfl, hd_w2⟩
    have H2 : Hid (Below w1.heap.size w1 w2) := below_chain H1.out hd_w2
    clear hd_w2 H1
    go_wp2_with fail
    refine (CS.out _ H2.out).mono ?_
    rintro e w3 ⟨rfl, hd_w3⟩
    have H3 : Hid (Below w1.heap.size w1 w3) := below_chain H2.out hd_w3
    clear hd_w3 H2
    go_wp2_with fail
    refine (CX.out _ H3.out).mono ?_
    rintro e w4 ⟨rfl, hd_w4⟩
    have H4 : Hid (Below w1.heap.size w1 w4) := below_chain H3.out hd_w4
    clear hd_w4 H3
    go_wp2_with fail
    refine (alive_any _).mono ?_
    rintro e w5 ⟨rfl, hd_w5⟩
    have H5 : Hid (Below w1.heap.size w1 w5) := below_chain H4.out hd_w5
    clear hd_w5 H4
    go_wp2
    go_ret
    exact ⟨rfl, below_chain HB.out H5.out⟩

set_option maxRecDepth 100000 in
theorem lifted (os : Os) (started : os.Started) (H : Type) (enc : TypeId × Value → H) :
    ReturnsInHanded {} Try.checked os 8 .any (Rows.fnKnownOkSpec.pre6 enc Try.prog Try.f8 Rows.fnKnownOkRow.domain false) (Rows.fnKnownOkSpec.post enc Try.prog Try.f8 false true false false) := by
  refine returnsInHanded_of_change (C := Try.checked) own_knob started (by kernel_rfl) Try.func8
    (ChangeSpec.witness6 (enc := enc) (C := Try.checked) false ⟨#[], #[.slice none 0 0], []⟩ 8 (by kernel_rfl) (by kernel_rfl) (by kernel_rfl) (by kernel_rfl)) ?_
  intro W base args ds gs before hval0 hW hcnd _
  have hval : ∀ (j : Nat) t v, Try.f8.params[j]? = some t → args[j]? = some v → Value.okWide Try.prog W .any base t v := hval0
  have hW' := hW
  obtain ⟨p, q, hA0, hV, rfl, hfz, hnd⟩ := hW
  have hA : DataW.TrodAll enc Try.prog W 0 (fun _ => true) true Try.f8.params.toList args.toList ds p := hA0
  rw [Try.params8] at hA hval
  obtain ⟨v0, vs0, e0, es0, p0, q0, hargs, rfl, rfl, h0, r0⟩ := trodAll_cons hA
  obtain ⟨rfl, rfl, rfl⟩ := trodAll_nil r0
  obtain rfl : args = #[v0] := by cases args; simp_all
  obtain ⟨rfl, rfl⟩ := trodVars_none hV
  obtain ⟨a0, len0, cap0, rfl⟩ := okWide_slice Try.underlying22 (hval 0 22 v0 rfl rfl)
  have k0 := h0
  have lt0 : ∀ x ∈ p0, x.block < W.heap.size := by obtain ⟨m, hm⟩ := k0; exact DataW.trod_lt m _ _ _ hm
  obtain ⟨z0, y0⟩ := open_bytes h0
  clear hA0 hval0
  refine (walk_all W _ z0 y0).mono fun e W' ⟨he, bel⟩ => ?_
  subst he
  exact ⟨_, rfl, _, _, _, [], _, [], hW', trodAll_mk1 (shut_bool Try.underlying4 _), (trodAll_cons_mk (Below.trod laid_out (by kernel_rfl) (of_decide_eq_true (by kernel_rfl)) k0 bel lt0) trodAll_mk0), rfl, bel.frame _, fun h => by cases h⟩

theorem over : Rows.fnKnownOkRow.holds Try.pinned (OpenSpec.ofChange Rows.fnKnownOkSpec) :=
  OpenClaim.holds_of_wide 8 Try.f8 rfl rfl rfl rfl rfl rfl rfl ⟨rfl, rfl, rfl, rfl, rfl⟩ rfl rfl rfl rfl rfl (by kernel_rfl) Try.func8 (by kernel_rfl)
    (of_decide_eq_true (by kernel_rfl)) (by unfold Func.isWrapper; first | (rw [if_pos (by decide +kernel)]; kernel_rfl) | (rw [if_neg (by decide +kernel)]; exact ⟨rfl, rfl⟩))
    (fun os started H enc _ => lifted os started H enc)

end fnKnownOk
theorem fnKnownOk_holds : Rows.FnKnownOkSaid := fnKnownOk.over
#print axioms fnKnownOk_holds
end Go.Proofs.Ytapllhnlngnobaa

