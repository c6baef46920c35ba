/- The law FnTameOk: for every code it returns true. Conditions: none. -/
import Derived.Test.YtapllhnlngnobaaDrawX
import Derived.Test.YtapllhnlngnobaaPut
import Derived.Test.YtapllhnlngnobaaTame
import Derived.Test.YtapllhnlngnobaaSteep
import Derived.Test.YtapllhnlngnobaaFnPlain4
import Derived.Test.YtapllhnlngnobaaSame
import Derived.Test.YtapllhnlngnobaaLawFn
import Derived.Test.YtapllhnlngnobaaOpenB
import Derived.Test.YtapllhnlngnobaaRows
namespace Go.Proofs.Ytapllhnlngnobaa
set_option linter.unusedVariables false
set_option linter.unusedSimpArgs false
namespace fnTameOk
open Go.ChangeShapes Go.WideShapes Go.ChangeAt Go.RowKit Go.Deep

set_option maxRecDepth 100000 in
set_option maxHeartbeats 8000000 in
theorem walk_all (w : World) (v0 : Value) (n0 : Nat) (h0 : BIn w v0 n0) :
    Calls Try.prog 4 #[v0] w fun e w' => e = .returned (.bool true) ∧ Below w.heap.size w w' := by
  obtain ⟨ao, cap, rfl, hn1, hn2, _⟩ := id h0
  rw [maxLen_val] at hn2
  have hN : n0 ≤ 9223372036854775807 := by omega
  have H0 := Lib.hid h0
  clear h0 hn1 hn2
  by_cases hlong : n0 ≤ 1048576
  rotate_left
  · clear H0
    go_enter Try.func4, Try.ntmps4
    go_wp2
    go_ret
    exact ⟨rfl, Below.refl _ _⟩
  go_enter Try.func4, Try.ntmps4
  go_wp2_with fail
  refine (drawTameOk_any _ _ _ H0.out).mono ?_
  rintro e w1 ⟨vd, vf, d, f, rfl, hd, hf, hdn, hvf, hfl, hb⟩
  clear H0 hlong
  have H1 : Hid (Below w1.heap.size w1 w1) := Below.refl _ _
  have hd6 := hdn.six
  obtain ⟨fb, fc, rfl, _⟩ := id hf.open
  have HD := Lib.hid hd
  have HF := Lib.hid hf
  have HB := Lib.hid hb
  have HV := Lib.hid hvf
  have ci : ∀ (w' : World), Below w1.heap.size w1 w' → Calls Try.prog 22 #[vd, .slice (some ⟨fb, 0, none⟩) f.length fc] w' (Gives (.bool (decP (Tame d f))) w') := fun w' hb => gives_of_quiet (implTameOk_any _ _ _ _ _ _ _ _ _ (HD.out.fresh hb) (HF.out.fresh hb))
  have cs : ∀ (w' : World), Below w1.heap.size w1 w' → Calls Try.prog 23 #[vd, .slice (some ⟨fb, 0, none⟩) f.length fc] w' (Gives (.bool (decP (Tame d f))) w') := fun w' hb => gives_of_quiet (specTameOk_any _ _ _ _ _ _ _ _ _ (HD.out.fresh hb) (HF.out.fresh hb))
  have cp : ∀ (w' : World) (lo hi : Nat) (v : Value), IMem lo hi w' v (negL f) → Below w1.heap.size w1 w' → Calls Try.prog 22 #[vd, v] w' (Gives (.bool (decP (Tame d f))) w') := fun w' lo hi v hv hb => by
    have := gives_of_quiet (implTameOk_any _ _ _ _ _ _ _ _ _ (HD.out.fresh hb) hv)
    rwa [decP_congr tame_neg_iff] at this
  have cm : ∀ (w' : World) (lo hi : Nat) (v : Value), IMem lo hi w' v (plusL f) → Below w1.heap.size w1 w' → Calls Try.prog 22 #[vd, v] w' (Gives (.bool (decP (Tame d (plusL f)))) w') := fun w' lo hi v hv hb => gives_of_quiet (implTameOk_any _ _ _ _ _ _ _ _ _ (HD.out.fresh hb) hv)
  have cx : ∀ (w' : World), Below w1.heap.size w1 w' → Calls Try.prog 24 #[vd, .slice (some ⟨fb, 0, none⟩) f.length fc] w' (Gives (.int .i64 (steepV d f)) w') := fun w' hb => gives_of_quiet (implSteepestOf_any _ _ _ _ _ _ _ _ _ (HD.out.fresh hb) (HF.out.fresh hb))
  have hst : steepV d f < 0 ∨ (0 ≤ steepV d f ∧ decide (steepV d f ≤ 60) = decP (Tame d f)) := by
    by_cases h : SteepOk d f
    · exact Or.inr ⟨by rw [steepV_yes h]; exact stI_nonneg _ _ _, steep_tame h⟩
    · exact Or.inl (by rw [steepV_no h]; omega)
  have CI := Lib.hid <| ci
  have CS := Lib.hid <| cs
  have CP := Lib.hid <| cp
  have CM := Lib.hid <| cm
  have CX := Lib.hid <| cx
  have HST := Lib.hid <| hst
  clear ci cs cp cm cx hst hd hf hb hdn hvf
  go_wp2_with fail
  refine (CI.out _ H1.out).mono ?_
  rintro e w2 ⟨rfl, hd_w2⟩
  have H2 : Hid (Below w1.heap.size w1 w2) := below_chain H1.out hd_w2
  clear hd_w2 H1
  go_wp2_with fail
  refine (CS.out _ H2.out).mono ?_
  rintro e w3 ⟨rfl, hd_w3⟩
  have H3 : Hid (Below w1.heap.size w1 w3) := below_chain H2.out hd_w3
  clear hd_w3 H2
  have HT : Hid (Two w1.heap.size ((w3.alloc (.cells #[] 3)).alloc (.cells #[] 3)) (.slice (some ⟨w3.heap.size, 0, none⟩) 0 0) (.slice (some ⟨w3.heap.size + 1, 0, none⟩) 0 0) (genL (fun i => - iat f i) 0) (genL (fun i => iat f i + 1) 0)) := by
    have h1 := (IMem.empty w3).alloc (.cells #[] 3)
    have h2 := IMem.empty (w3.alloc (.cells #[] 3))
    have e1 : (w3.alloc (.cells #[] 3)).heap.size = w3.heap.size + 1 := by simp
    rw [e1] at h2
    have hs := H3.out.size
    exact ⟨h1.widen hs (by simp), h2.widen (by omega) (by simp), by simp [Value.ownBlock]⟩
  have H4 : Hid (Below w1.heap.size w1 ((w3.alloc (.cells #[] 3)).alloc (.cells #[] 3))) := (H3.out.alloc H3.out.size _).alloc (by have := H3.out.size; simp; omega) _
  clear H3
  go_wp2
  go_loopw [6, 7, 8, 9] (fun mv ov bv kv wr => ∃ k : Nat, k ≤ f.length ∧ kv = .int .i64 k ∧ bv = .int .i64 (topL f k) ∧ Hid (Two w1.heap.size wr mv ov (genL (fun i => - iat f i) k) (genL (fun i => iat f i + 1) k)) ∧ Hid (Below w1.heap.size w1 wr)) (fun _ _ _ kv _ => f.length - (intOf kv).toNat)
  case atStart => exact ⟨0, Nat.zero_le _, rfl, rfl, HT, H4⟩
  case round =>
    clear HT H4
    obtain ⟨k, hk, rfl, rfl, HT, H4⟩ := hrel
    by_cases hkl : k < f.length
    · have hki : (k : Int) < (f.length : Int) := by omega
      have c1 := (HF.out.fresh H4.out).cellAt hkl
      have hv := HV.out k hkl
      have ht := topL_bd HV.out (show k ≤ f.length by omega)
      have hs := H4.out.size
      have hlen : (genL (fun i => - iat f i) k).length = k := genL_length _ _
      have hlen2 : (genL (fun i => iat f i + 1) k).length = k := genL_length _ _
      go_wp2_with (first
        | (at_builtin; refine wp_app_at _ rfl _ _ rfl w1.heap.size _ _ _ rfl (HT.out.1.alloc _) wr.heap.size 0 1 1 [- iat f k] rfl rfl one_cell (by omega) (by simp; omega) ?_; intro v5 w5 hI5 hB5 hg5 hat5; rw [← genL_succ (fun i => - iat f i) k] at hI5; have HT5 := Lib.hid (HT.out.left hI5 hB5 hg5 hat5); have H5 := Lib.hid ((H4.out.alloc hs _).trans hB5); have hs5 := H5.out.size; have c5 := (HF.out.fresh H5.out).cellAt hkl; clear hI5 hB5 hg5 hat5 HT H4 c1)
        | (at_builtin; refine wp_app_at _ rfl _ _ rfl w1.heap.size _ _ _ rfl (HT5.out.2.1.alloc _) w5.heap.size 0 1 1 [iat f k + 1] rfl rfl one_cell (by omega) (by simp; omega) ?_; intro v6 w6 hI6 hB6 hg6 hat6; rw [← genL_succ (fun i => iat f i + 1) k] at hI6; have HT6 := Lib.hid (HT5.out.symm.left hI6 hB6 hg6 hat6).symm; have H6 := Lib.hid ((H5.out.alloc hs5 _).trans hB6); have c6 := (HF.out.fresh H6.out).cellAt hkl; clear hI6 hB6 hg6 hat6 HT5 H5 c5))
      go_wp2
      go_roundw
      case rel => exact ⟨k + 1, by omega, by go_num, by rw [← topL_step], HT6, H6⟩
      case measure => simp [intOf]; omega
    · have hke : k = f.length := by omega
      subst hke
      have htb := topL_bd HV.out (Nat.le_refl f.length)
      have hcase : decP (Tame d f) = true ∧ (200 < topL f f.length ∨ (topL f f.length ≤ 200 ∧ decP (Tame d (plusL f)) = true)) ∨ decP (Tame d f) = false := by
        by_cases h : Tame d f
        · refine Or.inl ⟨decP_yes h, ?_⟩
          by_cases ht : topL f f.length ≤ 200
          · exact Or.inr ⟨ht, decP_yes (tame_plus h ht)⟩
          · exact Or.inl (by omega)
        · exact Or.inr (decP_no h)
      have CM1 := Lib.hid (CM.out)
      have hst := HST.out
      generalize decP (Tame d (plusL f)) = q at *
      generalize decP (Tame d f) = t at *
      generalize steepV d f = n at *
      generalize topL f f.length = m at *
      clear HST CI CS
      have H40 : Hid (Below wr.heap.size wr wr) := Below.refl _ _
      have HB4 := Lib.hid (below_chain HB.out H4.out)
      go_wp2_with fail
      refine (CX.out _ H4.out).mono ?_
      rintro e w5 ⟨rfl, hd_w5⟩
      have H5 : Hid (Below wr.heap.size wr w5) := below_chain H40.out hd_w5
      clear hd_w5 H40
      rcases hcase with ⟨rfl, hm | ⟨hm, rfl⟩⟩ | rfl
      · rcases hst with hn | ⟨hn, hn2⟩
        · go_wp2_with fail
          refine (CP.out _ _ _ _ (HT.out.1.fresh H5.out) (below_chain H4.out H5.out)).mono ?_
          rintro e w6 ⟨rfl, hd_w6⟩
          have H6 : Hid (Below wr.heap.size wr w6) := below_chain H5.out hd_w6
          clear hd_w6 H5
          go_wp2_with fail
          refine (alive_any _).mono ?_
          rintro e w7 ⟨rfl, hd_w7⟩
          have H7 : Hid (Below wr.heap.size wr w7) := below_chain H6.out hd_w7
          clear hd_w7 H6
          go_wp2
          go_ret
          exact ⟨rfl, below_chain HB4.out H7.out⟩
        · have hn' : decide (n < 0) = false := by simpa using hn
          clear hn
          go_wp2_with fail
          refine (CP.out _ _ _ _ (HT.out.1.fresh H5.out) (below_chain H4.out H5.out)).mono ?_
          rintro e w6 ⟨rfl, hd_w6⟩
          have H6 : Hid (Below wr.heap.size wr w6) := below_chain H5.out hd_w6
          clear hd_w6 H5
          go_wp2_with fail
          refine (alive_any _).mono ?_
          rintro e w7 ⟨rfl, hd_w7⟩
          have H7 : Hid (Below wr.heap.size wr w7) := below_chain H6.out hd_w7
          clear hd_w7 H6
          go_wp2
          go_ret
          exact ⟨rfl, below_chain HB4.out H7.out⟩
      · have hm' : decide (200 < m) = false := by simpa using hm
        rcases hst with hn | ⟨hn, hn2⟩
        · go_wp2_with fail
          refine (CP.out _ _ _ _ (HT.out.1.fresh H5.out) (below_chain H4.out H5.out)).mono ?_
          rintro e w6 ⟨rfl, hd_w6⟩
          have H6 : Hid (Below wr.heap.size wr w6) := below_chain H5.out hd_w6
          clear hd_w6 H5
          go_wp2_with fail
          refine (CM1.out _ _ _ _ (HT.out.2.1.fresh H6.out) (below_chain H4.out H6.out)).mono ?_
          rintro e w7 ⟨rfl, hd_w7⟩
          have H7 : Hid (Below wr.heap.size wr w7) := below_chain H6.out hd_w7
          clear hd_w7 H6
          go_wp2_with fail
          refine (alive_any _).mono ?_
          rintro e w8 ⟨rfl, hd_w8⟩
          have H8 : Hid (Below wr.heap.size wr w8) := below_chain H7.out hd_w8
          clear hd_w8 H7
          go_wp2
          go_ret
          exact ⟨rfl, below_chain HB4.out H8.out⟩
        · have hn' : decide (n < 0) = false := by simpa using hn
          clear hn
          go_wp2_with fail
          refine (CP.out _ _ _ _ (HT.out.1.fresh H5.out) (below_chain H4.out H5.out)).mono ?_
          rintro e w6 ⟨rfl, hd_w6⟩
          have H6 : Hid (Below wr.heap.size wr w6) := below_chain H5.out hd_w6
          clear hd_w6 H5
          go_wp2_with fail
          refine (CM1.out _ _ _ _ (HT.out.2.1.fresh H6.out) (below_chain H4.out H6.out)).mono ?_
          rintro e w7 ⟨rfl, hd_w7⟩
          have H7 : Hid (Below wr.heap.size wr w7) := below_chain H6.out hd_w7
          clear hd_w7 H6
          go_wp2_with fail
          refine (alive_any _).mono ?_
          rintro e w8 ⟨rfl, hd_w8⟩
          have H8 : Hid (Below wr.heap.size wr w8) := below_chain H7.out hd_w8
          clear hd_w8 H7
          go_wp2
          go_ret
          exact ⟨rfl, below_chain HB4.out H8.out⟩
      · rcases hst with hn | ⟨hn, hn2⟩
        · go_wp2_with fail
          refine (CP.out _ _ _ _ (HT.out.1.fresh H5.out) (below_chain H4.out H5.out)).mono ?_
          rintro e w6 ⟨rfl, hd_w6⟩
          have H6 : Hid (Below wr.heap.size wr w6) := below_chain H5.out hd_w6
          clear hd_w6 H5
          go_wp2_with fail
          refine (alive_any _).mono ?_
          rintro e w7 ⟨rfl, hd_w7⟩
          have H7 : Hid (Below wr.heap.size wr w7) := below_chain H6.out hd_w7
          clear hd_w7 H6
          go_wp2
          go_ret
          exact ⟨rfl, below_chain HB4.out H7.out⟩
        · have hn' : decide (n < 0) = false := by simpa using hn
          clear hn
          go_wp2_with fail
          refine (CP.out _ _ _ _ (HT.out.1.fresh H5.out) (below_chain H4.out H5.out)).mono ?_
          rintro e w6 ⟨rfl, hd_w6⟩
          have H6 : Hid (Below wr.heap.size wr w6) := below_chain H5.out hd_w6
          clear hd_w6 H5
          go_wp2_with fail
          refine (alive_any _).mono ?_
          rintro e w7 ⟨rfl, hd_w7⟩
          have H7 : Hid (Below wr.heap.size wr w7) := below_chain H6.out hd_w7
          clear hd_w7 H6
          go_wp2
          go_ret
          exact ⟨rfl, below_chain HB4.out H7.out⟩

set_option maxRecDepth 100000 in
theorem lifted (os : Os) (started : os.Started) (H : Type) (enc : TypeId × Value → H) :
    ReturnsInHanded {} Try.checked os 4 .any (Rows.fnTameOkSpec.pre6 enc Try.prog Try.f4 Rows.fnTameOkRow.domain false) (Rows.fnTameOkSpec.post enc Try.prog Try.f4 false true false false) := by
  refine returnsInHanded_of_change (C := Try.checked) own_knob started (by kernel_rfl) Try.func4
    (ChangeSpec.witness6 (enc := enc) (C := Try.checked) false ⟨#[], #[.slice none 0 0], []⟩ 8 (by kernel_rfl) (by kernel_rfl) (by kernel_rfl) (by kernel_rfl)) ?_
  intro W base args ds gs before hval0 hW hcnd _
  have hval : ∀ (j : Nat) t v, Try.f4.params[j]? = some t → args[j]? = some v → Value.okWide Try.prog W .any base t v := hval0
  have hW' := hW
  obtain ⟨p, q, hA0, hV, rfl, hfz, hnd⟩ := hW
  have hA : DataW.TrodAll enc Try.prog W 0 (fun _ => true) true Try.f4.params.toList args.toList ds p := hA0
  rw [Try.params4] at hA hval
  obtain ⟨v0, vs0, e0, es0, p0, q0, hargs, rfl, rfl, h0, r0⟩ := trodAll_cons hA
  obtain ⟨rfl, rfl, rfl⟩ := trodAll_nil r0
  obtain rfl : args = #[v0] := by cases args; simp_all
  obtain ⟨rfl, rfl⟩ := trodVars_none hV
  obtain ⟨a0, len0, cap0, rfl⟩ := okWide_slice Try.underlying22 (hval 0 22 v0 rfl rfl)
  have k0 := h0
  have lt0 : ∀ x ∈ p0, x.block < W.heap.size := by obtain ⟨m, hm⟩ := k0; exact DataW.trod_lt m _ _ _ hm
  obtain ⟨z0, y0⟩ := open_bytes h0
  clear hA0 hval0
  refine (walk_all W _ z0 y0).mono fun e W' ⟨he, bel⟩ => ?_
  subst he
  exact ⟨_, rfl, _, _, _, [], _, [], hW', trodAll_mk1 (shut_bool Try.underlying4 _), (trodAll_cons_mk (Below.trod laid_out (by kernel_rfl) (of_decide_eq_true (by kernel_rfl)) k0 bel lt0) trodAll_mk0), rfl, bel.frame _, fun h => by cases h⟩

theorem over : Rows.fnTameOkRow.holds Try.pinned (OpenSpec.ofChange Rows.fnTameOkSpec) :=
  OpenClaim.holds_of_wide 4 Try.f4 rfl rfl rfl rfl rfl rfl rfl ⟨rfl, rfl, rfl, rfl, rfl⟩ rfl rfl rfl rfl rfl (by kernel_rfl) Try.func4 (by kernel_rfl)
    (of_decide_eq_true (by kernel_rfl)) (by unfold Func.isWrapper; first | (rw [if_pos (by decide +kernel)]; kernel_rfl) | (rw [if_neg (by decide +kernel)]; exact ⟨rfl, rfl⟩))
    (fun os started H enc _ => lifted os started H enc)

end fnTameOk
theorem fnTameOk_holds : Rows.FnTameOkSaid := fnTameOk.over
#print axioms fnTameOk_holds
end Go.Proofs.Ytapllhnlngnobaa

