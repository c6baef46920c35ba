/- The law FnTightBelow: for every code it returns true. Conditions: none. -/
import Derived.Test.YtapllhnlngnobaaDrawC
import Derived.Test.YtapllhnlngnobaaTBelow
import Derived.Test.YtapllhnlngnobaaTight
import Derived.Test.YtapllhnlngnobaaFnPlain2
import Derived.Test.YtapllhnlngnobaaSame
import Derived.Test.YtapllhnlngnobaaLawFn
import Derived.Test.YtapllhnlngnobaaOpenB
import Derived.Test.YtapllhnlngnobaaRows
namespace Go.Proofs.Ytapllhnlngnobaa
set_option linter.unusedVariables false
set_option linter.unusedSimpArgs false
namespace fnTightBelow
open Go.ChangeShapes Go.WideShapes Go.ChangeAt Go.RowKit Go.Deep

set_option maxHeartbeats 8000000 in
theorem walk_all (w : World) (v0 : Value) (n0 : Nat) (h0 : BIn w v0 n0) :
    Calls Try.prog 12 #[v0] w fun e w' => e = .returned (.bool true) ∧ Below w.heap.size w w' := by
  obtain ⟨ao, cap, rfl, hn1, hn2, _⟩ := id h0
  rw [maxLen_val] at hn2
  have hN : n0 ≤ 9223372036854775807 := by omega
  have H0 := Lib.hid h0
  clear h0 hn1 hn2
  by_cases hlong : n0 ≤ 1048576
  rotate_left
  · clear H0
    go_enter Try.func12, Try.ntmps12
    go_wp2
    go_ret
    exact ⟨rfl, Below.refl _ _⟩
  go_enter Try.func12, Try.ntmps12
  go_wp2_with fail
  refine (drawTightBelow_any _ _ _ H0.out).mono ?_
  rintro e w1 ⟨vd, vf, d, f, rfl, hd, hf, hdn, hvf, hfl, hb⟩
  clear H0 hlong
  have H1 : Hid (Below w1.heap.size w1 w1) := Below.refl _ _
  have hd6 := hdn.six
  by_cases hok : Cov d f
  · have hl := hok.vals.len
    have hone := hok.sp.one
    have hgl := tb_len hok
    have htight := tight_tb hok
    have hle : ∀ k, k < d.length → iat (tbV d f) k ≤ iat f k := fun k hk => tb_le hok hk
    have hstay : TightP d f → tbV d f = f := tb_tight
    obtain ⟨fb, fc, rfl, _⟩ := id hf.open
    rw [hl] at hf ⊢
    have HD := Lib.hid hd
    have HF := Lib.hid hf
    have HB := Lib.hid hb
    have HL := Lib.hid hl
    have cb : ∀ (w' : World), Below w1.heap.size w1 w' → Calls Try.prog 40 #[vd, .slice (some ⟨fb, 0, none⟩) d.length fc] w' (GivesI (tbV d f) w') := fun w' hb => implTightBelow_any _ _ _ _ _ _ _ _ _ (HD.out.fresh hb) (HF.out.fresh hb)
    have cs : ∀ (w' : World), Below w1.heap.size w1 w' → Calls Try.prog 51 #[vd, .slice (some ⟨fb, 0, none⟩) d.length fc] w' (GivesI (tbV d f) w') := fun w' hb => specTightBelow_any _ _ _ _ _ _ _ _ _ (HD.out.fresh hb) (HF.out.fresh hb)
    have ct : ∀ (w' : World) (lo hi : Nat) (v : Value), IMem lo hi w' v (tbV d f) → Below w1.heap.size w1 w' → Calls Try.prog 41 #[vd, v] w' (Gives (.bool true) w') := fun w' lo hi v hv hb => by
      have := gives_of_quiet (implTightOk_any _ _ _ _ _ _ _ _ _ (HD.out.fresh hb) hv)
      rwa [decP_yes htight] at this
    have cu : ∀ (w' : World), Below w1.heap.size w1 w' → Calls Try.prog 41 #[vd, .slice (some ⟨fb, 0, none⟩) d.length fc] w' (Gives (.bool (decP (TightP d f))) w') := fun w' hb => gives_of_quiet (implTightOk_any _ _ _ _ _ _ _ _ _ (HD.out.fresh hb) (HF.out.fresh hb))
    have CB := Lib.hid <| cb
    have CS := Lib.hid <| cs
    have CT := Lib.hid <| ct
    have CU := Lib.hid <| cu
    have HLE := Lib.hid <| hle
    have HST := Lib.hid <| hstay
    clear cb cs ct cu hd hf hb hok hdn htight hle hstay hl hvf hfl
    generalize tbV d f = g at *
    go_wp2_with fail
    refine (CB.out w1 H1.out).mono ?_
    rintro e w2 ⟨vg, rfl, hg, hb2⟩
    have hg := hg.mem (ne_nil_of hgl hone)
    obtain ⟨gb, gc, rfl, _⟩ := id hg.open
    rw [hgl] at hg ⊢
    have HG := Lib.hid hg
    have H12 := Lib.hid hb2
    clear hg hb2
    go_wp2_with fail
    refine (CS.out w2 H12.out).mono ?_
    rintro e w3 ⟨vh, rfl, hh, hb3⟩
    have cq := gives_of_quiet (sameInts_any _ _ _ _ _ (HG.out.fresh hb3).inn hh.inn)
    rw [sameB_yes rfl] at cq
    have CQ := Lib.hid <| cq
    have H3 := Lib.hid hb3
    clear cq hh hb3
    go_wp2_with fail
    refine (CQ.out).mono ?_
    rintro e w4 ⟨rfl, hd_w4⟩
    have H4 : Hid (Below w2.heap.size w2 w4) := below_chain H3.out hd_w4
    clear hd_w4 H3
    have hfn : ((d.length : Int) == 0) = false := by simpa using (show d.length ≠ 0 by omega)
    have HGL := Lib.hid hgl
    clear CQ hgl
    go_wp2
    go_loopw [6] (fun kv wr => ∃ k : Nat, k ≤ d.length ∧ kv = .int .i64 k ∧ Hid (Below w2.heap.size w2 wr)) (fun kv _ => d.length - (intOf kv).toNat)
    case atStart => exact ⟨0, Nat.zero_le _, rfl, H4⟩
    case round =>
      clear H4
      obtain ⟨k, hk, rfl, H4⟩ := hrel
      by_cases hkl : k < d.length
      · have hki : (k : Int) < (d.length : Int) := by omega
        have c1 := (HG.out.fresh H4.out).cellAt (i := k) (by rw [HGL.out]; exact hkl)
        have c2 := ((HF.out.fresh H12.out).fresh H4.out).cellAt (i := k) (by rw [HL.out]; exact hkl)
        have e1 : decide (iat f k < iat g k) = false := by have := HLE.out k hkl; simpa using this
        go_wp2_with fail
        go_quiet (fail)
        clear c1 c2 e1
        go_wp2
        go_roundw
        case rel => exact ⟨k + 1, by omega, by go_num, below_drewN H4.out _⟩
        case measure => simp [intOf]; omega
      · go_wp2_with fail
        refine (CT.out _ _ _ _ (HG.out.fresh H4.out) (below_chain H12.out H4.out)).mono ?_
        rintro e w5 ⟨rfl, hd_w5⟩
        have H5 : Hid (Below w2.heap.size w2 w5) := below_chain H4.out hd_w5
        clear hd_w5 H4
        by_cases ht : TightP d f
        · have cu := CU.out _ (below_chain H12.out H5.out)
          rw [decP_yes ht] at cu
          have cq : ∀ w', Below w2.heap.size w2 w' → Calls Try.prog 20 #[.slice (some ⟨gb, 0, none⟩) d.length gc, .slice (some ⟨fb, 0, none⟩) d.length fc] w' (Gives (.bool true) w') := fun w' hb => by
            have := gives_of_quiet (sameInts_any _ _ _ _ _ (HG.out.fresh hb).inn ((HF.out.fresh H12.out).fresh hb).inn)
            rwa [sameB_yes (HST.out ht)] at this
          have CQ := Lib.hid <| cq
          have CU1 := Lib.hid <| cu
          clear cq cu ht
          go_wp2_with fail
          refine (CU1.out).mono ?_
          rintro e w6 ⟨rfl, hd_w6⟩
          have H6 : Hid (Below w2.heap.size w2 w6) := below_chain H5.out hd_w6
          clear hd_w6 H5
          go_wp2_with fail
          refine (CQ.out _ H6.out).mono ?_
          rintro e w7 ⟨rfl, hd_w7⟩
          have H7 : Hid (Below w2.heap.size w2 w7) := below_chain H6.out hd_w7
          clear hd_w7 H6
          go_wp2
          go_ret
          exact ⟨rfl, below_chain (Lib.hid (below_chain HB.out H12.out)).out H7.out⟩
        · have cu := CU.out _ (below_chain H12.out H5.out)
          rw [decP_no ht] at cu
          have CU1 := Lib.hid <| cu
          clear cu ht
          go_wp2_with fail
          refine (CU1.out).mono ?_
          rintro e w6 ⟨rfl, hd_w6⟩
          have H6 : Hid (Below w2.heap.size w2 w6) := below_chain H5.out hd_w6
          clear hd_w6 H5
          go_wp2
          go_ret
          exact ⟨rfl, below_chain (Lib.hid (below_chain HB.out H12.out)).out H6.out⟩
  · have ci := implTightBelow_any _ _ _ _ _ _ _ _ _ hd hf
    have cs : ∀ (w' : World), Below w1.heap.size w1 w' → Calls Try.prog 51 #[vd, vf] w' (GivesI (tbV d f) w') := fun w' hb => specTightBelow_any _ _ _ _ _ _ _ _ _ (hd.fresh hb) (hf.fresh hb)
    have cc : ∀ (w' : World), Below w1.heap.size w1 w' → Calls Try.prog 31 #[vd, vf] w' (Gives (.bool false) w') := fun w' hb => by
      have := gives_of_quiet (implCoversOk_any _ _ _ _ _ _ _ _ _ (hd.fresh hb) (hf.fresh hb))
      rwa [decP_no hok] at this
    rw [tbV_no hok] at ci cs
    have CI := Lib.hid <| ci
    have CS := Lib.hid <| cs
    have CC := Lib.hid <| cc
    have HB := Lib.hid hb
    clear ci cs cc hok hd hf hdn hb hd6 hvf
    go_wp2_with fail
    refine CI.out.mono ?_
    rintro e w2 ⟨vg, rfl, hg, hb2⟩
    obtain ⟨fo, fc, rfl, _⟩ := id hg.inn
    have HG := Lib.hid hg
    have H12 := Lib.hid hb2
    have HB2 := Lib.hid (below_chain HB.out hb2)
    clear hg hb2
    go_wp2_with fail
    refine (CS.out w2 H12.out).mono ?_
    rintro e w3 ⟨vh, rfl, hh, hb3⟩
    have cq := gives_of_quiet (sameInts_any _ _ _ _ _ (HG.out.inn.keep hb3) hh.inn)
    rw [sameB_yes rfl] at cq
    have CQ := Lib.hid <| cq
    have H3 := Lib.hid hb3
    clear cq hh hb3
    go_wp2_with fail
    refine (CQ.out).mono ?_
    rintro e w4 ⟨rfl, hd_w4⟩
    have H4 : Hid (Below w2.heap.size w2 w4) := below_chain H3.out hd_w4
    clear hd_w4 H3
    go_wp2_with fail
    refine (CC.out _ (below_chain H12.out H4.out)).mono ?_
    rintro e w5 ⟨rfl, hd_w5⟩
    have H5 : Hid (Below w2.heap.size w2 w5) := below_chain H4.out hd_w5
    clear hd_w5 H4
    go_wp2_with fail
    refine (alive_any _).mono ?_
    rintro e w6 ⟨rfl, hd_w6⟩
    have H6 : Hid (Below w2.heap.size w2 w6) := below_chain H5.out hd_w6
    clear hd_w6 H5
    go_wp2
    go_ret
    exact ⟨rfl, below_chain HB2.out H6.out⟩

set_option maxRecDepth 100000 in
theorem lifted (os : Os) (started : os.Started) (H : Type) (enc : TypeId × Value → H) :
    ReturnsInHanded {} Try.checked os 12 .any (Rows.fnTightBelowSpec.pre6 enc Try.prog Try.f12 Rows.fnTightBelowRow.domain false) (Rows.fnTightBelowSpec.post enc Try.prog Try.f12 false true false false) := by
  refine returnsInHanded_of_change (C := Try.checked) own_knob started (by kernel_rfl) Try.func12
    (ChangeSpec.witness6 (enc := enc) (C := Try.checked) false ⟨#[], #[.slice none 0 0], []⟩ 8 (by kernel_rfl) (by kernel_rfl) (by kernel_rfl) (by kernel_rfl)) ?_
  intro W base args ds gs before hval0 hW hcnd _
  have hval : ∀ (j : Nat) t v, Try.f12.params[j]? = some t → args[j]? = some v → Value.okWide Try.prog W .any base t v := hval0
  have hW' := hW
  obtain ⟨p, q, hA0, hV, rfl, hfz, hnd⟩ := hW
  have hA : DataW.TrodAll enc Try.prog W 0 (fun _ => true) true Try.f12.params.toList args.toList ds p := hA0
  rw [Try.params12] at hA hval
  obtain ⟨v0, vs0, e0, es0, p0, q0, hargs, rfl, rfl, h0, r0⟩ := trodAll_cons hA
  obtain ⟨rfl, rfl, rfl⟩ := trodAll_nil r0
  obtain rfl : args = #[v0] := by cases args; simp_all
  obtain ⟨rfl, rfl⟩ := trodVars_none hV
  obtain ⟨a0, len0, cap0, rfl⟩ := okWide_slice Try.underlying22 (hval 0 22 v0 rfl rfl)
  have k0 := h0
  have lt0 : ∀ x ∈ p0, x.block < W.heap.size := by obtain ⟨m, hm⟩ := k0; exact DataW.trod_lt m _ _ _ hm
  obtain ⟨z0, y0⟩ := open_bytes h0
  clear hA0 hval0
  refine (walk_all W _ z0 y0).mono fun e W' ⟨he, bel⟩ => ?_
  subst he
  exact ⟨_, rfl, _, _, _, [], _, [], hW', trodAll_mk1 (shut_bool Try.underlying4 _), (trodAll_cons_mk (Below.trod laid_out (by kernel_rfl) (of_decide_eq_true (by kernel_rfl)) k0 bel lt0) trodAll_mk0), rfl, bel.frame _, fun h => by cases h⟩

theorem over : Rows.fnTightBelowRow.holds Try.pinned (OpenSpec.ofChange Rows.fnTightBelowSpec) :=
  OpenClaim.holds_of_wide 12 Try.f12 rfl rfl rfl rfl rfl rfl rfl ⟨rfl, rfl, rfl, rfl, rfl⟩ rfl rfl rfl rfl rfl (by kernel_rfl) Try.func12 (by kernel_rfl)
    (of_decide_eq_true (by kernel_rfl)) (by unfold Func.isWrapper; first | (rw [if_pos (by decide +kernel)]; kernel_rfl) | (rw [if_neg (by decide +kernel)]; exact ⟨rfl, rfl⟩))
    (fun os started H enc _ => lifted os started H enc)

end fnTightBelow
theorem fnTightBelow_holds : Rows.FnTightBelowSaid := fnTightBelow.over
#print axioms fnTightBelow_holds
end Go.Proofs.Ytapllhnlngnobaa

