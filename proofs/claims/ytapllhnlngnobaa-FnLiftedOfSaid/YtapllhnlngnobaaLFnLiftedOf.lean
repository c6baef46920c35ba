/- The law FnLiftedOf: for every code it returns true. Conditions: none. -/
import Derived.Test.YtapllhnlngnobaaDrawX
import Derived.Test.YtapllhnlngnobaaCovers
import Derived.Test.YtapllhnlngnobaaFnPlain2
import Derived.Test.YtapllhnlngnobaaWidth
import Derived.Test.YtapllhnlngnobaaRadius
import Derived.Test.YtapllhnlngnobaaSame
import Derived.Test.YtapllhnlngnobaaLawFn
import Derived.Test.YtapllhnlngnobaaOpenB
import Derived.Test.YtapllhnlngnobaaRows
namespace Go.Proofs.Ytapllhnlngnobaa
set_option linter.unusedVariables false
set_option linter.unusedSimpArgs false
namespace fnLiftedOf
open Go.ChangeShapes Go.WideShapes Go.ChangeAt Go.RowKit Go.Deep

set_option maxRecDepth 100000 in
set_option maxHeartbeats 8000000 in
theorem walk_all (w : World) (v0 : Value) (n0 : Nat) (h0 : BIn w v0 n0) :
    Calls Try.prog 10 #[v0] w fun e w' => e = .returned (.bool true) ∧ Below w.heap.size w w' := by
  obtain ⟨ao, cap, rfl, hn1, hn2, _⟩ := id h0
  rw [maxLen_val] at hn2
  have hN : n0 ≤ 9223372036854775807 := by omega
  have H0 := Lib.hid h0
  clear h0 hn1 hn2
  by_cases hlong : n0 ≤ 1048576
  rotate_left
  · clear H0
    go_enter Try.func10, Try.ntmps10
    go_wp2
    go_ret
    exact ⟨rfl, Below.refl _ _⟩
  go_enter Try.func10, Try.ntmps10
  go_wp2_with fail
  refine (drawLiftedOf_any _ _ _ H0.out).mono ?_
  rintro e w1 ⟨vd, d, rfl, hd, hdn, hb⟩
  clear H0 hlong
  have H1 : Hid (Below w1.heap.size w1 w1) := Below.refl _ _
  have hd6 := hdn.six
  obtain ⟨db, dc, _, _, rfl, _⟩ := id hd.open
  have HD := Lib.hid hd
  have HB := Lib.hid hb
  have ci : ∀ (w' : World), Below w1.heap.size w1 w' → Calls Try.prog 43 #[.slice (some ⟨db, 0, none⟩) d.length dc] w' (GivesI (liftV d) w') := fun w' hb => implLiftedOf_any _ _ _ _ _ (HD.out.fresh hb)
  have cs : ∀ (w' : World), Below w1.heap.size w1 w' → Calls Try.prog 44 #[.slice (some ⟨db, 0, none⟩) d.length dc] w' (GivesI (liftV d) w') := fun w' hb => specLiftedOf_any _ _ _ _ _ (HD.out.fresh hb)
  by_cases hS : Space d
  · have hone := hS.one
    have hll : (liftV d).length = d.length := by rw [liftV_yes hS, genL_length]
    have hat : ∀ k, k < d.length → iat (liftV d) k = farF d k := fun k hk => by rw [liftV_yes hS, iat_genL hk]
    have cr : ∀ (w' : World), Below w1.heap.size w1 w' → Calls Try.prog 46 #[.slice (some ⟨db, 0, none⟩) d.length dc] w' (RadP d w') := fun w' hb => implRadiusOf_any _ _ _ _ _ (HD.out.fresh hb) hS
    have cw : ∀ (w' : World), Below w1.heap.size w1 w' → Calls Try.prog 47 #[.slice (some ⟨db, 0, none⟩) d.length dc] w' (Quiet (.int .i64 (widF d d.length)) w') := fun w' hb => by
      have := implWidthOf_any _ _ _ _ _ (HD.out.fresh hb)
      rwa [widV_yes hS] at this
    have cc : ∀ (w' : World) (lo hi : Nat) (v : Value), IMem lo hi w' v (liftV d) → Below w1.heap.size w1 w' → Calls Try.prog 31 #[.slice (some ⟨db, 0, none⟩) d.length dc, v] w' (Gives (.bool true) w') := fun w' lo hi v hv hb => by
      have := gives_of_quiet (implCoversOk_any _ _ _ _ _ _ _ _ _ (HD.out.fresh hb) hv)
      rwa [decP_yes (cov_lift hS)] at this
    have hrw : ∀ k, k < d.length → radF d ≤ iat (liftV d) k ∧ iat (liftV d) k ≤ widF d d.length := fun k hk => by rw [hat k hk]; exact ⟨rad_le hk, far_le_wid hk⟩
    have CI := Lib.hid <| ci
    have CS := Lib.hid <| cs
    have CR := Lib.hid <| cr
    have CW := Lib.hid <| cw
    have CC := Lib.hid <| cc
    have HRW := Lib.hid <| hrw
    clear ci cs cr cw cc hrw hat hd hb hdn hS
    generalize liftV d = f at *
    generalize widF d d.length = wd at *
    go_wp2_with fail
    refine (CI.out w1 H1.out).mono ?_
    rintro e w2 ⟨vf, rfl, hf, hb2⟩
    have hf := hf.mem (ne_nil_of hll hone)
    obtain ⟨fb, fc, rfl, _⟩ := id hf.open
    rw [hll] at hf ⊢
    have HF := Lib.hid hf
    have HLL := Lib.hid hll
    have H12 := Lib.hid hb2
    clear hf hb2 hll
    go_wp2_with fail
    refine (CS.out w2 H12.out).mono ?_
    rintro e w3 ⟨vg, rfl, hg, hb3⟩
    have cq := gives_of_quiet (sameInts_any _ _ _ _ _ (HF.out.fresh hb3).inn hg.inn)
    rw [sameB_yes rfl] at cq
    have CQ := Lib.hid <| cq
    have H3 := Lib.hid hb3
    clear cq hg hb3
    go_wp2_with fail
    refine (CQ.out).mono ?_
    rintro e w4 ⟨rfl, hd_w4⟩
    have H4 : Hid (Below w2.heap.size w2 w4) := below_chain H3.out hd_w4
    clear hd_w4 H3
    have hfn : ((d.length : Int) == 0) = false := by simpa using (show d.length ≠ 0 by omega)
    go_wp2_with fail
    refine (CR.out _ (below_chain H12.out H4.out)).mono ?_
    rintro e w5 ⟨q, rfl, _, hd5⟩
    have H5 := Lib.hid (H4.out.trans (hd5.below _))
    clear hd5 H4 CQ
    have hrb := HRW.out 0 hone
    go_wp2
    go_loopw [8] (fun kv wr => ∃ k : Nat, k ≤ d.length ∧ kv = .int .i64 k ∧ Hid (Below w2.heap.size w2 wr)) (fun kv _ => d.length - (intOf kv).toNat)
    case atStart => exact ⟨0, Nat.zero_le _, rfl, H5⟩
    case round =>
      clear H5
      obtain ⟨k, hk, rfl, H5⟩ := hrel
      by_cases hkl : k < d.length
      · have hki : (k : Int) < (d.length : Int) := by omega
        have c1 := (HF.out.fresh H5.out).cellAt (i := k) (by rw [HLL.out]; exact hkl)
        obtain ⟨a1, a2⟩ := HRW.out k hkl
        have e1 : decide (iat f k < radF d) = false := by simpa using a1
        have e2 : decide (wd < iat f k) = false := by simpa using a2
        have HCW : Hid (∀ m : Nat, Calls Try.prog 47 #[.slice (some ⟨db, 0, none⟩) d.length dc] (wr.drewN m) (Quiet (.int .i64 wd) (wr.drewN m))) := fun m => CW.out _ ((below_chain H12.out H5.out).trans (Dr.below ⟨m, rfl⟩ _))
        go_wp2_with fail
        go_quiet ((go_at_call 47; exact quiet_in (HCW.out _)))
        clear c1 a1 a2 e1 e2
        go_wp2
        go_roundw
        case rel => exact ⟨k + 1, by omega, by go_num, below_drewN H5.out _⟩
        case measure => simp [intOf]; omega
      · go_wp2_with fail
        refine (CC.out _ _ _ _ (HF.out.fresh H5.out) (below_chain H12.out H5.out)).mono ?_
        rintro e w6 ⟨rfl, hd_w6⟩
        have H6 : Hid (Below w2.heap.size w2 w6) := below_chain H5.out hd_w6
        clear hd_w6 H5
        go_wp2
        go_ret
        exact ⟨rfl, below_chain (Lib.hid (below_chain HB.out H12.out)).out H6.out⟩
  · have cx : ∀ (w' : World), Below w1.heap.size w1 w' → Calls Try.prog 45 #[.slice (some ⟨db, 0, none⟩) d.length dc] w' (Gives (.bool false) w') := fun w' hb => by
      have := gives_of_quiet (implSpaceOk_any _ _ _ _ _ (HD.out.fresh hb))
      rwa [decP_no hS] at this
    rw [liftV_no hS] at ci cs
    have CI := Lib.hid <| ci
    have CS := Lib.hid <| cs
    have CX := Lib.hid <| cx
    clear ci cs cx hS hd hdn hb hd6
    go_wp2_with fail
    refine (CI.out w1 H1.out).mono ?_
    rintro e w2 ⟨vg, rfl, hg, hb2⟩
    obtain ⟨fo, fc, rfl, _⟩ := id hg.inn
    have HG := Lib.hid hg
    have H12 := Lib.hid hb2
    have HB2 := Lib.hid (below_chain HB.out hb2)
    clear hg hb2
    go_wp2_with fail
    refine (CS.out w2 H12.out).mono ?_
    rintro e w3 ⟨vh, rfl, hh, hb3⟩
    have cq := gives_of_quiet (sameInts_any _ _ _ _ _ (HG.out.inn.keep hb3) hh.inn)
    rw [sameB_yes rfl] at cq
    have CQ := Lib.hid <| cq
    have H3 := Lib.hid hb3
    clear cq hh hb3
    go_wp2_with fail
    refine (CQ.out).mono ?_
    rintro e w4 ⟨rfl, hd_w4⟩
    have H4 : Hid (Below w2.heap.size w2 w4) := below_chain H3.out hd_w4
    clear hd_w4 H3
    go_wp2_with fail
    refine (CX.out _ (below_chain H12.out H4.out)).mono ?_
    rintro e w5 ⟨rfl, hd_w5⟩
    have H5 : Hid (Below w2.heap.size w2 w5) := below_chain H4.out hd_w5
    clear hd_w5 H4
    go_wp2_with fail
    refine (alive_any _).mono ?_
    rintro e w6 ⟨rfl, hd_w6⟩
    have H6 : Hid (Below w2.heap.size w2 w6) := below_chain H5.out hd_w6
    clear hd_w6 H5
    go_wp2
    go_ret
    exact ⟨rfl, below_chain HB2.out H6.out⟩

set_option maxRecDepth 100000 in
theorem lifted (os : Os) (started : os.Started) (H : Type) (enc : TypeId × Value → H) :
    ReturnsInHanded {} Try.checked os 10 .any (Rows.fnLiftedOfSpec.pre6 enc Try.prog Try.f10 Rows.fnLiftedOfRow.domain false) (Rows.fnLiftedOfSpec.post enc Try.prog Try.f10 false true false false) := by
  refine returnsInHanded_of_change (C := Try.checked) own_knob started (by kernel_rfl) Try.func10
    (ChangeSpec.witness6 (enc := enc) (C := Try.checked) false ⟨#[], #[.slice none 0 0], []⟩ 8 (by kernel_rfl) (by kernel_rfl) (by kernel_rfl) (by kernel_rfl)) ?_
  intro W base args ds gs before hval0 hW hcnd _
  have hval : ∀ (j : Nat) t v, Try.f10.params[j]? = some t → args[j]? = some v → Value.okWide Try.prog W .any base t v := hval0
  have hW' := hW
  obtain ⟨p, q, hA0, hV, rfl, hfz, hnd⟩ := hW
  have hA : DataW.TrodAll enc Try.prog W 0 (fun _ => true) true Try.f10.params.toList args.toList ds p := hA0
  rw [Try.params10] at hA hval
  obtain ⟨v0, vs0, e0, es0, p0, q0, hargs, rfl, rfl, h0, r0⟩ := trodAll_cons hA
  obtain ⟨rfl, rfl, rfl⟩ := trodAll_nil r0
  obtain rfl : args = #[v0] := by cases args; simp_all
  obtain ⟨rfl, rfl⟩ := trodVars_none hV
  obtain ⟨a0, len0, cap0, rfl⟩ := okWide_slice Try.underlying22 (hval 0 22 v0 rfl rfl)
  have k0 := h0
  have lt0 : ∀ x ∈ p0, x.block < W.heap.size := by obtain ⟨m, hm⟩ := k0; exact DataW.trod_lt m _ _ _ hm
  obtain ⟨z0, y0⟩ := open_bytes h0
  clear hA0 hval0
  refine (walk_all W _ z0 y0).mono fun e W' ⟨he, bel⟩ => ?_
  subst he
  exact ⟨_, rfl, _, _, _, [], _, [], hW', trodAll_mk1 (shut_bool Try.underlying4 _), (trodAll_cons_mk (Below.trod laid_out (by kernel_rfl) (of_decide_eq_true (by kernel_rfl)) k0 bel lt0) trodAll_mk0), rfl, bel.frame _, fun h => by cases h⟩

theorem over : Rows.fnLiftedOfRow.holds Try.pinned (OpenSpec.ofChange Rows.fnLiftedOfSpec) :=
  OpenClaim.holds_of_wide 10 Try.f10 rfl rfl rfl rfl rfl rfl rfl ⟨rfl, rfl, rfl, rfl, rfl⟩ rfl rfl rfl rfl rfl (by kernel_rfl) Try.func10 (by kernel_rfl)
    (of_decide_eq_true (by kernel_rfl)) (by unfold Func.isWrapper; first | (rw [if_pos (by decide +kernel)]; kernel_rfl) | (rw [if_neg (by decide +kernel)]; exact ⟨rfl, rfl⟩))
    (fun os started H enc _ => lifted os started H enc)

end fnLiftedOf
theorem fnLiftedOf_holds : Rows.FnLiftedOfSaid := fnLiftedOf.over
#print axioms fnLiftedOf_holds
end Go.Proofs.Ytapllhnlngnobaa

