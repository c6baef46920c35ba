/- The law FnLowestOf: for every code it returns true. Conditions: none. -/
import Derived.Test.YtapllhnlngnobaaDrawK
import Derived.Test.YtapllhnlngnobaaHiLo
import Derived.Test.YtapllhnlngnobaaTame
import Derived.Test.YtapllhnlngnobaaFnPlain3
import Derived.Test.YtapllhnlngnobaaSame
import Derived.Test.YtapllhnlngnobaaLawFn
import Derived.Test.YtapllhnlngnobaaOpenB
import Derived.Test.YtapllhnlngnobaaRows
namespace Go.Proofs.Ytapllhnlngnobaa
set_option linter.unusedVariables false
set_option linter.unusedSimpArgs false
namespace fnLowestOf
open Go.ChangeShapes Go.WideShapes Go.ChangeAt Go.RowKit Go.Deep

set_option maxRecDepth 100000 in
set_option maxHeartbeats 8000000 in
theorem walk_all (w : World) (v0 : Value) (n0 : Nat) (h0 : BIn w v0 n0) :
    Calls Try.prog 15 #[v0] w fun e w' => e = .returned (.bool true) ∧ Below w.heap.size w w' := by
  obtain ⟨ao, cap, rfl, hn1, hn2, _⟩ := id h0
  rw [maxLen_val] at hn2
  have hN : n0 ≤ 9223372036854775807 := by omega
  have H0 := Lib.hid h0
  clear h0 hn1 hn2
  by_cases hlong : n0 ≤ 1048576
  rotate_left
  · clear H0
    go_enter Try.func15, Try.ntmps15
    go_wp2
    go_ret
    exact ⟨rfl, Below.refl _ _⟩
  go_enter Try.func15, Try.ntmps15
  go_wp2_with fail
  refine (drawLowestOf_any _ _ _ H0.out).mono ?_
  rintro e w1 ⟨vd, vk, vf, d, kn, f, rfl, hd, hkn, hf, hdn, hvk, hkl, hvf, hfl, hb⟩
  clear H0 hlong
  have H1 : Hid (Below w1.heap.size w1 w1) := Below.refl _ _
  have hd6 := hdn.six
  have HB := Lib.hid hb
  by_cases hok : Known d kn f
  · have hone := hok.sp.one
    have hl := hok.fl
    have hkl' := hok.kl
    obtain ⟨fb, fc, rfl, _⟩ := id hf.open
    obtain ⟨kb, kc, rfl, _⟩ := id hkn.open
    obtain ⟨db, dc, _, _, rfl, _⟩ := id hd.open
    rw [hl] at hf ⊢
    rw [hkl'] at hkn ⊢
    have HD := Lib.hid hd
    have HF := Lib.hid hf
    have HK := Lib.hid hkn
    have HV := Lib.hid hvf
    have HL := Lib.hid hl
    have HKL := Lib.hid hkl'
    have HLN := Lib.hid (lo_len hok)
    have HHN := Lib.hid (hi_len hok)
    have HON := Lib.hid (hi_len (known_neg hok))
    have hat : ∀ k, k < d.length → iat (loV d kn f) k ≤ iat (hiV d kn f) k ∧ iat (loV d kn f) k = - iat (hiV d kn (negL f)) k ∧ (iat kn k = 1 → iat (loV d kn f) k = iat f k) ∧ -200 ≤ iat (loV d kn f) k ∧ iat (loV d kn f) k ≤ 200 := by
      intro k hk
      have h1 := lo_le_hi hok hk
      have h2 := hi_neg hok hk
      have h3 := lo_known hok hk
      have h4 := (tame_lo hok).vals.bd hk
      rw [lo_at hok hk] at h2 h4 ⊢
      rw [hi_at hok hk]
      exact ⟨h1, by omega, h3, h4⟩
    have ci : ∀ (w' : World), Below w1.heap.size w1 w' → Calls Try.prog 61 #[.slice (some ⟨db, 0, none⟩) d.length dc, .slice (some ⟨kb, 0, none⟩) d.length kc, .slice (some ⟨fb, 0, none⟩) d.length fc] w' (GivesI (loV d kn f) w') := fun w' hb => implLowestOf_any _ _ _ _ _ _ _ _ _ _ _ _ _ (HD.out.fresh hb) (HK.out.fresh hb) (HF.out.fresh hb)
    have cs : ∀ (w' : World), Below w1.heap.size w1 w' → Calls Try.prog 62 #[.slice (some ⟨db, 0, none⟩) d.length dc, .slice (some ⟨kb, 0, none⟩) d.length kc, .slice (some ⟨fb, 0, none⟩) d.length fc] w' (GivesI (loV d kn f) w') := fun w' hb => specLowestOf_any _ _ _ _ _ _ _ _ _ _ _ _ _ (HD.out.fresh hb) (HK.out.fresh hb) (HF.out.fresh hb)
    have ch : ∀ (w' : World), Below w1.heap.size w1 w' → Calls Try.prog 58 #[.slice (some ⟨db, 0, none⟩) d.length dc, .slice (some ⟨kb, 0, none⟩) d.length kc, .slice (some ⟨fb, 0, none⟩) d.length fc] w' (GivesI (hiV d kn f) w') := fun w' hb => implHighestOf_any _ _ _ _ _ _ _ _ _ _ _ _ _ (HD.out.fresh hb) (HK.out.fresh hb) (HF.out.fresh hb)
    have cn : ∀ (w' : World) (lo hi : Nat) (v : Value), IMem lo hi w' v (negL f) → Below w1.heap.size w1 w' → Calls Try.prog 58 #[.slice (some ⟨db, 0, none⟩) d.length dc, .slice (some ⟨kb, 0, none⟩) d.length kc, v] w' (GivesI (hiV d kn (negL f)) w') := fun w' lo hi v hv hb => implHighestOf_any _ _ _ _ _ _ _ _ _ _ _ _ _ (HD.out.fresh hb) (HK.out.fresh hb) hv
    have ct : ∀ (w' : World) (lo hi : Nat) (v : Value), IMem lo hi w' v (loV d kn f) → Below w1.heap.size w1 w' → Calls Try.prog 22 #[.slice (some ⟨db, 0, none⟩) d.length dc, v] w' (Gives (.bool true) w') := fun w' lo hi v hv hb => by
      have := gives_of_quiet (implTameOk_any _ _ _ _ _ _ _ _ _ (HD.out.fresh hb) hv)
      rwa [decP_yes (tame_lo hok)] at this
    have CI := Lib.hid <| ci
    have CS := Lib.hid <| cs
    have CH := Lib.hid <| ch
    have CN := Lib.hid <| cn
    have CT := Lib.hid <| ct
    have HAT := Lib.hid <| hat
    clear ci cs ch cn ct hat hd hf hkn hb hok hdn hvf hvk hl hkl' hkl hfl
    generalize loV d kn f = g at *
    generalize hiV d kn f = hg at *
    generalize hiV d kn (negL f) = ng at *
    go_wp2_with fail
    refine (CI.out w1 H1.out).mono ?_
    rintro e w2 ⟨vg, rfl, hgv, hb2⟩
    have hgv := hgv.mem (ne_nil_of HLN.out hone)
    obtain ⟨gb, gc, rfl, _⟩ := id hgv.open
    rw [HLN.out] at hgv ⊢
    have HG := Lib.hid hgv
    have H2 := Lib.hid hb2
    clear hgv hb2
    go_wp2_with fail
    refine (CS.out w2 H2.out).mono ?_
    rintro e w3 ⟨vh, rfl, hh, hb3⟩
    have cq := gives_of_quiet (sameInts_any _ _ _ _ _ (HG.out.fresh hb3).inn hh.inn)
    rw [sameB_yes rfl] at cq
    have cq' : Calls Try.prog 20 #[.slice (some ⟨gb, 0, none⟩) d.length gc, vh] w3 (Gives (.bool true) w3) := cq
    have CQ := Lib.hid <| cq'
    have H3 := Lib.hid hb3
    clear cq cq' hh hb3
    go_wp2_with fail
    refine (CQ.out).mono ?_
    rintro e w4 ⟨rfl, hd_w4⟩
    have H4 : Hid (Below w2.heap.size w2 w4) := below_chain H3.out hd_w4
    clear hd_w4 H3
    have hfn : ((d.length : Int) == 0) = false := by simpa using (show d.length ≠ 0 by omega)
    have HI : Hid (IMem w2.heap.size (w4.alloc (.cells #[] 3)).heap.size (w4.alloc (.cells #[] 3)) (.slice (some ⟨w4.heap.size, 0, none⟩) 0 0) (genL (fun i => - iat f i) 0)) := (IMem.empty w4).widen H4.out.size (by simp)
    have H5 : Hid (Below w2.heap.size w2 (w4.alloc (.cells #[] 3))) := H4.out.alloc H4.out.size _
    clear CQ H4
    go_wp2
    go_loopw [7, 8] (fun mv kv wr => ∃ k : Nat, k ≤ d.length ∧ kv = .int .i64 k ∧ Hid (IMem w2.heap.size wr.heap.size wr mv (genL (fun i => - iat f i) k)) ∧ Hid (Below w2.heap.size w2 wr)) (fun _ kv _ => d.length - (intOf kv).toNat)
    case atStart => exact ⟨0, Nat.zero_le _, rfl, HI, H5⟩
    case round =>
      clear HI H5
      obtain ⟨k, hk, rfl, HI, H5⟩ := hrel
      by_cases hkl : k < d.length
      · have hki : (k : Int) < (d.length : Int) := by omega
        have c1 := ((HF.out.fresh H2.out).fresh H5.out).cellAt (i := k) (by rw [HL.out]; exact hkl)
        have hv := HV.out k (by rw [HL.out]; exact hkl)
        have hs := H5.out.size
        have hlen : (genL (fun i => - iat f i) k).length = k := genL_length _ _
        go_wp2_with (at_builtin; refine wp_app _ rfl _ _ rfl w2.heap.size _ _ _ rfl (HI.out.alloc _) wr.heap.size 0 1 1 [- iat f k] rfl rfl one_cell (by omega) (by simp; omega) ?_; intro v' w' hI' hB' _; rw [← genL_succ (fun i => - iat f i) k] at hI'; have HI5 := Lib.hid hI'; have H6 := Lib.hid ((H5.out.alloc hs _).trans hB'); clear hI' hB' c1 HI H5)
        go_wp2
        go_roundw
        case rel => exact ⟨k + 1, by omega, by go_num, HI5, H6⟩
        case measure => simp [intOf]; omega
      · have hke : k = d.length := by omega
        subst hke
        have hneg : genL (fun i => - iat f i) d.length = negL f := by rw [negL, HL.out]
        rw [hneg] at HI
        clear hneg
        go_wp2_with fail
        refine (CH.out _ (below_chain H2.out H5.out)).mono ?_
        rintro e w6 ⟨vhi, rfl, hhi, hb6⟩
        have hhi := hhi.mem (ne_nil_of HHN.out hone)
        obtain ⟨hb_, hc, rfl, _⟩ := id hhi.open
        rw [HHN.out] at hhi ⊢
        have HHI := Lib.hid hhi
        have HM := Lib.hid (HI.out.fresh hb6)
        have H6 := Lib.hid (below_chain H5.out hb6)
        clear hhi hb6 H5 HI
        go_wp2_with fail
        refine (CN.out _ _ _ _ HM.out (below_chain H2.out H6.out)).mono ?_
        rintro e w7 ⟨vng, rfl, hng, hb7⟩
        have hng := hng.mem (ne_nil_of HON.out hone)
        obtain ⟨nb, nc, rfl, _⟩ := id hng.open
        have hnl : ng.length = d.length := HON.out
        rw [hnl] at hng ⊢
        have HNG := Lib.hid hng
        have HNL := Lib.hid hnl
        have HHI7 := Lib.hid (HHI.out.fresh hb7)
        have HG7 := Lib.hid (HG.out.fresh (below_chain H6.out hb7))
        have HK7 := Lib.hid ((HK.out.fresh H2.out).fresh (below_chain H6.out hb7))
        have HF7 := Lib.hid ((HF.out.fresh H2.out).fresh (below_chain H6.out hb7))
        have H17 := Lib.hid (below_chain H2.out (below_chain H6.out hb7))
        have H7 : Hid (Below w7.heap.size w7 w7) := Below.refl _ _
        have HAT7 := Lib.hid (show ∀ k, k < d.length → iat g k ≤ iat hg k ∧ iat g k = - iat ng k ∧ (iat kn k = 1 → iat g k = iat f k) ∧ -200 ≤ iat g k ∧ iat g k ≤ 200 from HAT.out)
        clear hng hnl hb7 HHI HM H6 CH CN CI CS HAT HON
        go_wp2
        go_loopw [11] (fun kv wr => ∃ k : Nat, k ≤ d.length ∧ kv = .int .i64 k ∧ Hid (Below w7.heap.size w7 wr)) (fun kv _ => d.length - (intOf kv).toNat)
        case atStart => exact ⟨0, Nat.zero_le _, rfl, H7⟩
        case round =>
          clear H7
          obtain ⟨k, hk, rfl, H7⟩ := hrel
          by_cases hkl : k < d.length
          · have hki : (k : Int) < (d.length : Int) := by omega
            have c1 := (HG7.out.fresh H7.out).cellAt (i := k) (by rw [HLN.out]; exact hkl)
            have c2 := (HHI7.out.fresh H7.out).cellAt (i := k) (by rw [HHN.out]; exact hkl)
            have c3 := (HNG.out.fresh H7.out).cellAt (i := k) (by rw [HNL.out]; exact hkl)
            have c4 := (HK7.out.fresh H7.out).cellAt (i := k) (by rw [HKL.out]; exact hkl)
            have c5 := (HF7.out.fresh H7.out).cellAt (i := k) (by rw [HL.out]; exact hkl)
            obtain ⟨a1, a2, a3, a4, a5⟩ := HAT7.out k hkl
            have e1 : decide (iat hg k < iat g k) = false := by simpa using a1
            have e2 : IntKind.i64.wrap (- iat ng k) = - iat ng k := IntWalk.i64_in _ (by omega)
            have e3 : (iat g k != - iat ng k) = false := by simpa using a2
            by_cases hk1 : iat kn k = 1
            · have e4 : (iat kn k == 1) = true := by simpa using hk1
              have e5 : (iat g k != iat f k) = false := by simpa using a3 hk1
              clear a1 a2 a3 hk1
              go_wp2_with fail
              go_quiet (fail)
              clear c1 c2 c3 c4 c5 e1 e2 e3 e4 e5 a4 a5
              go_wp2
              go_roundw
              case rel => exact ⟨k + 1, by omega, by go_num, below_drewN H7.out _⟩
              case measure => simp [intOf]; omega
            · have e4 : (iat kn k == 1) = false := by simpa using hk1
              clear a1 a2 a3 hk1
              go_wp2_with fail
              go_quiet (fail)
              clear c1 c2 c3 c4 c5 e1 e2 e3 e4 a4 a5
              go_wp2
              go_roundw
              case rel => exact ⟨k + 1, by omega, by go_num, below_drewN H7.out _⟩
              case measure => simp [intOf]; omega
          · go_wp2_with fail
            refine (CT.out _ _ _ _ (HG7.out.fresh H7.out) (below_chain H17.out H7.out)).mono ?_
            rintro e w8 ⟨rfl, hd_w8⟩
            have H8 : Hid (Below w7.heap.size w7 w8) := below_chain H7.out hd_w8
            clear hd_w8 H7
            go_wp2
            go_ret
            exact ⟨rfl, below_chain (Lib.hid (below_chain HB.out H17.out)).out H8.out⟩
  · have ci := implLowestOf_any _ _ _ _ _ _ _ _ _ _ _ _ _ hd hkn hf
    have cs : ∀ (w' : World), Below w1.heap.size w1 w' → Calls Try.prog 62 #[vd, vk, vf] w' (GivesI (loV d kn f) w') := fun w' hb => specLowestOf_any _ _ _ _ _ _ _ _ _ _ _ _ _ (hd.fresh hb) (hkn.fresh hb) (hf.fresh hb)
    have cc : ∀ (w' : World), Below w1.heap.size w1 w' → Calls Try.prog 35 #[vd, vk, vf] w' (Gives (.bool false) w') := fun w' hb => by
      have := gives_of_quiet (implKnownOk_any _ _ _ _ _ _ _ _ _ _ _ _ _ (hd.fresh hb) (hkn.fresh hb) (hf.fresh hb))
      rwa [decP_no hok] at this
    rw [loV_no hok] at ci cs
    have CI := Lib.hid <| ci
    have CS := Lib.hid <| cs
    have CC := Lib.hid <| cc
    clear ci cs cc hok hd hf hkn hdn hb hd6 hvf hvk
    go_wp2_with fail
    refine CI.out.mono ?_
    rintro e w2 ⟨vg, rfl, hg, hb2⟩
    obtain ⟨fo, fc, rfl, _⟩ := id hg.inn
    have HG := Lib.hid hg
    have H12 := Lib.hid hb2
    have HB2 := Lib.hid (below_chain HB.out hb2)
    clear hg hb2
    go_wp2_with fail
    refine (CS.out w2 H12.out).mono ?_
    rintro e w3 ⟨vh, rfl, hh, hb3⟩
    have cq := gives_of_quiet (sameInts_any _ _ _ _ _ (HG.out.inn.keep hb3) hh.inn)
    rw [sameB_yes rfl] at cq
    have CQ := Lib.hid <| cq
    have H3 := Lib.hid hb3
    clear cq hh hb3
    go_wp2_with fail
    refine (CQ.out).mono ?_
    rintro e w4 ⟨rfl, hd_w4⟩
    have H4 : Hid (Below w2.heap.size w2 w4) := below_chain H3.out hd_w4
    clear hd_w4 H3
    go_wp2_with fail
    refine (CC.out _ (below_chain H12.out H4.out)).mono ?_
    rintro e w5 ⟨rfl, hd_w5⟩
    have H5 : Hid (Below w2.heap.size w2 w5) := below_chain H4.out hd_w5
    clear hd_w5 H4
    go_wp2_with fail
    refine (alive_any _).mono ?_
    rintro e w6 ⟨rfl, hd_w6⟩
    have H6 : Hid (Below w2.heap.size w2 w6) := below_chain H5.out hd_w6
    clear hd_w6 H5
    go_wp2
    go_ret
    exact ⟨rfl, below_chain HB2.out H6.out⟩

set_option maxRecDepth 100000 in
theorem lifted (os : Os) (started : os.Started) (H : Type) (enc : TypeId × Value → H) :
    ReturnsInHanded {} Try.checked os 15 .any (Rows.fnLowestOfSpec.pre6 enc Try.prog Try.f15 Rows.fnLowestOfRow.domain false) (Rows.fnLowestOfSpec.post enc Try.prog Try.f15 false true false false) := by
  refine returnsInHanded_of_change (C := Try.checked) own_knob started (by kernel_rfl) Try.func15
    (ChangeSpec.witness6 (enc := enc) (C := Try.checked) false ⟨#[], #[.slice none 0 0], []⟩ 8 (by kernel_rfl) (by kernel_rfl) (by kernel_rfl) (by kernel_rfl)) ?_
  intro W base args ds gs before hval0 hW hcnd _
  have hval : ∀ (j : Nat) t v, Try.f15.params[j]? = some t → args[j]? = some v → Value.okWide Try.prog W .any base t v := hval0
  have hW' := hW
  obtain ⟨p, q, hA0, hV, rfl, hfz, hnd⟩ := hW
  have hA : DataW.TrodAll enc Try.prog W 0 (fun _ => true) true Try.f15.params.toList args.toList ds p := hA0
  rw [Try.params15] at hA hval
  obtain ⟨v0, vs0, e0, es0, p0, q0, hargs, rfl, rfl, h0, r0⟩ := trodAll_cons hA
  obtain ⟨rfl, rfl, rfl⟩ := trodAll_nil r0
  obtain rfl : args = #[v0] := by cases args; simp_all
  obtain ⟨rfl, rfl⟩ := trodVars_none hV
  obtain ⟨a0, len0, cap0, rfl⟩ := okWide_slice Try.underlying22 (hval 0 22 v0 rfl rfl)
  have k0 := h0
  have lt0 : ∀ x ∈ p0, x.block < W.heap.size := by obtain ⟨m, hm⟩ := k0; exact DataW.trod_lt m _ _ _ hm
  obtain ⟨z0, y0⟩ := open_bytes h0
  clear hA0 hval0
  refine (walk_all W _ z0 y0).mono fun e W' ⟨he, bel⟩ => ?_
  subst he
  exact ⟨_, rfl, _, _, _, [], _, [], hW', trodAll_mk1 (shut_bool Try.underlying4 _), (trodAll_cons_mk (Below.trod laid_out (by kernel_rfl) (of_decide_eq_true (by kernel_rfl)) k0 bel lt0) trodAll_mk0), rfl, bel.frame _, fun h => by cases h⟩

theorem over : Rows.fnLowestOfRow.holds Try.pinned (OpenSpec.ofChange Rows.fnLowestOfSpec) :=
  OpenClaim.holds_of_wide 15 Try.f15 rfl rfl rfl rfl rfl rfl rfl ⟨rfl, rfl, rfl, rfl, rfl⟩ rfl rfl rfl rfl rfl (by kernel_rfl) Try.func15 (by kernel_rfl)
    (of_decide_eq_true (by kernel_rfl)) (by unfold Func.isWrapper; first | (rw [if_pos (by decide +kernel)]; kernel_rfl) | (rw [if_neg (by decide +kernel)]; exact ⟨rfl, rfl⟩))
    (fun os started H enc _ => lifted os started H enc)

end fnLowestOf
theorem fnLowestOf_holds : Rows.FnLowestOfSaid := fnLowestOf.over
#print axioms fnLowestOf_holds
end Go.Proofs.Ytapllhnlngnobaa

