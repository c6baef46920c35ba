/- The law FnTightOk: for every code it returns true. Conditions: none. -/
import Derived.Test.YtapllhnlngnobaaDrawC
import Derived.Test.YtapllhnlngnobaaDist
import Derived.Test.YtapllhnlngnobaaTight
import Derived.Test.YtapllhnlngnobaaTame
import Derived.Test.YtapllhnlngnobaaFnPlain2
import Derived.Test.YtapllhnlngnobaaWidth
import Derived.Test.YtapllhnlngnobaaSame
import Derived.Test.YtapllhnlngnobaaLawFn
import Derived.Test.YtapllhnlngnobaaOpenB
import Derived.Test.YtapllhnlngnobaaRows
namespace Go.Proofs.Ytapllhnlngnobaa
set_option linter.unusedVariables false
set_option linter.unusedSimpArgs false
namespace fnTightOk
open Go.ChangeShapes Go.WideShapes Go.ChangeAt Go.RowKit Go.Deep

section
variable {d : List (List Int)} {f : List Int}
theorem not_cov_less (h : TightP d f) {k : Nat} (hk : k < d.length) : ¬ Cov d (f.set k (iat f k - 1)) := by
  intro hc
  have hl := h.cov.vals.len
  have at_ : ∀ j, j < d.length → iat (f.set k (iat f k - 1)) j = if k = j then iat f k - 1 else iat f j := fun j hj => iat_set (by omega)
  obtain ⟨q, hq, e⟩ := h.part k hk
  have h1 := hc.ok k q hk hq
  rw [at_ k hk, at_ q hq] at h1
  by_cases e2 : k = q
  · subst e2
    have h0 := hc.pos k hk
    rw [at_ k hk] at h0
    have := h.cov.sp.own hk
    simp only [if_true] at h0
    omega
  · simp only [if_true, e2, if_false] at h1
    omega
theorem tight_le_wid (h : TightP d f) {k : Nat} (hk : k < d.length) : iat f k ≤ widF d d.length := by
  obtain ⟨q, hq, e⟩ := h.part k hk
  have h1 := h.cov.pos q hq
  have h2 := at_le_wid hk hq
  omega
end


set_option maxRecDepth 100000 in
set_option maxHeartbeats 8000000 in
theorem walk_all (w : World) (v0 : Value) (n0 : Nat) (h0 : BIn w v0 n0) :
    Calls Try.prog 11 #[v0] w fun e w' => e = .returned (.bool true) ∧ Below w.heap.size w w' := by
  obtain ⟨ao, cap, rfl, hn1, hn2, _⟩ := id h0
  rw [maxLen_val] at hn2
  have hN : n0 ≤ 9223372036854775807 := by omega
  have H0 := Lib.hid h0
  clear h0 hn1 hn2
  by_cases hlong : n0 ≤ 1048576
  rotate_left
  · clear H0
    go_enter Try.func11, Try.ntmps11
    go_wp2
    go_ret
    exact ⟨rfl, Below.refl _ _⟩
  go_enter Try.func11, Try.ntmps11
  go_wp2_with fail
  refine (drawTightOk_any _ _ _ H0.out).mono ?_
  rintro e w1 ⟨vd, vf, d, f, rfl, hd, hf, hdn, hvf, hfl, hb⟩
  clear H0 hlong
  have H1 : Hid (Below w1.heap.size w1 w1) := Below.refl _ _
  have hd6 := hdn.six
  obtain ⟨fb, fc, rfl, _⟩ := id hf.open
  obtain ⟨db, dc, _, _, rfl, _⟩ := id hd.open
  by_cases hS : Space d
  · have hone := hS.one
    have cx : ∀ (w' : World), Below w1.heap.size w1 w' → Calls Try.prog 33 #[.slice (some ⟨db, 0, none⟩) d.length dc] w' (Gives (.bool true) w') := fun w' hb => by
      have := gives_of_quiet (specSpaceOk_any _ _ _ _ _ (hd.fresh hb))
      rwa [decP_yes hS] at this
    have cdi : ∀ (w' : World) (k : Nat), k < d.length → Below w1.heap.size w1 w' → Calls Try.prog 26 #[.slice (some ⟨db, 0, none⟩) d.length dc, .int .i64 k] w' (GivesI (row d k) w') := fun w' k hk hb => by
      have := implDistancesFrom_any _ _ _ _ (k : Int) _ (hd.fresh hb)
      rwa [distV_yes ⟨hS, by omega, by omega⟩] at this
    have cro : ∀ (w' : World) (lo hi : Nat) (v : Value) (k : Nat), k < d.length → IVal lo hi w' v (row d k) → Below w1.heap.size w1 w' → Calls Try.prog 41 #[.slice (some ⟨db, 0, none⟩) d.length dc, v] w' (Gives (.bool true) w') := fun w' lo hi v k hk hv hb => by
      have := gives_of_quiet (implTightOk_any _ _ _ _ _ _ _ _ _ (hd.fresh hb) (hv.mem (ne_nil_of (hS.sq k hk) hone)))
      rwa [decP_yes (tight_row hS hk)] at this
    have CX := Lib.hid <| cx
    have CDI := Lib.hid <| cdi
    have CRO := Lib.hid <| cro
    have HB := Lib.hid hb
    clear cx cdi cro
    by_cases ht : TightP d f
    · have hl := ht.cov.vals.len
      rw [hl] at hf ⊢
      have HF := Lib.hid hf
      have HL := Lib.hid hl
      have ci : ∀ (w' : World), Below w1.heap.size w1 w' → Calls Try.prog 41 #[.slice (some ⟨db, 0, none⟩) d.length dc, .slice (some ⟨fb, 0, none⟩) d.length fc] w' (Gives (.bool true) w') := fun w' hb => by
        have := gives_of_quiet (implTightOk_any _ _ _ _ _ _ _ _ _ (hd.fresh hb) (hf.fresh hb))
        rwa [decP_yes ht] at this
      have cs : ∀ (w' : World), Below w1.heap.size w1 w' → Calls Try.prog 49 #[.slice (some ⟨db, 0, none⟩) d.length dc, .slice (some ⟨fb, 0, none⟩) d.length fc] w' (Gives (.bool true) w') := fun w' hb => by
        have := gives_of_quiet (specTightOk_any _ _ _ _ _ _ _ _ _ (hd.fresh hb) (hf.fresh hb))
        rwa [decP_yes ht] at this
      have ctm : ∀ (w' : World), Below w1.heap.size w1 w' → Calls Try.prog 22 #[.slice (some ⟨db, 0, none⟩) d.length dc, .slice (some ⟨fb, 0, none⟩) d.length fc] w' (Gives (.bool true) w') := fun w' hb => by
        have := gives_of_quiet (implTameOk_any _ _ _ _ _ _ _ _ _ (hd.fresh hb) (hf.fresh hb))
        rwa [decP_yes (tame_tight ht)] at this
      have cw : ∀ (w' : World), Below w1.heap.size w1 w' → Calls Try.prog 47 #[.slice (some ⟨db, 0, none⟩) d.length dc] w' (Quiet (.int .i64 (widF d d.length)) w') := fun w' hb => by
        have := implWidthOf_any _ _ _ _ _ (hd.fresh hb)
        rwa [widV_yes hS] at this
      have cc : ∀ (w' : World) (lo hi : Nat) (v : Value) (k : Nat), k < d.length → IMem lo hi w' v (f.set k (iat f k - 1)) → Below w1.heap.size w1 w' → Calls Try.prog 31 #[.slice (some ⟨db, 0, none⟩) d.length dc, v] w' (Quiet (.bool false) w') := fun w' lo hi v k hk hv hb => by
        have := implCoversOk_any _ _ _ _ _ _ _ _ _ (hd.fresh hb) hv
        rwa [decP_no (not_cov_less ht hk)] at this
      have hbd : ∀ k, k < d.length → 0 ≤ iat f k ∧ iat f k ≤ 200 ∧ iat f k ≤ widF d d.length := fun k hk => ⟨ht.cov.pos k hk, (ht.cov.vals.bd hk).2, tight_le_wid ht hk⟩
      have CI := Lib.hid <| ci
      have CS := Lib.hid <| cs
      have CTM := Lib.hid <| ctm
      have CW := Lib.hid <| cw
      have CC := Lib.hid <| cc
      have HBD := Lib.hid <| hbd
      clear ci cs ctm cw cc hbd hd hf hb hdn hvf ht hS hl hfl
      generalize widF d d.length = wd at *
      go_wp2_with fail
      refine (CI.out _ H1.out).mono ?_
      rintro e w2 ⟨rfl, hd_w2⟩
      have H2 : Hid (Below w1.heap.size w1 w2) := below_chain H1.out hd_w2
      clear hd_w2 H1
      go_wp2_with fail
      refine (CS.out _ H2.out).mono ?_
      rintro e w3 ⟨rfl, hd_w3⟩
      have H3 : Hid (Below w1.heap.size w1 w3) := below_chain H2.out hd_w3
      clear hd_w3 H2
      go_wp2_with fail
      refine (CX.out _ H3.out).mono ?_
      rintro e w4 ⟨rfl, hd_w4⟩
      have HX : Hid (Below w1.heap.size w1 w4) := below_chain H3.out hd_w4
      clear hd_w4 H3
      go_wp2
      go_loopw [6] (fun kv wr => ∃ k : Nat, k ≤ d.length ∧ kv = .int .i64 k ∧ Hid (Below w1.heap.size w1 wr)) (fun kv _ => d.length - (intOf kv).toNat)
      case atStart => exact ⟨0, Nat.zero_le _, rfl, HX⟩
      case round =>
        clear HX
        obtain ⟨k, hk, rfl, HX⟩ := hrel
        by_cases hkl : k < d.length
        · have hki : (k : Int) < (d.length : Int) := by omega
          go_wp2_with fail
          refine (CDI.out _ k hkl HX.out).mono ?_
          rintro e w8 ⟨vr, rfl, hr, hb8⟩
          have cr := CRO.out _ _ _ _ k hkl hr (below_chain HX.out hb8)
          have CR := Lib.hid <| cr
          have HY := Lib.hid (below_chain HX.out hb8)
          clear cr hr hb8
          go_wp2_with fail
          refine (CR.out).mono ?_
          rintro e w9 ⟨rfl, hd_w9⟩
          have HZ : Hid (Below w1.heap.size w1 w9) := below_chain HY.out hd_w9
          clear hd_w9 HY
          have hs := HZ.out.size
          have HFZ := Lib.hid (HF.out.fresh HZ.out)
          go_wp2_with (at_builtin; refine wp_app _ rfl _ _ rfl w9.heap.size (w9.heap.size + 1) _ [] rfl (IMem.empty _) fb 0 d.length _ f rfl HL.out (copy_cells HFZ.out HL.out _) (by simp; omega) (by simp) ?_; intro v' w' hI' hB' _; rw [List.nil_append] at hI'; obtain ⟨g, gc, rfl, hg1, _⟩ := id hI'.open; rw [HL.out] at hI' ⊢; obtain ⟨b0, b1, b2⟩ := HBD.out k hkl; have c2 := hI'.cellAt (i := k) (by rw [HL.out]; exact hkl); have f2 := hI'.frozenAt k; have HBW := Lib.hid (((Below.refl w9.heap.size w9).alloc (Nat.le_refl _) _).trans hB'); have HI5 := Lib.hid hI'; have HG1 := Lib.hid hg1; clear hI' hB' hg1)
          clear b0 b1 b2
          generalize hws : w'.setCell ⟨g, k, none⟩ (.int .i64 (iat f k - 1)) = ws
          have HBS : Hid (Below w9.heap.size w9 ws) := by rw [← hws]; exact HBW.out.setCell (p := ⟨g, k, none⟩) HG1.out _
          have HI6 : Hid (IMem w9.heap.size ws.heap.size ws (.slice (some ⟨g, 0, none⟩) d.length gc) (f.set k (iat f k - 1))) := by
            rw [← hws]
            exact (HI5.out.set (by simp) k (by rw [iat_set (by rw [HL.out]; exact hkl), if_pos rfl]) (fun j hj hne => by rw [iat_set hj, if_neg (fun e => hne e.symm)])).top
          clear hws HBW HI5 c2 f2
          have HBC : Hid (Below w1.heap.size w1 ws) := below_chain HZ.out HBS.out
          have c1 := (HF.out.fresh HBC.out).cellAt (i := k) (by rw [HL.out]; exact hkl)
          obtain ⟨b0, b1, b2⟩ := HBD.out k hkl
          have e2 : decide (wd < iat f k) = false := by simpa using b2
          have HCC : Hid (∀ m : Nat, Calls Try.prog 31 #[.slice (some ⟨db, 0, none⟩) d.length dc, .slice (some ⟨g, 0, none⟩) d.length gc] (ws.drewN m) (Quiet (.bool false) (ws.drewN m))) := fun m => CC.out _ _ _ _ k hkl (HI6.out.drewN m) (below_drewN HBC.out m)
          have HCW : Hid (∀ m : Nat, Calls Try.prog 47 #[.slice (some ⟨db, 0, none⟩) d.length dc] (ws.drewN m) (Quiet (.int .i64 wd) (ws.drewN m))) := fun m => CW.out _ (below_drewN HBC.out m)
          clear HBS HI6 HFZ HZ hs HX HG1
          go_quiet (first | (go_at_call 31; exact quiet_in (HCC.out _)) | (go_at_call 47; exact quiet_in (HCW.out _)))
          clear c1 b0 b1 b2 e2
          go_wp2
          go_roundw
          case rel => exact ⟨k + 1, by omega, by go_num, below_drewN HBC.out _⟩
          case measure => simp [intOf]; omega
        · go_wp2_with fail
          refine (CTM.out _ HX.out).mono ?_
          rintro e w7 ⟨rfl, hd_w7⟩
          have H7 : Hid (Below w1.heap.size w1 w7) := below_chain HX.out hd_w7
          clear hd_w7 HX
          go_wp2
          go_ret
          exact ⟨rfl, below_chain HB.out H7.out⟩
    · have ci : ∀ (w' : World), Below w1.heap.size w1 w' → Calls Try.prog 41 #[.slice (some ⟨db, 0, none⟩) d.length dc, .slice (some ⟨fb, 0, none⟩) f.length fc] w' (Gives (.bool false) w') := fun w' hb => by
        have := gives_of_quiet (implTightOk_any _ _ _ _ _ _ _ _ _ (hd.fresh hb) (hf.fresh hb))
        rwa [decP_no ht] at this
      have cs : ∀ (w' : World), Below w1.heap.size w1 w' → Calls Try.prog 49 #[.slice (some ⟨db, 0, none⟩) d.length dc, .slice (some ⟨fb, 0, none⟩) f.length fc] w' (Gives (.bool false) w') := fun w' hb => by
        have := gives_of_quiet (specTightOk_any _ _ _ _ _ _ _ _ _ (hd.fresh hb) (hf.fresh hb))
        rwa [decP_no ht] at this
      have CI := Lib.hid <| ci
      have CS := Lib.hid <| cs
      clear ci cs hd hf hb hdn hvf ht hS hfl
      go_wp2_with fail
      refine (CI.out _ H1.out).mono ?_
      rintro e w2 ⟨rfl, hd_w2⟩
      have H2 : Hid (Below w1.heap.size w1 w2) := below_chain H1.out hd_w2
      clear hd_w2 H1
      go_wp2_with fail
      refine (CS.out _ H2.out).mono ?_
      rintro e w3 ⟨rfl, hd_w3⟩
      have H3 : Hid (Below w1.heap.size w1 w3) := below_chain H2.out hd_w3
      clear hd_w3 H2
      go_wp2_with fail
      refine (CX.out _ H3.out).mono ?_
      rintro e w4 ⟨rfl, hd_w4⟩
      have HX : Hid (Below w1.heap.size w1 w4) := below_chain H3.out hd_w4
      clear hd_w4 H3
      go_wp2
      go_loopw [6] (fun kv wr => ∃ k : Nat, k ≤ d.length ∧ kv = .int .i64 k ∧ Hid (Below w1.heap.size w1 wr)) (fun kv _ => d.length - (intOf kv).toNat)
      case atStart => exact ⟨0, Nat.zero_le _, rfl, HX⟩
      case round =>
        clear HX
        obtain ⟨k, hk, rfl, HX⟩ := hrel
        by_cases hkl : k < d.length
        · have hki : (k : Int) < (d.length : Int) := by omega
          go_wp2_with fail
          refine (CDI.out _ k hkl HX.out).mono ?_
          rintro e w8 ⟨vr, rfl, hr, hb8⟩
          have cr := CRO.out _ _ _ _ k hkl hr (below_chain HX.out hb8)
          have CR := Lib.hid <| cr
          have HY := Lib.hid (below_chain HX.out hb8)
          clear cr hr hb8
          go_wp2_with fail
          refine (CR.out).mono ?_
          rintro e w9 ⟨rfl, hd_w9⟩
          have HZ : Hid (Below w1.heap.size w1 w9) := below_chain HY.out hd_w9
          clear hd_w9 HY
          go_wp2
          go_roundw
          case rel => exact ⟨k + 1, by omega, by go_num, HZ⟩
          case measure => simp [intOf]; omega
        · go_wp2
          go_ret
          exact ⟨rfl, below_chain HB.out HX.out⟩
  · have ci : ∀ (w' : World), Below w1.heap.size w1 w' → Calls Try.prog 41 #[.slice (some ⟨db, 0, none⟩) d.length dc, .slice (some ⟨fb, 0, none⟩) f.length fc] w' (Gives (.bool false) w') := fun w' hb => by
      have := gives_of_quiet (implTightOk_any _ _ _ _ _ _ _ _ _ (hd.fresh hb) (hf.fresh hb))
      rwa [decP_no (fun h => hS h.cov.sp)] at this
    have cs : ∀ (w' : World), Below w1.heap.size w1 w' → Calls Try.prog 49 #[.slice (some ⟨db, 0, none⟩) d.length dc, .slice (some ⟨fb, 0, none⟩) f.length fc] w' (Gives (.bool false) w') := fun w' hb => by
      have := gives_of_quiet (specTightOk_any _ _ _ _ _ _ _ _ _ (hd.fresh hb) (hf.fresh hb))
      rwa [decP_no (fun h => hS h.cov.sp)] at this
    have cx : ∀ (w' : World), Below w1.heap.size w1 w' → Calls Try.prog 33 #[.slice (some ⟨db, 0, none⟩) d.length dc] w' (Gives (.bool false) w') := fun w' hb => by
      have := gives_of_quiet (specSpaceOk_any _ _ _ _ _ (hd.fresh hb))
      rwa [decP_no hS] at this
    have CI := Lib.hid <| ci
    have CS := Lib.hid <| cs
    have CX := Lib.hid <| cx
    have HB := Lib.hid hb
    clear ci cs cx hd hf hb hdn hvf hS hfl
    go_wp2_with fail
    refine (CI.out _ H1.out).mono ?_
    rintro e w2 ⟨rfl, hd_w2⟩
    have H2 : Hid (Below w1.heap.size w1 w2) := below_chain H1.out hd_w2
    clear hd_w2 H1
    go_wp2_with fail
    refine (CS.out _ H2.out).mono ?_
    rintro e w3 ⟨rfl, hd_w3⟩
    have H3 : Hid (Below w1.heap.size w1 w3) := below_chain H2.out hd_w3
    clear hd_w3 H2
    go_wp2_with fail
    refine (CX.out _ H3.out).mono ?_
    rintro e w4 ⟨rfl, hd_w4⟩
    have H4 : Hid (Below w1.heap.size w1 w4) := below_chain H3.out hd_w4
    clear hd_w4 H3
    go_wp2_with fail
    refine (alive_any _).mono ?_
    rintro e w7 ⟨rfl, hd_w7⟩
    have H7 : Hid (Below w1.heap.size w1 w7) := below_chain H4.out hd_w7
    clear hd_w7 H4
    go_wp2
    go_ret
    exact ⟨rfl, below_chain HB.out H7.out⟩

set_option maxRecDepth 100000 in
theorem lifted (os : Os) (started : os.Started) (H : Type) (enc : TypeId × Value → H) :
    ReturnsInHanded {} Try.checked os 11 .any (Rows.fnTightOkSpec.pre6 enc Try.prog Try.f11 Rows.fnTightOkRow.domain false) (Rows.fnTightOkSpec.post enc Try.prog Try.f11 false true false false) := by
  refine returnsInHanded_of_change (C := Try.checked) own_knob started (by kernel_rfl) Try.func11
    (ChangeSpec.witness6 (enc := enc) (C := Try.checked) false ⟨#[], #[.slice none 0 0], []⟩ 8 (by kernel_rfl) (by kernel_rfl) (by kernel_rfl) (by kernel_rfl)) ?_
  intro W base args ds gs before hval0 hW hcnd _
  have hval : ∀ (j : Nat) t v, Try.f11.params[j]? = some t → args[j]? = some v → Value.okWide Try.prog W .any base t v := hval0
  have hW' := hW
  obtain ⟨p, q, hA0, hV, rfl, hfz, hnd⟩ := hW
  have hA : DataW.TrodAll enc Try.prog W 0 (fun _ => true) true Try.f11.params.toList args.toList ds p := hA0
  rw [Try.params11] at hA hval
  obtain ⟨v0, vs0, e0, es0, p0, q0, hargs, rfl, rfl, h0, r0⟩ := trodAll_cons hA
  obtain ⟨rfl, rfl, rfl⟩ := trodAll_nil r0
  obtain rfl : args = #[v0] := by cases args; simp_all
  obtain ⟨rfl, rfl⟩ := trodVars_none hV
  obtain ⟨a0, len0, cap0, rfl⟩ := okWide_slice Try.underlying22 (hval 0 22 v0 rfl rfl)
  have k0 := h0
  have lt0 : ∀ x ∈ p0, x.block < W.heap.size := by obtain ⟨m, hm⟩ := k0; exact DataW.trod_lt m _ _ _ hm
  obtain ⟨z0, y0⟩ := open_bytes h0
  clear hA0 hval0
  refine (walk_all W _ z0 y0).mono fun e W' ⟨he, bel⟩ => ?_
  subst he
  exact ⟨_, rfl, _, _, _, [], _, [], hW', trodAll_mk1 (shut_bool Try.underlying4 _), (trodAll_cons_mk (Below.trod laid_out (by kernel_rfl) (of_decide_eq_true (by kernel_rfl)) k0 bel lt0) trodAll_mk0), rfl, bel.frame _, fun h => by cases h⟩

theorem over : Rows.fnTightOkRow.holds Try.pinned (OpenSpec.ofChange Rows.fnTightOkSpec) :=
  OpenClaim.holds_of_wide 11 Try.f11 rfl rfl rfl rfl rfl rfl rfl ⟨rfl, rfl, rfl, rfl, rfl⟩ rfl rfl rfl rfl rfl (by kernel_rfl) Try.func11 (by kernel_rfl)
    (of_decide_eq_true (by kernel_rfl)) (by unfold Func.isWrapper; first | (rw [if_pos (by decide +kernel)]; kernel_rfl) | (rw [if_neg (by decide +kernel)]; exact ⟨rfl, rfl⟩))
    (fun os started H enc _ => lifted os started H enc)

end fnTightOk
theorem fnTightOk_holds : Rows.FnTightOkSaid := fnTightOk.over
#print axioms fnTightOk_holds
end Go.Proofs.Ytapllhnlngnobaa

