/- The law FnFirstOf: for every code it returns true. Conditions: none. -/
import Derived.Test.YtknnelenmedonaaDrawP
import Derived.Test.YtknnelenmedonaaFirstS
import Derived.Test.YtknnelenmedonaaSevenLaw
import Derived.Test.YtknnelenmedonaaBKeep
import Derived.Test.YtknnelenmedonaaKeepX
import Derived.Test.YtknnelenmedonaaSame
import Derived.Test.YtknnelenmedonaaLawFn
import Derived.Test.YtknnelenmedonaaOpenB
import Derived.Test.YtknnelenmedonaaRows
namespace Go.Proofs.Ytknnelenmedonaa
set_option linter.unusedVariables false
set_option linter.unusedSimpArgs false
namespace fnFirstOf
open Go.ChangeShapes Go.WideShapes Go.ChangeAt Go.RowKit Go.Deep

set_option maxRecDepth 100000 in
set_option maxHeartbeats 8000000 in
theorem walk_all (w : World) (v0 : Value) (n0 : Nat) (v1 : Value) (n1 : Nat) (h0 : BIn w v0 n0) (h1 : BIn w v1 n1) :
    Calls Try.prog 12 #[v0, v1] w fun e w' => e = .returned (.bool true) ∧ Below w.heap.size w w' := by
  obtain ⟨ao, cap, rfl, hn1, hn2, _⟩ := id h0
  obtain ⟨bo, bcap, rfl, hm1, hm2, _⟩ := id h1
  rw [maxLen_val] at hn2 hm2
  have hN : n0 ≤ 9223372036854775807 := by omega
  have hN1 : n1 ≤ 9223372036854775807 := by omega
  have H0 := Lib.hid h0
  have H0b := Lib.hid h1
  clear h0 h1 hn1 hn2 hm1 hm2
  by_cases hlong_n0 : n0 ≤ 1048576
  rotate_left
  · clear H0 H0b
    go_enter Try.func12, Try.ntmps12
    go_wp2
    go_ret
    exact ⟨rfl, Below.refl _ _⟩
  by_cases hlong_n1 : n1 ≤ 1048576
  rotate_left
  · clear H0 H0b
    go_enter Try.func12, Try.ntmps12
    go_wp2
    go_ret
    exact ⟨rfl, Below.refl _ _⟩
  go_enter Try.func12, Try.ntmps12
  go_wp2_with fail
  refine (drawFirstOf_any _ _ _ H0.out).mono ?_
  rintro e w1 ⟨vd, d, rfl, hd, hd6, hb⟩
  clear H0 hlong_n0 hlong_n1
  have H1 : Hid (Below w1.heap.size w1 w1) := Below.refl _ _
  obtain ⟨db, dc, _, _, rfl, -⟩ := id hd.open
  have HD := Lib.hid hd
  have HB := Lib.hid hb
  have HBI := Lib.hid (H0b.out.keep hb)
  have ci : ∀ (w' : World), Below w1.heap.size w1 w' → Calls Try.prog 43 #[.slice (some ⟨db, 0, none⟩) d.length dc] w' (GivesM (fiV d) w') := fun w' hb => implFirstOf_any _ _ _ _ _ (HD.out.fresh hb)
  have cs : ∀ (w' : World), Below w1.heap.size w1 w' → Calls Try.prog 42 #[.slice (some ⟨db, 0, none⟩) d.length dc] w' (GivesM (fiV d) w') := fun w' hb => specFirstOf_any _ _ _ _ _ (HD.out.fresh hb)
  clear H0b
  by_cases hok : KeOk d
  · have hS := hok.sp
    have hone := hS.one
    have hXl := same_len (fi_same hok)
    have HXL : Hid (1 ≤ (fiV d).length) := by show 1 ≤ _; omega
    have HSS : Hid ((samV d (fiV d)).isSome = true) := by show _ = _; rw [sam_some (fi_ss hok), decP_yes (fi_same hok)]
    have HFF := Lib.hid (fi_fi hok)
    have CI := Lib.hid <| ci
    have CS := Lib.hid <| cs
    clear ci cs hd hb hok hS hXl
    generalize fiV d = X at *
    go_wp2_with fail
    refine (CI.out w1 H1.out).mono ?_
    rintro e w2 ⟨vx, rfl, hx, hb2⟩
    have hx := hx.mem HXL.out
    obtain ⟨xb, xc, _, _, rfl, -⟩ := id hx.open
    have HX2 := Lib.hid hx
    have H2 := Lib.hid hb2
    clear hx hb2
    go_wp2_with fail
    refine (CS.out w2 H2.out).mono ?_
    rintro e w3 ⟨vh, rfl, hh, hb3⟩
    have cq := gives_of_quiet (sameRows_any _ _ _ _ _ (HX2.out.fresh hb3).inn hh.inn)
    rw [sameMB_yes rfl] at cq
    have CQ := Lib.hid <| cq
    have H3 := Lib.hid (below_chain H2.out hb3)
    have HX3 := Lib.hid (HX2.out.fresh hb3)
    clear cq hh hb3 HX2 H2
    go_wp2_with fail
    refine CQ.out.mono ?_
    rintro e w4 ⟨rfl, hb4⟩
    have H4 := Lib.hid (below_chain H3.out hb4)
    have HX4 := Lib.hid (HX3.out.fresh hb4)
    have hxn : ((X.length : Int) == 0) = false := by have := HXL.out; simp; intro e; rw [e] at this; simp at this
    have cd := implSameSpace_any _ _ _ _ _ _ d X w4 (HD.out.fresh H4.out) HX4.out
    have CD := Lib.hid <| cd
    clear cd hb4 HX3 H3
    go_wp2_with fail
    refine CD.out.mono ?_
    rintro e w5 ⟨vo, rfl, -, hb5⟩
    rw [HSS.out]
    have H5 := Lib.hid (below_chain H4.out hb5)
    have HX5 := Lib.hid (HX4.out.fresh hb5)
    clear hb5 HX4 H4 CD hxn
    go_wp2_with fail
    refine (drawSameSpace_any _ _ w5 (HBI.out.keep H5.out)).mono ?_
    rintro e w6 ⟨ve, vf, e2, f2, rfl, hE, hF, he6, hf6, hb6⟩
    obtain ⟨eb, ec, _, _, rfl, -⟩ := id hE.open
    obtain ⟨fb, fc, _, _, rfl, -⟩ := id hF.open
    have HX := Lib.hid (HX5.out.fresh hb6)
    have HE := Lib.hid hE
    have HF := Lib.hid hF
    have HBE : Hid (Below w.heap.size w w6) := below_chain HB.out (below_chain H5.out hb6)
    have cf : ∀ (w' : World), Below w6.heap.size w6 w' → Calls Try.prog 43 #[.slice (some ⟨xb, 0, none⟩) X.length xc] w' (GivesM X w') := fun w' hb => by
      have := implFirstOf_any _ _ _ _ _ (HX.out.fresh hb)
      rwa [HFF.out] at this
    have cse := fun w' (h : Below w6.heap.size w6 w') => specSpaceOk_any _ _ _ _ w' (HE.out.fresh h)
    have csf := fun w' (h : Below w6.heap.size w6 w') => specSpaceOk_any _ _ _ _ w' (HF.out.fresh h)
    have HZ : Hid (Below w6.heap.size w6 w6) := Below.refl _ _
    have CI2 := CI
    have CF := Lib.hid <| cf
    clear cf hE hF hb6 HX5 H5 HBI HSS HFF CI CS HD HB H1
    by_cases hSe : Space e2
    · simp only [decP_yes hSe] at cse
      have CSE := Lib.hid <| cse
      clear cse
      go_wp2_with fail
      refine (CSE.out _ HZ.out).mono ?_
      rintro e w7 ⟨rfl, hd7⟩
      have H7 := Lib.hid (below_chain HZ.out (hd7.below _))
      clear hd7 CSE HZ
      by_cases hSf : Space f2
      · simp only [decP_yes hSf] at csf
        have CSF := Lib.hid <| csf
        clear csf
        go_wp2_with fail
        refine (CSF.out _ H7.out).mono ?_
        rintro e w8 ⟨rfl, hd8⟩
        have HZ := Lib.hid (below_chain H7.out (hd8.below _))
        clear hd8 CSF H7
        by_cases hl : e2.length = f2.length
        · have hlb : ((e2.length : Int) == (f2.length : Int)) = true := by rw [hl]; simp
          by_cases h5 : e2.length ≤ 5
          · have hss : SsOk e2 f2 := ⟨hSe, hSf, hl, h5⟩
            have h5i : (e2.length : Int) ≤ 5 := by omega
            have hiff := fi_iff hss
            rw [← sam_some hss] at hiff
            have cg : ∀ (w' : World), Below w6.heap.size w6 w' → Calls Try.prog 38 #[.slice (some ⟨eb, 0, none⟩) e2.length ec, .slice (some ⟨fb, 0, none⟩) f2.length fc] w' (SamP e2 f2 w') := fun w' hb => implSameSpace_any _ _ _ _ _ _ _ _ _ (HE.out.fresh hb) (HF.out.fresh hb)
            have ch : ∀ (w' : World), Below w6.heap.size w6 w' → Calls Try.prog 43 #[.slice (some ⟨eb, 0, none⟩) e2.length ec] w' (GivesM (fiV e2) w') := fun w' hb => implFirstOf_any _ _ _ _ _ (HE.out.fresh hb)
            have ck : ∀ (w' : World), Below w6.heap.size w6 w' → Calls Try.prog 43 #[.slice (some ⟨fb, 0, none⟩) f2.length fc] w' (GivesM (fiV f2) w') := fun w' hb => implFirstOf_any _ _ _ _ _ (HF.out.fresh hb)
            have CG := Lib.hid <| cg
            have CH := Lib.hid <| ch
            have CK := Lib.hid <| ck
            have HIF := Lib.hid hiff
            clear cg ch ck hiff hss hSe hSf hl he6 hf6 HE HF
            generalize fiV e2 = E1 at *
            generalize fiV f2 = F1 at *
            go_wp2_with fail
            refine (CG.out _ HZ.out).mono ?_
            rintro e w9 ⟨vr, rfl, -, hb9⟩
            rw [HIF.out]
            have H9 := Lib.hid (below_chain HZ.out hb9)
            clear hb9 HZ CG HIF
            go_wp2_with fail
            refine (CH.out _ H9.out).mono ?_
            rintro e w10 ⟨vp, rfl, hp, hb10⟩
            have H10 := Lib.hid (below_chain H9.out hb10)
            have HP := Lib.hid hp
            obtain ⟨po, pc, rfl, -⟩ := id hp.inn
            clear hb10 H9 hp CH
            go_wp2_with fail
            refine (CK.out _ H10.out).mono ?_
            rintro e w11 ⟨vq, rfl, hq, hb11⟩
            have H11 := Lib.hid (below_chain H10.out hb11)
            have cr := gives_of_quiet (sameRows_any _ _ _ _ _ (HP.out.fresh hb11).inn hq.inn)
            obtain ⟨qo, qc, rfl, -⟩ := id hq.inn
            have CR := Lib.hid <| cr
            clear hb11 H10 hq HP CK cr
            generalize sameMB E1 F1 = bb at *
            go_wp2_with fail
            refine CR.out.mono ?_
            rintro e w12 ⟨rfl, hb12⟩
            have HZ := Lib.hid (below_chain H11.out hb12)
            clear hb12 H11 CR
            cases bb
            · clear CI2 CQ
              go_wp2_with fail
              refine (CF.out _ HZ.out).mono ?_
              rintro e wy ⟨vy, rfl, hy, hby⟩
              have HZ2 := Lib.hid (below_chain HZ.out hby)
              have cq := gives_of_quiet (sameRows_any _ _ _ _ _ hy.inn (HX.out.fresh HZ2.out).inn)
              rw [sameMB_yes rfl] at cq
              have CQ2 := Lib.hid <| cq
              obtain ⟨yo, yc, rfl, -⟩ := id hy.inn
              clear cq hy hby HZ
              go_wp2_with fail
              refine CQ2.out.mono ?_
              rintro e wz ⟨rfl, hbz⟩
              have HZ3 := Lib.hid (below_chain HZ2.out hbz)
              clear hbz HZ2 CQ2
              go_wp2
              go_ret
              exact ⟨rfl, below_chain HBE.out HZ3.out⟩
            · clear CI2 CQ
              go_wp2_with fail
              refine (CF.out _ HZ.out).mono ?_
              rintro e wy ⟨vy, rfl, hy, hby⟩
              have HZ2 := Lib.hid (below_chain HZ.out hby)
              have cq := gives_of_quiet (sameRows_any _ _ _ _ _ hy.inn (HX.out.fresh HZ2.out).inn)
              rw [sameMB_yes rfl] at cq
              have CQ2 := Lib.hid <| cq
              obtain ⟨yo, yc, rfl, -⟩ := id hy.inn
              clear cq hy hby HZ
              go_wp2_with fail
              refine CQ2.out.mono ?_
              rintro e wz ⟨rfl, hbz⟩
              have HZ3 := Lib.hid (below_chain HZ2.out hbz)
              clear hbz HZ2 CQ2
              go_wp2
              go_ret
              exact ⟨rfl, below_chain HBE.out HZ3.out⟩
          · have h5b : decide ((e2.length : Int) ≤ 5) = false := by simp; omega
            have h5c : ¬ (e2.length : Int) ≤ 5 := by omega
            clear hl hSe hSf
            clear CI2 CQ
            go_wp2_with fail
            refine (CF.out _ HZ.out).mono ?_
            rintro e wy ⟨vy, rfl, hy, hby⟩
            have HZ2 := Lib.hid (below_chain HZ.out hby)
            have cq := gives_of_quiet (sameRows_any _ _ _ _ _ hy.inn (HX.out.fresh HZ2.out).inn)
            rw [sameMB_yes rfl] at cq
            have CQ2 := Lib.hid <| cq
            obtain ⟨yo, yc, rfl, -⟩ := id hy.inn
            clear cq hy hby HZ
            go_wp2_with fail
            refine CQ2.out.mono ?_
            rintro e wz ⟨rfl, hbz⟩
            have HZ3 := Lib.hid (below_chain HZ2.out hbz)
            clear hbz HZ2 CQ2
            go_wp2
            go_ret
            exact ⟨rfl, below_chain HBE.out HZ3.out⟩
        · have hlb : ((e2.length : Int) == (f2.length : Int)) = false := by simpa using (show ¬ (e2.length : Int) = f2.length by omega)
          clear hl hSe hSf
          clear CI2 CQ
          go_wp2_with fail
          refine (CF.out _ HZ.out).mono ?_
          rintro e wy ⟨vy, rfl, hy, hby⟩
          have HZ2 := Lib.hid (below_chain HZ.out hby)
          have cq := gives_of_quiet (sameRows_any _ _ _ _ _ hy.inn (HX.out.fresh HZ2.out).inn)
          rw [sameMB_yes rfl] at cq
          have CQ2 := Lib.hid <| cq
          obtain ⟨yo, yc, rfl, -⟩ := id hy.inn
          clear cq hy hby HZ
          go_wp2_with fail
          refine CQ2.out.mono ?_
          rintro e wz ⟨rfl, hbz⟩
          have HZ3 := Lib.hid (below_chain HZ2.out hbz)
          clear hbz HZ2 CQ2
          go_wp2
          go_ret
          exact ⟨rfl, below_chain HBE.out HZ3.out⟩
      · simp only [decP_no hSf] at csf
        have CSF := Lib.hid <| csf
        clear csf
        go_wp2_with fail
        refine (CSF.out _ H7.out).mono ?_
        rintro e w8 ⟨rfl, hd8⟩
        have HZ := Lib.hid (below_chain H7.out (hd8.below _))
        clear hd8 CSF H7 hSe hSf
        clear CI2 CQ
        go_wp2_with fail
        refine (CF.out _ HZ.out).mono ?_
        rintro e wy ⟨vy, rfl, hy, hby⟩
        have HZ2 := Lib.hid (below_chain HZ.out hby)
        have cq := gives_of_quiet (sameRows_any _ _ _ _ _ hy.inn (HX.out.fresh HZ2.out).inn)
        rw [sameMB_yes rfl] at cq
        have CQ2 := Lib.hid <| cq
        obtain ⟨yo, yc, rfl, -⟩ := id hy.inn
        clear cq hy hby HZ
        go_wp2_with fail
        refine CQ2.out.mono ?_
        rintro e wz ⟨rfl, hbz⟩
        have HZ3 := Lib.hid (below_chain HZ2.out hbz)
        clear hbz HZ2 CQ2
        go_wp2
        go_ret
        exact ⟨rfl, below_chain HBE.out HZ3.out⟩
    · simp only [decP_no hSe] at cse
      have CSE := Lib.hid <| cse
      clear cse csf
      go_wp2_with fail
      refine (CSE.out _ HZ.out).mono ?_
      rintro e w7 ⟨rfl, hd7⟩
      have HZ := Lib.hid (below_chain HZ.out (hd7.below _))
      clear hd7 CSE hSe
      clear CI2 CQ
      go_wp2_with fail
      refine (CF.out _ HZ.out).mono ?_
      rintro e wy ⟨vy, rfl, hy, hby⟩
      have HZ2 := Lib.hid (below_chain HZ.out hby)
      have cq := gives_of_quiet (sameRows_any _ _ _ _ _ hy.inn (HX.out.fresh HZ2.out).inn)
      rw [sameMB_yes rfl] at cq
      have CQ2 := Lib.hid <| cq
      obtain ⟨yo, yc, rfl, -⟩ := id hy.inn
      clear cq hy hby HZ
      go_wp2_with fail
      refine CQ2.out.mono ?_
      rintro e wz ⟨rfl, hbz⟩
      have HZ3 := Lib.hid (below_chain HZ2.out hbz)
      clear hbz HZ2 CQ2
      go_wp2
      go_ret
      exact ⟨rfl, below_chain HBE.out HZ3.out⟩
  · rw [fiV_no hok] at ci cs
    have CI := Lib.hid <| ci
    have CS := Lib.hid <| cs
    clear ci cs hd hb hok
    go_wp2_with fail
    refine (CI.out w1 H1.out).mono ?_
    rintro e w2 ⟨vx, rfl, hx, hb2⟩
    obtain ⟨xo, xc, rfl, -⟩ := id hx.inn
    have HX2 := Lib.hid hx
    have H2 := Lib.hid hb2
    clear hx hb2
    go_wp2_with fail
    refine (CS.out w2 H2.out).mono ?_
    rintro e w3 ⟨vh, rfl, hh, hb3⟩
    have cq := gives_of_quiet (sameRows_any _ _ _ _ _ (HX2.out.fresh hb3).inn hh.inn)
    rw [sameMB_yes rfl] at cq
    have CQ := Lib.hid <| cq
    have H3 := Lib.hid (below_chain H2.out hb3)
    clear cq hh hb3 HX2 H2
    go_wp2_with fail
    refine CQ.out.mono ?_
    rintro e w4 ⟨rfl, hb4⟩
    have H4 := Lib.hid (below_chain H3.out hb4)
    clear hb4 H3
    go_wp2_with fail
    refine (alive_any _).mono ?_
    rintro e w5 ⟨rfl, hd_w5⟩
    have H5 : Hid (Below w1.heap.size w1 w5) := below_chain H4.out hd_w5
    clear hd_w5 H4
    go_wp2
    go_ret
    exact ⟨rfl, below_chain HB.out H5.out⟩

set_option maxRecDepth 100000 in
theorem lifted (os : Os) (started : os.Started) (H : Type) (enc : TypeId × Value → H) :
    ReturnsInHanded {} Try.checked os 12 .any (Rows.fnFirstOfSpec.pre6 enc Try.prog Try.f12 Rows.fnFirstOfRow.domain false) (Rows.fnFirstOfSpec.post enc Try.prog Try.f12 false true false false) := by
  refine returnsInHanded_of_change (C := Try.checked) own_knob started (by kernel_rfl) Try.func12
    (ChangeSpec.witness6 (enc := enc) (C := Try.checked) false ⟨#[], #[.slice none 0 0, .slice none 0 0], []⟩ 8 (by kernel_rfl) (by kernel_rfl) (by kernel_rfl) (by kernel_rfl)) ?_
  intro W base args ds gs before hval0 hW hcnd _
  have hval : ∀ (j : Nat) t v, Try.f12.params[j]? = some t → args[j]? = some v → Value.okWide Try.prog W .any base t v := hval0
  have hW' := hW
  obtain ⟨p, q, hA0, hV, rfl, hfz, hnd⟩ := hW
  have hA : DataW.TrodAll enc Try.prog W 0 (fun _ => true) true Try.f12.params.toList args.toList ds p := hA0
  rw [Try.params12] at hA hval
  obtain ⟨v0, vs0, e0, es0, p0, q0, hargs, rfl, rfl, h0, r0⟩ := trodAll_cons hA
  obtain ⟨v1, vs1, e1, es1, p1, q1, rfl, rfl, rfl, h1, r1⟩ := trodAll_cons r0
  obtain ⟨rfl, rfl, rfl⟩ := trodAll_nil r1
  obtain rfl : args = #[v0, v1] := by cases args; simp_all
  obtain ⟨rfl, rfl⟩ := trodVars_none hV
  obtain ⟨a0, len0, cap0, rfl⟩ := okWide_slice Try.underlying26 (hval 0 26 v0 rfl rfl)
  have k0 := h0
  have lt0 : ∀ x ∈ p0, x.block < W.heap.size := by obtain ⟨m, hm⟩ := k0; exact DataW.trod_lt m _ _ _ hm
  obtain ⟨z0, y0⟩ := open_bytes h0
  obtain ⟨a1, len1, cap1, rfl⟩ := okWide_slice Try.underlying26 (hval 1 26 v1 rfl rfl)
  have k1 := h1
  have lt1 : ∀ x ∈ p1, x.block < W.heap.size := by obtain ⟨m, hm⟩ := k1; exact DataW.trod_lt m _ _ _ hm
  obtain ⟨z1, y1⟩ := open_bytes h1
  clear hA0 hval0
  refine (walk_all W _ z0 _ z1 y0 y1).mono fun e W' ⟨he, bel⟩ => ?_
  subst he
  exact ⟨_, rfl, _, _, _, [], _, [], hW', trodAll_mk1 (shut_bool Try.underlying4 _), (trodAll_cons_mk (Below.trod laid_out (by kernel_rfl) (of_decide_eq_true (by kernel_rfl)) k0 bel lt0) (trodAll_cons_mk (Below.trod laid_out (by kernel_rfl) (of_decide_eq_true (by kernel_rfl)) k1 bel lt1) trodAll_mk0)), rfl, bel.frame _, fun h => by cases h⟩

theorem over : Rows.fnFirstOfRow.holds Try.pinned (OpenSpec.ofChange Rows.fnFirstOfSpec) :=
  OpenClaim.holds_of_wide 12 Try.f12 rfl rfl rfl rfl rfl rfl rfl ⟨rfl, rfl, rfl, rfl, rfl⟩ rfl rfl rfl rfl rfl (by kernel_rfl) Try.func12 (by kernel_rfl)
    (of_decide_eq_true (by kernel_rfl)) (by unfold Func.isWrapper; first | (rw [if_pos (by decide +kernel)]; kernel_rfl) | (rw [if_neg (by decide +kernel)]; exact ⟨rfl, rfl⟩))
    (fun os started H enc _ => lifted os started H enc)

end fnFirstOf
theorem fnFirstOf_holds : Rows.FnFirstOfSaid := fnFirstOf.over
#print axioms fnFirstOf_holds
end Go.Proofs.Ytknnelenmedonaa

