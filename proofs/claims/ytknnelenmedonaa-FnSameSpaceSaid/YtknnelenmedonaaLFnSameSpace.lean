/- The law FnSameSpace: for every code it returns true. Conditions: none. -/
import Derived.Test.YtknnelenmedonaaDrawP
import Derived.Test.YtknnelenmedonaaSameS
import Derived.Test.YtknnelenmedonaaOrdX
import Derived.Test.YtknnelenmedonaaSevenLaw
import Derived.Test.YtknnelenmedonaaSame
import Derived.Test.YtknnelenmedonaaLawFn
import Derived.Test.YtknnelenmedonaaOpenB
import Derived.Test.YtknnelenmedonaaRows
namespace Go.Proofs.Ytknnelenmedonaa
set_option linter.unusedVariables false
set_option linter.unusedSimpArgs false
namespace fnSameSpace
open Go.ChangeShapes Go.WideShapes Go.ChangeAt Go.RowKit Go.Deep

set_option maxRecDepth 100000 in
set_option maxHeartbeats 8000000 in
theorem walk_all (w : World) (v0 : Value) (n0 : Nat) (h0 : BIn w v0 n0) :
    Calls Try.prog 10 #[v0] w fun e w' => e = .returned (.bool true) ∧ Below w.heap.size w w' := by
  obtain ⟨ao, cap, rfl, hn1, hn2, _⟩ := id h0
  rw [maxLen_val] at hn2
  have hN : n0 ≤ 9223372036854775807 := by omega
  have H0 := Lib.hid h0
  clear h0 hn1 hn2
  by_cases hlong : n0 ≤ 1048576
  rotate_left
  · clear H0
    go_enter Try.func10, Try.ntmps10
    go_wp2
    go_ret
    exact ⟨rfl, Below.refl _ _⟩
  go_enter Try.func10, Try.ntmps10
  go_wp2_with fail
  refine (drawSameSpace_any _ _ _ H0.out).mono ?_
  rintro e w1 ⟨vd, ve, d, e2, rfl, hd, he, hd6, he6, hb⟩
  clear H0 hlong
  have H1 : Hid (Below w1.heap.size w1 w1) := Below.refl _ _
  obtain ⟨db, dc, _, _, rfl, -⟩ := id hd.open
  obtain ⟨eb, ec, _, _, rfl, -⟩ := id he.open
  have HD := Lib.hid hd
  have HE := Lib.hid he
  have HB := Lib.hid hb
  have ci : ∀ (w' : World), Below w1.heap.size w1 w' → Calls Try.prog 38 #[.slice (some ⟨db, 0, none⟩) d.length dc, .slice (some ⟨eb, 0, none⟩) e2.length ec] w' (SamP d e2 w') := fun w' hb => implSameSpace_any _ _ _ _ _ _ _ _ _ (HD.out.fresh hb) (HE.out.fresh hb)
  have cs : ∀ (w' : World), Below w1.heap.size w1 w' → Calls Try.prog 37 #[.slice (some ⟨db, 0, none⟩) d.length dc, .slice (some ⟨eb, 0, none⟩) e2.length ec] w' (SamP d e2 w') := fun w' hb => specSameSpace_any _ _ _ _ _ _ _ _ _ (HD.out.fresh hb) (HE.out.fresh hb)
  have cb : ∀ (w' : World), Below w1.heap.size w1 w' → Calls Try.prog 38 #[.slice (some ⟨eb, 0, none⟩) e2.length ec, .slice (some ⟨db, 0, none⟩) d.length dc] w' (SamP e2 d w') := fun w' hb => implSameSpace_any _ _ _ _ _ _ _ _ _ (HE.out.fresh hb) (HD.out.fresh hb)
  have HBK := Lib.hid (sam_back d e2)
  have CI := Lib.hid <| ci
  have CS := Lib.hid <| cs
  have CB := Lib.hid <| cb
  clear ci cs cb hb
  cases hsam : samV d e2 with
  | none =>
    have HS1 : Hid ((samV d e2).isSome = false) := by show _ = _; rw [hsam]; rfl
    have HS2 : Hid ((samV d e2).getD [] = []) := by show _ = _; rw [hsam]; rfl
    have HS3 : Hid ((samV e2 d).isSome = false) := by show _ = _; rw [HBK.out]; exact HS1.out
    clear hsam hd he hd6 he6
    go_wp2_with fail
    refine (CI.out w1 H1.out).mono ?_
    rintro e w2 ⟨vo, rfl, ho, hb2⟩
    rw [HS2.out] at ho
    rw [HS1.out]
    obtain ⟨oo, oc, rfl, -⟩ := id ho.inn
    have HO := Lib.hid ho.inn
    have H12 := Lib.hid hb2
    clear ho hb2
    go_wp2_with fail
    refine (CS.out w2 H12.out).mono ?_
    rintro e w3 ⟨vh, rfl, hh, hb3⟩
    rw [HS2.out] at hh
    rw [HS1.out]
    have cq := gives_of_quiet (sameInts_any _ _ _ _ _ (HO.out.keep hb3) hh.inn)
    rw [sameB_yes rfl] at cq
    have CQ := Lib.hid <| cq
    have H3 := Lib.hid hb3
    obtain ⟨ho2, hc2, rfl, -⟩ := id hh.inn
    clear cq hh hb3
    go_wp2_with fail
    refine (CQ.out).mono ?_
    rintro e w4 ⟨rfl, hd_w4⟩
    have H4 : Hid (Below w2.heap.size w2 w4) := below_chain H3.out hd_w4
    clear hd_w4 H3
    go_wp2_with fail
    refine (CB.out w4 (below_chain H12.out H4.out)).mono ?_
    rintro e w5 ⟨vb, rfl, _, hb5⟩
    rw [HS3.out]
    have H5 := Lib.hid (below_chain H4.out hb5)
    clear hb5 H4
    go_wp2_with fail
    refine (alive_any _).mono ?_
    rintro e w6 ⟨rfl, hd_w6⟩
    have H6 : Hid (Below w2.heap.size w2 w6) := below_chain H5.out hd_w6
    clear hd_w6 H5
    go_wp2
    go_ret
    exact ⟨rfl, below_chain (Lib.hid (below_chain HB.out H12.out)).out H6.out⟩
  | some o =>
    obtain ⟨hok, o1, o2, o3⟩ := samV_mem hsam
    have hS := hok.a
    have h5 := hok.five
    have hone := hS.one
    have HS1 : Hid ((samV d e2).isSome = true) := by show _ = _; rw [hsam]; rfl
    have HS2 : Hid ((samV d e2).getD [] = o) := by show _ = _; rw [hsam]; rfl
    have HS3 : Hid ((samV e2 d).isSome = true) := by show _ = _; rw [HBK.out]; exact HS1.out
    have hself := sam_self hS h5
    have HT1 : Hid ((samV d d).isSome = true) := by show _ = _; rw [hself]; rfl
    have HT2 : Hid ((samV d d).getD [] = ownO d.length) := by show _ = _; rw [hself]; rfl
    have cd : ∀ (w' : World), Below w1.heap.size w1 w' → Calls Try.prog 38 #[.slice (some ⟨db, 0, none⟩) d.length dc, .slice (some ⟨db, 0, none⟩) d.length dc] w' (SamP d d w') := fun w' hb => implSameSpace_any _ _ _ _ _ _ _ _ _ (HD.out.fresh hb) (HD.out.fresh hb)
    have co : ∀ (w' : World) (lo hi : Nat) (v : Value), IMem lo hi w' v o → Below w1.heap.size w1 w' → Calls Try.prog 24 #[.slice (some ⟨db, 0, none⟩) d.length dc, v] w' (GivesM e2 w') := fun w' lo hi v hv hb => by
      have := implOrdered_any _ _ _ _ _ _ _ _ _ (HD.out.fresh hb) hv
      rwa [odV_yes ⟨hS, o1, o2⟩, o3] at this
    have hon : 1 ≤ o.length := o1.one
    have CD := Lib.hid <| cd
    have CO := Lib.hid <| co
    clear cd co hsam hself hok hS o1 o2 o3 hd he he6
    go_wp2_with fail
    refine (CI.out w1 H1.out).mono ?_
    rintro e w2 ⟨vo, rfl, ho, hb2⟩
    rw [HS2.out] at ho
    rw [HS1.out]
    have ho := ho.mem (ne_nil_of rfl hon)
    obtain ⟨ob, oc, rfl, -⟩ := id ho.open
    have HO := Lib.hid ho
    have H12 := Lib.hid hb2
    clear ho hb2
    go_wp2_with fail
    refine (CS.out w2 H12.out).mono ?_
    rintro e w3 ⟨vh, rfl, hh, hb3⟩
    rw [HS2.out] at hh
    rw [HS1.out]
    have cq := gives_of_quiet (sameInts_any _ _ _ _ _ (HO.out.fresh hb3).inn hh.inn)
    rw [sameB_yes rfl] at cq
    have CQ := Lib.hid <| cq
    have H3 := Lib.hid hb3
    obtain ⟨ho2, hc2, rfl, -⟩ := id hh.inn
    clear cq hh hb3
    go_wp2_with fail
    refine (CQ.out).mono ?_
    rintro e w4 ⟨rfl, hd_w4⟩
    have H4 : Hid (Below w2.heap.size w2 w4) := below_chain H3.out hd_w4
    clear hd_w4 H3
    go_wp2_with fail
    refine (CB.out w4 (below_chain H12.out H4.out)).mono ?_
    rintro e w5 ⟨vb, rfl, _, hb5⟩
    rw [HS3.out]
    have H5 := Lib.hid (below_chain H4.out hb5)
    clear hb5 H4
    go_wp2_with fail
    refine (CD.out w5 (below_chain H12.out H5.out)).mono ?_
    rintro e w6 ⟨vn, rfl, hn, hb6⟩
    rw [HT2.out] at hn
    rw [HT1.out]
    have hn := hn.mem (ne_nil_of (ownO_length _) hone)
    obtain ⟨nb, nc, rfl, -⟩ := id hn.open
    rw [ownO_length] at hn ⊢
    have HN := Lib.hid hn
    have H6 := Lib.hid (below_chain H5.out hb6)
    clear hb6 H5 hn
    go_wp2_with fail
    refine (CO.out w6 _ _ _ (HO.out.fresh H6.out) (below_chain H12.out H6.out)).mono ?_
    rintro e w7 ⟨vx, rfl, hx, hb7⟩
    have HN7 := Lib.hid (HN.out.fresh hb7)
    have H7 := Lib.hid (below_chain H6.out hb7)
    have cq := gives_of_quiet (sameRows_any _ _ _ _ _ hx.inn (HE.out.fresh (below_chain H12.out H7.out)).inn)
    rw [sameMB_yes rfl] at cq
    have CQ2 := Lib.hid <| cq
    obtain ⟨xo, xc, rfl, -⟩ := id hx.inn
    clear cq hx hb7 H6 HN
    go_wp2_with fail
    refine CQ2.out.mono ?_
    rintro e w8 ⟨rfl, hb8⟩
    have HN8 := Lib.hid (HN7.out.fresh hb8)
    have H8 := Lib.hid (below_chain H7.out hb8)
    have c1 := HN8.out.cellAt (i := 0) (by rw [ownO_length]; omega)
    rw [iat_ownO (by omega)] at c1
    have hl0 : (0 : Int) < (d.length : Int) := by omega
    have e1 : ((d.length : Int) == (d.length : Int)) = true := by simp
    clear hb8 H7 HN7 HN8
    go_wp2_with fail
    go_wp2
    go_ret
    exact ⟨rfl, below_chain (Lib.hid (below_chain HB.out H12.out)).out H8.out⟩

set_option maxRecDepth 100000 in
theorem lifted (os : Os) (started : os.Started) (H : Type) (enc : TypeId × Value → H) :
    ReturnsInHanded {} Try.checked os 10 .any (Rows.fnSameSpaceSpec.pre6 enc Try.prog Try.f10 Rows.fnSameSpaceRow.domain false) (Rows.fnSameSpaceSpec.post enc Try.prog Try.f10 false true false false) := by
  refine returnsInHanded_of_change (C := Try.checked) own_knob started (by kernel_rfl) Try.func10
    (ChangeSpec.witness6 (enc := enc) (C := Try.checked) false ⟨#[], #[.slice none 0 0], []⟩ 8 (by kernel_rfl) (by kernel_rfl) (by kernel_rfl) (by kernel_rfl)) ?_
  intro W base args ds gs before hval0 hW hcnd _
  have hval : ∀ (j : Nat) t v, Try.f10.params[j]? = some t → args[j]? = some v → Value.okWide Try.prog W .any base t v := hval0
  have hW' := hW
  obtain ⟨p, q, hA0, hV, rfl, hfz, hnd⟩ := hW
  have hA : DataW.TrodAll enc Try.prog W 0 (fun _ => true) true Try.f10.params.toList args.toList ds p := hA0
  rw [Try.params10] at hA hval
  obtain ⟨v0, vs0, e0, es0, p0, q0, hargs, rfl, rfl, h0, r0⟩ := trodAll_cons hA
  obtain ⟨rfl, rfl, rfl⟩ := trodAll_nil r0
  obtain rfl : args = #[v0] := by cases args; simp_all
  obtain ⟨rfl, rfl⟩ := trodVars_none hV
  obtain ⟨a0, len0, cap0, rfl⟩ := okWide_slice Try.underlying26 (hval 0 26 v0 rfl rfl)
  have k0 := h0
  have lt0 : ∀ x ∈ p0, x.block < W.heap.size := by obtain ⟨m, hm⟩ := k0; exact DataW.trod_lt m _ _ _ hm
  obtain ⟨z0, y0⟩ := open_bytes h0
  clear hA0 hval0
  refine (walk_all W _ z0 y0).mono fun e W' ⟨he, bel⟩ => ?_
  subst he
  exact ⟨_, rfl, _, _, _, [], _, [], hW', trodAll_mk1 (shut_bool Try.underlying4 _), (trodAll_cons_mk (Below.trod laid_out (by kernel_rfl) (of_decide_eq_true (by kernel_rfl)) k0 bel lt0) trodAll_mk0), rfl, bel.frame _, fun h => by cases h⟩

theorem over : Rows.fnSameSpaceRow.holds Try.pinned (OpenSpec.ofChange Rows.fnSameSpaceSpec) :=
  OpenClaim.holds_of_wide 10 Try.f10 rfl rfl rfl rfl rfl rfl rfl ⟨rfl, rfl, rfl, rfl, rfl⟩ rfl rfl rfl rfl rfl (by kernel_rfl) Try.func10 (by kernel_rfl)
    (of_decide_eq_true (by kernel_rfl)) (by unfold Func.isWrapper; first | (rw [if_pos (by decide +kernel)]; kernel_rfl) | (rw [if_neg (by decide +kernel)]; exact ⟨rfl, rfl⟩))
    (fun os started H enc _ => lifted os started H enc)

end fnSameSpace
theorem fnSameSpace_holds : Rows.FnSameSpaceSaid := fnSameSpace.over
#print axioms fnSameSpace_holds
end Go.Proofs.Ytknnelenmedonaa

