/- The law FnOrdered: for every code it returns true. Conditions: none. -/
import Derived.Test.YtknnelenmedonaaDrawP
import Derived.Test.YtknnelenmedonaaOrdY
import Derived.Test.YtknnelenmedonaaSevenLaw
import Derived.Test.YtknnelenmedonaaRadius
import Derived.Test.YtknnelenmedonaaSame
import Derived.Test.YtknnelenmedonaaLawFn
import Derived.Test.YtknnelenmedonaaOpenB
import Derived.Test.YtknnelenmedonaaRows
namespace Go.Proofs.Ytknnelenmedonaa
set_option linter.unusedVariables false
set_option linter.unusedSimpArgs false
namespace fnOrdered
open Go.ChangeShapes Go.WideShapes Go.ChangeAt Go.RowKit Go.Deep

set_option maxRecDepth 100000 in
set_option maxHeartbeats 8000000 in
theorem walk_all (w : World) (v0 : Value) (n0 : Nat) (h0 : BIn w v0 n0) :
    Calls Try.prog 6 #[v0] w fun e w' => e = .returned (.bool true) ∧ Below w.heap.size w w' := by
  obtain ⟨ao, cap, rfl, hn1, hn2, _⟩ := id h0
  rw [maxLen_val] at hn2
  have hN : n0 ≤ 9223372036854775807 := by omega
  have H0 := Lib.hid h0
  clear h0 hn1 hn2
  by_cases hlong : n0 ≤ 1048576
  rotate_left
  · clear H0
    go_enter Try.func6, Try.ntmps6
    go_wp2
    go_ret
    exact ⟨rfl, Below.refl _ _⟩
  go_enter Try.func6, Try.ntmps6
  go_wp2_with fail
  refine (drawOrdered_any _ _ _ H0.out).mono ?_
  rintro e w1 ⟨vd, vf, d, f, rfl, hd, hf, hd6, hf7, hb⟩
  clear H0 hlong
  have H1 : Hid (Below w1.heap.size w1 w1) := Below.refl _ _
  obtain ⟨db, dc, _, _, rfl, -⟩ := id hd.open
  have HD := Lib.hid hd
  have HF := Lib.hid hf
  have HB := Lib.hid hb
  have ci : ∀ (w' : World), Below w1.heap.size w1 w' → Calls Try.prog 24 #[.slice (some ⟨db, 0, none⟩) d.length dc, vf] w' (GivesM (odV d f) w') := fun w' hb => implOrdered_any _ _ _ _ _ _ _ _ _ (HD.out.fresh hb) (HF.out.fresh hb)
  have cs : ∀ (w' : World), Below w1.heap.size w1 w' → Calls Try.prog 22 #[.slice (some ⟨db, 0, none⟩) d.length dc, vf] w' (GivesM (odV d f) w') := fun w' hb => specOrdered_any _ _ _ _ _ _ _ _ _ (HD.out.fresh hb) (HF.out.fresh hb)
  obtain ⟨fb, fc, rfl, -⟩ := id hf.open
  by_cases hok : OdOk d f
  · have hS := hok.sp
    have hone := hS.one
    have hxl : (ordL d f).length = d.length := by rw [ordL_length]; exact hok.len
    have hSx := space_ordL hS hok.od hok.len
    rw [odV_yes hok] at ci cs
    have cr : ∀ (w' : World), Below w1.heap.size w1 w' → Calls Try.prog 31 #[.slice (some ⟨db, 0, none⟩) d.length dc] w' (RadP d w') := fun w' hb => implRadiusOf_any _ _ _ _ _ (HD.out.fresh hb) hS
    have hrad := rad_ord hS hok.od hok.len
    have hwid := wid_ord hS hok.od hok.len
    have cx : ∀ (w' : World) (lo hi : Nat) (v : Value), MMem lo hi w' v (ordL d f) → Calls Try.prog 31 #[v] w' (RadP (ordL d f) w') := fun w' lo hi v hv => implRadiusOf_any _ _ _ _ _ hv hSx
    have csx : ∀ (w' : World) (lo hi : Nat) (v : Value), MMem lo hi w' v (ordL d f) → Calls Try.prog 32 #[v] w' (Gives (.bool true) w') := fun w' lo hi v hv => by
      have := gives_of_quiet (implSpaceOk_any _ _ _ _ _ hv)
      rwa [decP_yes hSx] at this
    have cwx : ∀ (w' : World) (lo hi : Nat) (v : Value), MMem lo hi w' v (ordL d f) → Calls Try.prog 33 #[v] w' (Gives (.int .i64 (widF d d.length)) w') := fun w' lo hi v hv => by
      have := gives_of_quiet (implWidthOf_any _ _ _ _ _ hv)
      rwa [widV_yes hSx, hwid] at this
    have cwd : ∀ (w' : World), Below w1.heap.size w1 w' → Calls Try.prog 33 #[.slice (some ⟨db, 0, none⟩) d.length dc] w' (Gives (.int .i64 (widF d d.length)) w') := fun w' hb => by
      have := gives_of_quiet (implWidthOf_any _ _ _ _ _ (HD.out.fresh hb))
      rwa [widV_yes hS] at this
    have co : ∀ (w' : World) (lo hi : Nat) (v : Value), IMem lo hi w' v (ownO d.length) → Below w1.heap.size w1 w' → Calls Try.prog 24 #[.slice (some ⟨db, 0, none⟩) d.length dc, v] w' (GivesM d w') := fun w' lo hi v hv hb => by
      have := implOrdered_any _ _ _ _ _ _ _ _ _ (HD.out.fresh hb) hv
      rwa [odV_yes ⟨hS, ord_own hone hS.six, ownO_length _⟩, ordL_own hS.sq] at this
    have CI := Lib.hid <| ci
    have CS := Lib.hid <| cs
    have CR := Lib.hid <| cr
    have CX := Lib.hid <| cx
    have CSX := Lib.hid <| csx
    have CWX := Lib.hid <| cwx
    have CWD := Lib.hid <| cwd
    have CO := Lib.hid <| co
    have HRAD := Lib.hid hrad
    clear ci cs cr cx csx cwx cwd co hrad hwid hd hf hb hok hS hSx hf7
    generalize widF d d.length = wd at *
    go_wp2_with fail
    refine (CI.out w1 H1.out).mono ?_
    rintro e w2 ⟨vx, rfl, hx, hb2⟩
    have hx := hx.mem (by rw [hxl]; exact hone)
    obtain ⟨xb, xc, _, _, rfl, -⟩ := id hx.open
    rw [hxl] at hx ⊢
    have HX := Lib.hid hx
    have H12 := Lib.hid hb2
    clear hx hb2 hxl
    go_wp2_with fail
    refine (CS.out w2 H12.out).mono ?_
    rintro e w3 ⟨vh, rfl, hh, hb3⟩
    have cq := gives_of_quiet (sameRows_any _ _ _ _ _ (HX.out.fresh hb3).inn hh.inn)
    rw [sameMB_yes rfl] at cq
    have CQ := Lib.hid <| cq
    have H3 := Lib.hid hb3
    clear cq hh hb3
    go_wp2_with fail
    refine (CQ.out).mono ?_
    rintro e w4 ⟨rfl, hd_w4⟩
    have H4 : Hid (Below w2.heap.size w2 w4) := below_chain H3.out hd_w4
    clear hd_w4 H3
    have hfn : ((d.length : Int) == 0) = false := by simpa using (show d.length ≠ 0 by omega)
    have HI : Hid (IMem w2.heap.size (w4.alloc (.cells #[] 3)).heap.size (w4.alloc (.cells #[] 3)) (.slice (some ⟨w4.heap.size, 0, none⟩) 0 0) (genL (fun k => (k : Int)) 0)) := (IMem.empty w4).widen H4.out.size (by simp)
    have H5 : Hid (Below w2.heap.size w2 (w4.alloc (.cells #[] 3))) := H4.out.alloc H4.out.size _
    clear H4 CQ
    go_wp2
    go_loopw [6, 7] (fun ov kv wr => ∃ k : Nat, k ≤ d.length ∧ kv = .int .i64 k ∧ Hid (IMem w2.heap.size wr.heap.size wr ov (genL (fun k => (k : Int)) k)) ∧ Hid (Below w2.heap.size w2 wr)) (fun _ kv _ => d.length - (intOf kv).toNat)
    case atStart => exact ⟨0, Nat.zero_le _, rfl, HI, H5⟩
    case round =>
      clear HI H5
      obtain ⟨k, hk, rfl, HI, H5⟩ := hrel
      by_cases hkl : k < d.length
      · have hki : (k : Int) < (d.length : Int) := by omega
        have hs := H5.out.size
        have hgl : (genL (fun k => (k : Int)) k).length = k := genL_length _ _
        go_wp2_with (at_builtin; refine wp_app _ rfl _ _ rfl w2.heap.size _ _ _ rfl (HI.out.alloc _) wr.heap.size 0 1 1 [(k : Int)] rfl rfl one_cell (by omega) (by simp; omega) ?_; intro v' w' hI' hB' _; rw [← genL_succ (fun k => (k : Int)) k] at hI'; have HI6 := Lib.hid hI'; have H6 := Lib.hid ((H5.out.alloc hs _).trans hB'); clear hI' hB' HI H5)
        go_wp2
        go_roundw
        case rel => exact ⟨k + 1, by omega, by go_num, HI6, H6⟩
        case measure => simp [intOf]; omega
      · have hke : k = d.length := by omega
        subst hke
        have HB2 := Lib.hid (below_chain HB.out H12.out)
        go_wp2_with fail
        refine (CR.out _ (below_chain H12.out H5.out)).mono ?_
        rintro e w6 ⟨q, rfl, _, hd6⟩
        have H6 : Hid (Below w2.heap.size w2 w6) := H5.out.trans (hd6.below _)
        have HI6 := Lib.hid (HI.out.dr hd6)
        clear hd6 H5 HI
        go_wp2_with fail
        refine (CX.out _ _ _ _ (HX.out.fresh H6.out)).mono ?_
        rintro e w7 ⟨q2, rfl, _, hd7⟩
        rw [HRAD.out]
        have H7 : Hid (Below w2.heap.size w2 w7) := H6.out.trans (hd7.below _)
        have HI7 := Lib.hid (HI6.out.dr hd7)
        clear hd7 H6 HI6
        have HX7 := Lib.hid (HX.out.fresh H7.out)
        have HD7 := Lib.hid (below_chain H12.out H7.out)
        have HE7 := Lib.hid (HD.out.fresh HD7.out)
        have K7 : Hid (Below w7.heap.size w7 w7) := Below.refl _ _
        go_wp2_with fail
        refine (CSX.out _ _ _ _ (HX7.out.fresh K7.out)).mono ?_
        rintro e w8 ⟨rfl, hd_w8⟩
        have K8 : Hid (Below w7.heap.size w7 w8) := below_chain K7.out hd_w8
        clear hd_w8 K7
        go_wp2_with fail
        refine (CWX.out _ _ _ _ (HX7.out.fresh K8.out)).mono ?_
        rintro e w9 ⟨rfl, hd_w9⟩
        have K9 : Hid (Below w7.heap.size w7 w9) := below_chain K8.out hd_w9
        clear hd_w9 K8
        go_wp2_with fail
        refine (CWD.out _ (below_chain HD7.out K9.out)).mono ?_
        rintro e w10 ⟨rfl, hd_w10⟩
        have K10 : Hid (Below w7.heap.size w7 w10) := below_chain K9.out hd_w10
        clear hd_w10 K9
        have hown := HI7.out.fresh K10.out
        have HCO := Lib.hid (CO.out _ _ _ _ hown (below_chain HD7.out K10.out))
        clear hown
        have e1 : (radF d == radF d) = true := by simp
        have e2 : (wd == wd) = true := by simp
        go_wp2_with fail
        refine HCO.out.mono ?_
        rintro e w11 ⟨vo, rfl, ho, hb11⟩
        have cq := gives_of_quiet (sameRows_any _ _ _ _ _ ho.inn ((HE7.out.fresh K10.out).fresh hb11).inn)
        rw [sameMB_yes rfl] at cq
        have K11 := Lib.hid (below_chain K10.out hb11)
        obtain ⟨xo, xc2, rfl, -⟩ := id ho.inn
        have CQ := Lib.hid <| cq
        clear cq ho hb11 K10 HCO
        go_wp2_with fail
        refine (CQ.out).mono ?_
        rintro e w12 ⟨rfl, hd_w12⟩
        have K12 : Hid (Below w7.heap.size w7 w12) := below_chain K11.out hd_w12
        clear hd_w12 K11
        go_wp2
        go_ret
        exact ⟨rfl, below_chain (Lib.hid (below_chain HB2.out H7.out)).out K12.out⟩
  · rw [odV_no hok] at ci cs
    have CI := Lib.hid <| ci
    have CS := Lib.hid <| cs
    clear ci cs hok hd hf hb hd6 hf7
    go_wp2_with fail
    refine (CI.out w1 H1.out).mono ?_
    rintro e w2 ⟨vg, rfl, hg, hb2⟩
    obtain ⟨fo, fc2, rfl, _⟩ := id hg.inn
    have HG := Lib.hid hg
    have H12 := Lib.hid hb2
    have HB2 := Lib.hid (below_chain HB.out hb2)
    clear hg hb2
    go_wp2_with fail
    refine (CS.out w2 H12.out).mono ?_
    rintro e w3 ⟨vh, rfl, hh, hb3⟩
    have cq := gives_of_quiet (sameRows_any _ _ _ _ _ (HG.out.inn.keep hb3) hh.inn)
    rw [sameMB_yes rfl] at cq
    have CQ := Lib.hid <| cq
    have H3 := Lib.hid hb3
    clear cq hh hb3
    go_wp2_with fail
    refine (CQ.out).mono ?_
    rintro e w4 ⟨rfl, hd_w4⟩
    have H4 : Hid (Below w2.heap.size w2 w4) := below_chain H3.out hd_w4
    clear hd_w4 H3
    go_wp2_with fail
    refine (alive_any _).mono ?_
    rintro e w6 ⟨rfl, hd_w6⟩
    have H6 : Hid (Below w2.heap.size w2 w6) := below_chain H4.out hd_w6
    clear hd_w6 H4
    go_wp2
    go_ret
    exact ⟨rfl, below_chain HB2.out H6.out⟩

set_option maxRecDepth 100000 in
theorem lifted (os : Os) (started : os.Started) (H : Type) (enc : TypeId × Value → H) :
    ReturnsInHanded {} Try.checked os 6 .any (Rows.fnOrderedSpec.pre6 enc Try.prog Try.f6 Rows.fnOrderedRow.domain false) (Rows.fnOrderedSpec.post enc Try.prog Try.f6 false true false false) := by
  refine returnsInHanded_of_change (C := Try.checked) own_knob started (by kernel_rfl) Try.func6
    (ChangeSpec.witness6 (enc := enc) (C := Try.checked) false ⟨#[], #[.slice none 0 0], []⟩ 8 (by kernel_rfl) (by kernel_rfl) (by kernel_rfl) (by kernel_rfl)) ?_
  intro W base args ds gs before hval0 hW hcnd _
  have hval : ∀ (j : Nat) t v, Try.f6.params[j]? = some t → args[j]? = some v → Value.okWide Try.prog W .any base t v := hval0
  have hW' := hW
  obtain ⟨p, q, hA0, hV, rfl, hfz, hnd⟩ := hW
  have hA : DataW.TrodAll enc Try.prog W 0 (fun _ => true) true Try.f6.params.toList args.toList ds p := hA0
  rw [Try.params6] at hA hval
  obtain ⟨v0, vs0, e0, es0, p0, q0, hargs, rfl, rfl, h0, r0⟩ := trodAll_cons hA
  obtain ⟨rfl, rfl, rfl⟩ := trodAll_nil r0
  obtain rfl : args = #[v0] := by cases args; simp_all
  obtain ⟨rfl, rfl⟩ := trodVars_none hV
  obtain ⟨a0, len0, cap0, rfl⟩ := okWide_slice Try.underlying26 (hval 0 26 v0 rfl rfl)
  have k0 := h0
  have lt0 : ∀ x ∈ p0, x.block < W.heap.size := by obtain ⟨m, hm⟩ := k0; exact DataW.trod_lt m _ _ _ hm
  obtain ⟨z0, y0⟩ := open_bytes h0
  clear hA0 hval0
  refine (walk_all W _ z0 y0).mono fun e W' ⟨he, bel⟩ => ?_
  subst he
  exact ⟨_, rfl, _, _, _, [], _, [], hW', trodAll_mk1 (shut_bool Try.underlying4 _), (trodAll_cons_mk (Below.trod laid_out (by kernel_rfl) (of_decide_eq_true (by kernel_rfl)) k0 bel lt0) trodAll_mk0), rfl, bel.frame _, fun h => by cases h⟩

theorem over : Rows.fnOrderedRow.holds Try.pinned (OpenSpec.ofChange Rows.fnOrderedSpec) :=
  OpenClaim.holds_of_wide 6 Try.f6 rfl rfl rfl rfl rfl rfl rfl ⟨rfl, rfl, rfl, rfl, rfl⟩ rfl rfl rfl rfl rfl (by kernel_rfl) Try.func6 (by kernel_rfl)
    (of_decide_eq_true (by kernel_rfl)) (by unfold Func.isWrapper; first | (rw [if_pos (by decide +kernel)]; kernel_rfl) | (rw [if_neg (by decide +kernel)]; exact ⟨rfl, rfl⟩))
    (fun os started H enc _ => lifted os started H enc)

end fnOrdered
theorem fnOrdered_holds : Rows.FnOrderedSaid := fnOrdered.over
#print axioms fnOrdered_holds
end Go.Proofs.Ytknnelenmedonaa

