/- The law FnHighestOf: for every code it returns true. Conditions: none. -/
import Derived.Test.YtapllhnlngnobaaDrawK
import Derived.Test.YtapllhnlngnobaaHiLo
import Derived.Test.YtapllhnlngnobaaTame
import Derived.Test.YtapllhnlngnobaaFnPlain3
import Derived.Test.YtapllhnlngnobaaBKeep
import Derived.Test.YtapllhnlngnobaaSame
import Derived.Test.YtapllhnlngnobaaLawFn
import Derived.Test.YtapllhnlngnobaaOpenB
import Derived.Test.YtapllhnlngnobaaRows
namespace Go.Proofs.Ytapllhnlngnobaa
set_option linter.unusedVariables false
set_option linter.unusedSimpArgs false
namespace fnHighestOf
open Go.ChangeShapes Go.WideShapes Go.ChangeAt Go.RowKit Go.Deep

def FitK (d : List (List Int)) (kn f h : List Int) (t : Bool) (k : Nat) : Prop := t = true → Tame d h ∧ ∀ j, j < k → iat kn j = 1 → iat h j = iat f j
theorem FitK.fell {d : List (List Int)} {kn f h : List Int} {k : Nat} : FitK d kn f h false k := fun e => by simp at e
theorem FitK.skip {d : List (List Int)} {kn f h : List Int} {t : Bool} {k : Nat} (hf : FitK d kn f h t k) (hk : iat kn k = 0) : FitK d kn f h t (k + 1) := fun ht => by
  obtain ⟨h1, h2⟩ := hf ht
  refine ⟨h1, fun j hj hj1 => ?_⟩
  by_cases e : j = k
  · subst e; omega
  · exact h2 j (by omega) hj1
theorem FitK.test {d : List (List Int)} {kn f h : List Int} {k : Nat} (hf : FitK d kn f h true k) : FitK d kn f h (iat h k == iat f k) (k + 1) := fun ht => by
  obtain ⟨h1, h2⟩ := hf rfl
  refine ⟨h1, fun j hj hj1 => ?_⟩
  by_cases e : j = k
  · subst e; simpa using ht
  · exact h2 j (by omega) hj1

set_option maxRecDepth 100000 in
set_option maxHeartbeats 8000000 in
theorem walk_all (w : World) (v0 : Value) (n0 : Nat) (v1 : Value) (n1 : Nat) (h0 : BIn w v0 n0) (h1 : BIn w v1 n1) :
    Calls Try.prog 14 #[v0, v1] w fun e w' => e = .returned (.bool true) ∧ Below w.heap.size w w' := by
  obtain ⟨ao, cap, rfl, hn1, hn2, _⟩ := id h0
  obtain ⟨bo, bcap, rfl, hm1, hm2, _⟩ := id h1
  rw [maxLen_val] at hn2 hm2
  have hN : n0 ≤ 9223372036854775807 := by omega
  have hN1 : n1 ≤ 9223372036854775807 := by omega
  have H0 := Lib.hid h0
  have H0b := Lib.hid h1
  clear h0 h1 hn1 hn2 hm1 hm2
  by_cases hlong_n0 : n0 ≤ 1048576
  rotate_left
  · clear H0 H0b
    go_enter Try.func14, Try.ntmps14
    go_wp2
    go_ret
    exact ⟨rfl, Below.refl _ _⟩
  by_cases hlong_n1 : n1 ≤ 1048576
  rotate_left
  · clear H0 H0b
    go_enter Try.func14, Try.ntmps14
    go_wp2
    go_ret
    exact ⟨rfl, Below.refl _ _⟩
  go_enter Try.func14, Try.ntmps14
  go_wp2_with fail
  refine (drawHighestOf_any _ _ _ H0.out).mono ?_
  rintro e w1 ⟨vd, vk, vf, d, kn, f, rfl, hd, hkn, hf, hdn, hvk, hkl, hvf, hfl, hb⟩
  clear H0 hlong_n0 hlong_n1
  have H1 : Hid (Below w1.heap.size w1 w1) := Below.refl _ _
  have hd6 := hdn.six
  have HB := Lib.hid hb
  have HN1 := Lib.hid (H0b.out.keep hb)
  clear H0b
  by_cases hok : Known d kn f
  · have hone := hok.sp.one
    have hl := hok.fl
    have hkl' := hok.kl
    obtain ⟨fb, fc, rfl, _⟩ := id hf.open
    obtain ⟨kb, kc, rfl, _⟩ := id hkn.open
    obtain ⟨db, dc, _, _, rfl, _⟩ := id hd.open
    rw [hl] at hf ⊢
    rw [hkl'] at hkn ⊢
    have HD := Lib.hid hd
    have HF := Lib.hid hf
    have HK := Lib.hid hkn
    have HL := Lib.hid hl
    have HKL := Lib.hid hkl'
    have HHN := Lib.hid (hi_len hok)
    have hat : ∀ k, k < d.length → (iat kn k = 1 ∧ iat (hiV d kn f) k = iat f k) ∨ iat kn k = 0 := by
      intro k hk
      rcases hok.each k hk with ⟨a, _⟩ | ⟨a, _⟩
      · exact Or.inl ⟨a, by rw [hi_at hok hk]; exact hi_known hok hk a⟩
      · exact Or.inr a
    have hbel : ∀ h, FitK d kn f h true d.length → ∀ k, k < d.length → iat h k ≤ iat (hiV d kn f) k := fun h hfit k hk => below_hi hok (hfit rfl).1 (fun j hj hj1 => (hfit rfl).2 j hj hj1) hk
    have ci : ∀ (w' : World), Below w1.heap.size w1 w' → Calls Try.prog 58 #[.slice (some ⟨db, 0, none⟩) d.length dc, .slice (some ⟨kb, 0, none⟩) d.length kc, .slice (some ⟨fb, 0, none⟩) d.length fc] w' (GivesI (hiV d kn f) w') := fun w' hb => implHighestOf_any _ _ _ _ _ _ _ _ _ _ _ _ _ (HD.out.fresh hb) (HK.out.fresh hb) (HF.out.fresh hb)
    have cs : ∀ (w' : World), Below w1.heap.size w1 w' → Calls Try.prog 59 #[.slice (some ⟨db, 0, none⟩) d.length dc, .slice (some ⟨kb, 0, none⟩) d.length kc, .slice (some ⟨fb, 0, none⟩) d.length fc] w' (GivesI (hiV d kn f) w') := fun w' hb => specHighestOf_any _ _ _ _ _ _ _ _ _ _ _ _ _ (HD.out.fresh hb) (HK.out.fresh hb) (HF.out.fresh hb)
    have ct : ∀ (w' : World) (lo hi : Nat) (v : Value), IMem lo hi w' v (hiV d kn f) → Below w1.heap.size w1 w' → Calls Try.prog 22 #[.slice (some ⟨db, 0, none⟩) d.length dc, v] w' (Gives (.bool true) w') := fun w' lo hi v hv hb => by
      have := gives_of_quiet (implTameOk_any _ _ _ _ _ _ _ _ _ (HD.out.fresh hb) hv)
      rwa [decP_yes (tame_hi hok)] at this
    have cu : ∀ (w' : World) (lo hi : Nat) (v : Value) (h : List Int), IMem lo hi w' v h → Below w1.heap.size w1 w' → Calls Try.prog 22 #[.slice (some ⟨db, 0, none⟩) d.length dc, v] w' (Gives (.bool (decP (Tame d h))) w') := fun w' lo hi v h hv hb => gives_of_quiet (implTameOk_any _ _ _ _ _ _ _ _ _ (HD.out.fresh hb) hv)
    have CI := Lib.hid <| ci
    have CS := Lib.hid <| cs
    have CT := Lib.hid <| ct
    have CU := Lib.hid <| cu
    have HAT := Lib.hid <| hat
    have HBEL := Lib.hid <| hbel
    clear ci cs ct cu hat hbel hd hf hkn hb hok hdn hvf hvk hl hkl' hkl hfl
    generalize hiV d kn f = g at *
    go_wp2_with fail
    refine (CI.out w1 H1.out).mono ?_
    rintro e w2 ⟨vg, rfl, hgv, hb2⟩
    have hgv := hgv.mem (ne_nil_of HHN.out hone)
    obtain ⟨gb, gc, rfl, _⟩ := id hgv.open
    rw [HHN.out] at hgv ⊢
    have HG := Lib.hid hgv
    have H2 := Lib.hid hb2
    clear hgv hb2
    go_wp2_with fail
    refine (CS.out w2 H2.out).mono ?_
    rintro e w3 ⟨vh, rfl, hh, hb3⟩
    have cq := gives_of_quiet (sameInts_any _ _ _ _ _ (HG.out.fresh hb3).inn hh.inn)
    rw [sameB_yes rfl] at cq
    have cq' : Calls Try.prog 20 #[.slice (some ⟨gb, 0, none⟩) d.length gc, vh] w3 (Gives (.bool true) w3) := cq
    have CQ := Lib.hid <| cq'
    have H3 := Lib.hid hb3
    clear cq cq' hh hb3
    go_wp2_with fail
    refine (CQ.out).mono ?_
    rintro e w4 ⟨rfl, hd_w4⟩
    have H4 : Hid (Below w2.heap.size w2 w4) := below_chain H3.out hd_w4
    clear hd_w4 H3
    have hfn : ((d.length : Int) == 0) = false := by simpa using (show d.length ≠ 0 by omega)
    go_wp2_with fail
    refine (drawTameOk_any _ _ _ (HN1.out.keep (below_chain H2.out H4.out))).mono ?_
    rintro e w5 ⟨vd2, vh, d2, h, rfl, _, hh, _, _, hhl, hb5⟩
    obtain ⟨hb_, hc, rfl, _⟩ := id hh.open
    have HH := Lib.hid hh
    have HG5 := Lib.hid (HG.out.fresh (below_chain H4.out hb5))
    have HK5 := Lib.hid (HK.out.fresh (below_chain H2.out (below_chain H4.out hb5)))
    have HF5 := Lib.hid (HF.out.fresh (below_chain H2.out (below_chain H4.out hb5)))
    have H15 := Lib.hid (below_chain H2.out (below_chain H4.out hb5))
    have H5 : Hid (Below w5.heap.size w5 w5) := Below.refl _ _
    clear hh hb5 H4 H2 HG HK HF CQ CI CS HN1
    go_wp2_with fail
    refine (CU.out _ _ _ _ _ (HH.out.fresh H5.out) (below_chain H15.out H5.out)).mono ?_
    rintro e w6 ⟨rfl, hd_w6⟩
    have H6 : Hid (Below w5.heap.size w5 w6) := below_chain H5.out hd_w6
    clear hd_w6 H5
    have HFIT : Hid (FitK d kn f h (decP (Tame d h)) 0) := fun ht => ⟨decP_iff.1 ht, fun j hj => by omega⟩
    generalize decP (Tame d h) = t0 at *
    go_wp2
    go_loopw [11, 12] (fun bv kv wr => ∃ (k : Nat) (t : Bool), k ≤ d.length ∧ kv = .int .i64 k ∧ bv = .bool t ∧ Hid (FitK d kn f h t k) ∧ Hid (Below w5.heap.size w5 wr)) (fun _ kv _ => d.length - (intOf kv).toNat)
    case atStart => exact ⟨0, t0, Nat.zero_le _, rfl, rfl, HFIT, H6⟩
    case round =>
      clear H6 HFIT
      obtain ⟨k, t, hk, rfl, rfl, HFIT, H5⟩ := hrel
      by_cases hkl : k < d.length
      · have hki : (k : Int) < (d.length : Int) := by omega
        have c1 := (HG5.out.fresh H5.out).cellAt (i := k) (by rw [HHN.out]; exact hkl)
        have c4 := (HK5.out.fresh H5.out).cellAt (i := k) (by rw [HKL.out]; exact hkl)
        have c5 := (HF5.out.fresh H5.out).cellAt (i := k) (by rw [HL.out]; exact hkl)
        rcases HAT.out k hkl with ⟨hk1, hgf⟩ | hk0
        · have e4 : (iat kn k == 1) = true := by simpa using hk1
          have e5 : (iat g k != iat f k) = false := by simpa using hgf
          have e6 : (iat kn k == 0) = false := by rw [hk1]; rfl
          clear hk1 hgf
          cases t
          · go_wp2_with fail
            go_quiet (fail)
            have H7 := Lib.hid (below_drewN H5.out nq)
            have HW : Hid (wr.drewN nq = wr.drewN nq) := rfl
            clear c1 c4 c5 e4 e5 e6 HFIT H5
            generalize wr.drewN nq = wd at *
            go_wp2_with fail
            go_quiet (fail)
            go_wp2
            go_roundw
            case rel => exact ⟨k + 1, false, by omega, by go_num, rfl, FitK.fell, below_drewN H7.out _⟩
            case measure => simp [intOf]; omega
          · have hhl2 : h.length = d.length := (HFIT.out rfl).1.vals.len
            have c6 := (HH.out.fresh H5.out).cellAt (i := k) (by omega)
            have hkh : (k : Int) < (h.length : Int) := by omega
            go_wp2_with fail
            go_quiet (fail)
            have H7 := Lib.hid (below_drewN H5.out nq)
            have c4' : (wr.drewN nq).cell? ⟨kb, k, none⟩ = some (.int .i64 (iat kn k)) := c4
            have c5' : (wr.drewN nq).cell? ⟨fb, k, none⟩ = some (.int .i64 (iat f k)) := c5
            have c6' : (wr.drewN nq).cell? ⟨hb_, k, none⟩ = some (.int .i64 (iat h k)) := c6
            have HF2 := Lib.hid HFIT.out.test
            clear c1 c4 c5 c6 e5 HFIT H5
            generalize wr.drewN nq = wd at *
            go_wp2_with fail
            go_quiet (fail)
            clear c4' c5' c6' e4 e6
            go_wp2
            go_roundw
            case rel => exact ⟨k + 1, _, by omega, by go_num, rfl, HF2, below_drewN H7.out _⟩
            case measure => simp [intOf]; omega
        · have e4 : (iat kn k == 1) = false := by rw [hk0]; rfl
          have e6 : (iat kn k == 0) = true := by rw [hk0]; rfl
          have HF2 := Lib.hid (HFIT.out.skip hk0)
          clear hk0
          go_wp2_with fail
          go_quiet (fail)
          have H7 := Lib.hid (below_drewN H5.out nq)
          have c4' : (wr.drewN nq).cell? ⟨kb, k, none⟩ = some (.int .i64 (iat kn k)) := c4
          clear c1 c4 c5 e4 HFIT H5
          generalize wr.drewN nq = wd at *
          cases t
          · go_wp2_with fail
            go_quiet (fail)
            clear c4' e6
            go_wp2
            go_roundw
            case rel => exact ⟨k + 1, false, by omega, by go_num, rfl, HF2, below_drewN H7.out _⟩
            case measure => simp [intOf]; omega
          · go_wp2_with fail
            go_quiet (fail)
            clear c4' e6
            go_wp2
            go_roundw
            case rel => exact ⟨k + 1, true, by omega, by go_num, rfl, HF2, below_drewN H7.out _⟩
            case measure => simp [intOf]; omega
      · have hke : k = d.length := by omega
        subst hke
        cases t
        · go_wp2
          go_loopw [13] (fun kv wr => ∃ k : Nat, k ≤ d.length ∧ kv = .int .i64 k ∧ Hid (Below w5.heap.size w5 wr)) (fun kv _ => d.length - (intOf kv).toNat)
          case atStart => exact ⟨0, Nat.zero_le _, rfl, H5⟩
          case round =>
            clear H5
            obtain ⟨k, hk, rfl, H5⟩ := hrel
            by_cases hkl : k < d.length
            · go_wp2_with fail
              refine (CT.out _ _ _ _ (HG5.out.fresh H5.out) (below_chain H15.out H5.out)).mono ?_
              rintro e w8 ⟨rfl, hd_w8⟩
              have H8 : Hid (Below w5.heap.size w5 w8) := below_chain H5.out hd_w8
              clear hd_w8 H5
              go_wp2
              go_ret
              exact ⟨rfl, below_chain (Lib.hid (below_chain HB.out H15.out)).out H8.out⟩
            · go_wp2_with fail
              refine (CT.out _ _ _ _ (HG5.out.fresh H5.out) (below_chain H15.out H5.out)).mono ?_
              rintro e w8 ⟨rfl, hd_w8⟩
              have H8 : Hid (Below w5.heap.size w5 w8) := below_chain H5.out hd_w8
              clear hd_w8 H5
              go_wp2
              go_ret
              exact ⟨rfl, below_chain (Lib.hid (below_chain HB.out H15.out)).out H8.out⟩
        · have hhl2 : h.length = d.length := (HFIT.out rfl).1.vals.len
          have HLE := Lib.hid (HBEL.out h HFIT.out)
          go_wp2
          go_loopw [13] (fun kv wr => ∃ k : Nat, k ≤ d.length ∧ kv = .int .i64 k ∧ Hid (Below w5.heap.size w5 wr)) (fun kv _ => d.length - (intOf kv).toNat)
          case atStart => exact ⟨0, Nat.zero_le _, rfl, H5⟩
          case round =>
            clear H5
            obtain ⟨k, hk, rfl, H5⟩ := hrel
            by_cases hkl : k < d.length
            · have hki : (k : Int) < (d.length : Int) := by omega
              have hkh : (k : Int) < (h.length : Int) := by omega
              have c1 := (HG5.out.fresh H5.out).cellAt (i := k) (by rw [HHN.out]; exact hkl)
              have c6 := (HH.out.fresh H5.out).cellAt (i := k) (by omega)
              have e1 : decide (iat g k < iat h k) = false := by have := HLE.out k hkl; simpa using this
              go_wp2_with fail
              go_quiet (fail)
              clear c1 c6 e1
              go_wp2
              go_roundw
              case rel => exact ⟨k + 1, by omega, by go_num, below_drewN H5.out _⟩
              case measure => simp [intOf]; omega
            · go_wp2_with fail
              refine (CT.out _ _ _ _ (HG5.out.fresh H5.out) (below_chain H15.out H5.out)).mono ?_
              rintro e w8 ⟨rfl, hd_w8⟩
              have H8 : Hid (Below w5.heap.size w5 w8) := below_chain H5.out hd_w8
              clear hd_w8 H5
              go_wp2
              go_ret
              exact ⟨rfl, below_chain (Lib.hid (below_chain HB.out H15.out)).out H8.out⟩
  · have ci := implHighestOf_any _ _ _ _ _ _ _ _ _ _ _ _ _ hd hkn hf
    have cs : ∀ (w' : World), Below w1.heap.size w1 w' → Calls Try.prog 59 #[vd, vk, vf] w' (GivesI (hiV d kn f) w') := fun w' hb => specHighestOf_any _ _ _ _ _ _ _ _ _ _ _ _ _ (hd.fresh hb) (hkn.fresh hb) (hf.fresh hb)
    have cc : ∀ (w' : World), Below w1.heap.size w1 w' → Calls Try.prog 35 #[vd, vk, vf] w' (Gives (.bool false) w') := fun w' hb => by
      have := gives_of_quiet (implKnownOk_any _ _ _ _ _ _ _ _ _ _ _ _ _ (hd.fresh hb) (hkn.fresh hb) (hf.fresh hb))
      rwa [decP_no hok] at this
    rw [hiV_no hok] at ci cs
    have CI := Lib.hid <| ci
    have CS := Lib.hid <| cs
    have CC := Lib.hid <| cc
    clear ci cs cc hok hd hf hkn hdn hb hd6 hvf hvk
    go_wp2_with fail
    refine CI.out.mono ?_
    rintro e w2 ⟨vg, rfl, hg, hb2⟩
    obtain ⟨fo, fc, rfl, _⟩ := id hg.inn
    have HG := Lib.hid hg
    have H12 := Lib.hid hb2
    have HB2 := Lib.hid (below_chain HB.out hb2)
    clear hg hb2
    go_wp2_with fail
    refine (CS.out w2 H12.out).mono ?_
    rintro e w3 ⟨vh, rfl, hh, hb3⟩
    have cq := gives_of_quiet (sameInts_any _ _ _ _ _ (HG.out.inn.keep hb3) hh.inn)
    rw [sameB_yes rfl] at cq
    have CQ := Lib.hid <| cq
    have H3 := Lib.hid hb3
    clear cq hh hb3
    go_wp2_with fail
    refine (CQ.out).mono ?_
    rintro e w4 ⟨rfl, hd_w4⟩
    have H4 : Hid (Below w2.heap.size w2 w4) := below_chain H3.out hd_w4
    clear hd_w4 H3
    go_wp2_with fail
    refine (CC.out _ (below_chain H12.out H4.out)).mono ?_
    rintro e w5 ⟨rfl, hd_w5⟩
    have H5 : Hid (Below w2.heap.size w2 w5) := below_chain H4.out hd_w5
    clear hd_w5 H4
    go_wp2_with fail
    refine (alive_any _).mono ?_
    rintro e w6 ⟨rfl, hd_w6⟩
    have H6 : Hid (Below w2.heap.size w2 w6) := below_chain H5.out hd_w6
    clear hd_w6 H5
    go_wp2
    go_ret
    exact ⟨rfl, below_chain HB2.out H6.out⟩

set_option maxRecDepth 100000 in
theorem lifted (os : Os) (started : os.Started) (H : Type) (enc : TypeId × Value → H) :
    ReturnsInHanded {} Try.checked os 14 .any (Rows.fnHighestOfSpec.pre6 enc Try.prog Try.f14 Rows.fnHighestOfRow.domain false) (Rows.fnHighestOfSpec.post enc Try.prog Try.f14 false true false false) := by
  refine returnsInHanded_of_change (C := Try.checked) own_knob started (by kernel_rfl) Try.func14
    (ChangeSpec.witness6 (enc := enc) (C := Try.checked) false ⟨#[], #[.slice none 0 0, .slice none 0 0], []⟩ 8 (by kernel_rfl) (by kernel_rfl) (by kernel_rfl) (by kernel_rfl)) ?_
  intro W base args ds gs before hval0 hW hcnd _
  have hval : ∀ (j : Nat) t v, Try.f14.params[j]? = some t → args[j]? = some v → Value.okWide Try.prog W .any base t v := hval0
  have hW' := hW
  obtain ⟨p, q, hA0, hV, rfl, hfz, hnd⟩ := hW
  have hA : DataW.TrodAll enc Try.prog W 0 (fun _ => true) true Try.f14.params.toList args.toList ds p := hA0
  rw [Try.params14] at hA hval
  obtain ⟨v0, vs0, e0, es0, p0, q0, hargs, rfl, rfl, h0, r0⟩ := trodAll_cons hA
  obtain ⟨v1, vs1, e1, es1, p1, q1, rfl, rfl, rfl, h1, r1⟩ := trodAll_cons r0
  obtain ⟨rfl, rfl, rfl⟩ := trodAll_nil r1
  obtain rfl : args = #[v0, v1] := by cases args; simp_all
  obtain ⟨rfl, rfl⟩ := trodVars_none hV
  obtain ⟨a0, len0, cap0, rfl⟩ := okWide_slice Try.underlying22 (hval 0 22 v0 rfl rfl)
  have k0 := h0
  have lt0 : ∀ x ∈ p0, x.block < W.heap.size := by obtain ⟨m, hm⟩ := k0; exact DataW.trod_lt m _ _ _ hm
  obtain ⟨z0, y0⟩ := open_bytes h0
  obtain ⟨a1, len1, cap1, rfl⟩ := okWide_slice Try.underlying22 (hval 1 22 v1 rfl rfl)
  have k1 := h1
  have lt1 : ∀ x ∈ p1, x.block < W.heap.size := by obtain ⟨m, hm⟩ := k1; exact DataW.trod_lt m _ _ _ hm
  obtain ⟨z1, y1⟩ := open_bytes h1
  clear hA0 hval0
  refine (walk_all W _ z0 _ z1 y0 y1).mono fun e W' ⟨he, bel⟩ => ?_
  subst he
  exact ⟨_, rfl, _, _, _, [], _, [], hW', trodAll_mk1 (shut_bool Try.underlying4 _), (trodAll_cons_mk (Below.trod laid_out (by kernel_rfl) (of_decide_eq_true (by kernel_rfl)) k0 bel lt0) (trodAll_cons_mk (Below.trod laid_out (by kernel_rfl) (of_decide_eq_true (by kernel_rfl)) k1 bel lt1) trodAll_mk0)), rfl, bel.frame _, fun h => by cases h⟩

theorem over : Rows.fnHighestOfRow.holds Try.pinned (OpenSpec.ofChange Rows.fnHighestOfSpec) :=
  OpenClaim.holds_of_wide 14 Try.f14 rfl rfl rfl rfl rfl rfl rfl ⟨rfl, rfl, rfl, rfl, rfl⟩ rfl rfl rfl rfl rfl (by kernel_rfl) Try.func14 (by kernel_rfl)
    (of_decide_eq_true (by kernel_rfl)) (by unfold Func.isWrapper; first | (rw [if_pos (by decide +kernel)]; kernel_rfl) | (rw [if_neg (by decide +kernel)]; exact ⟨rfl, rfl⟩))
    (fun os started H enc _ => lifted os started H enc)

end fnHighestOf
theorem fnHighestOf_holds : Rows.FnHighestOfSaid := fnHighestOf.over
#print axioms fnHighestOf_holds
end Go.Proofs.Ytapllhnlngnobaa

