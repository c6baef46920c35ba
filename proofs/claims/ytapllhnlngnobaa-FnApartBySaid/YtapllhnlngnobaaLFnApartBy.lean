/- The law FnApartBy: for every code it returns true. Conditions: none. -/
import Derived.Test.YtapllhnlngnobaaDrawX
import Derived.Test.YtapllhnlngnobaaApart
import Derived.Test.YtapllhnlngnobaaSame
import Derived.Test.YtapllhnlngnobaaLawFn
import Derived.Test.YtapllhnlngnobaaOpenB
import Derived.Test.YtapllhnlngnobaaRows
namespace Go.Proofs.Ytapllhnlngnobaa
set_option linter.unusedVariables false
set_option linter.unusedSimpArgs false
namespace fnApartBy
open Go.ChangeShapes Go.WideShapes Go.ChangeAt Go.RowKit Go.Deep

theorem ok_comm {f g : List Int} (h : ApOk f g) : ApOk g f := ⟨h.len.symm, by rw [← h.len]; exact h.one, by rw [← h.len]; exact h.six, fun i hi => h.gin i (by rw [h.len]; exact hi), fun i hi => h.fin i (by rw [h.len]; exact hi)⟩
theorem comm (f g : List Int) : apartV g f = apartV f g := by
  by_cases h : ApOk f g
  · rw [apartV_yes h, apartV_yes (ok_comm h), ← h.len]
    exact maxN_congr fun i _ => by simp only [apartAt]; omega
  · rw [apartV_no h, apartV_no (fun k => h (ok_comm k))]
theorem zero {f g : List Int} (h : ApOk f g) : sameB f g = (apartV f g == 0) := by
  rw [apartV_yes h]
  by_cases e : f = g
  · subst e
    rw [sameB_yes rfl]
    have h1 : apartF f f f.length ≤ 0 := maxN_le (by omega) fun i _ => by simp only [apartAt]; omega
    have h2 := (apartF_bound h (Nat.le_refl _)).1
    have : apartF f f f.length = 0 := by omega
    simp [this]
  · rw [sameB_no e]
    have : apartF f g f.length ≠ 0 := by
      intro h0
      refine e (ext_iat h.len fun i hi => ?_)
      have : apartAt f g i ≤ apartF f g f.length := maxN_ge hi
      simp only [apartAt] at this
      omega
    simp [this]
theorem zeros_ok {f g : List Int} (h : ApOk f g) : ApOk f (List.replicate f.length 0) ∧ ApOk (List.replicate f.length 0) g := by
  have z : ∀ i, iat (List.replicate f.length 0) i = 0 := iat_zeros f.length
  refine ⟨⟨by simp, h.one, h.six, h.fin, fun i _ => by rw [z]; omega⟩, ⟨by simp [h.len], by simpa using h.one, by simpa using h.six, fun i _ => by rw [z]; omega, fun i hi => h.gin i (by simpa using hi)⟩⟩
theorem tri {f g : List Int} (h : ApOk f g) : apartV f g ≤ apartV f (List.replicate f.length 0) + apartV (List.replicate f.length 0) g := by
  obtain ⟨h1, h2⟩ := zeros_ok h
  rw [apartV_yes h, apartV_yes h1, apartV_yes h2, List.length_replicate]
  have b1 := (apartF_bound h1 (Nat.le_refl _)).1
  have b2 := (apartF_bound h2 (Nat.le_refl _)).1
  rw [List.length_replicate] at b2
  refine maxN_le (by omega) fun i hi => ?_
  have k1 : apartAt f (List.replicate f.length 0) i ≤ apartF f (List.replicate f.length 0) f.length := maxN_ge hi
  have k2 : apartAt (List.replicate f.length 0) g i ≤ apartF (List.replicate f.length 0) g f.length := maxN_ge hi
  simp only [apartAt, iat_zeros] at k1 k2 ⊢
  omega
theorem bd (f g : List Int) : -1 ≤ apartV f g ∧ apartV f g ≤ 400 := by
  by_cases h : ApOk f g
  · rw [apartV_yes h]
    have := apartF_bound h (Nat.le_refl _)
    omega
  · rw [apartV_no h]; omega

set_option maxHeartbeats 4000000 in
theorem walk_all (w : World) (v0 : Value) (n0 : Nat) (h0 : BIn w v0 n0) :
    Calls Try.prog 3 #[v0] w fun e w' => e = .returned (.bool true) ∧ Below w.heap.size w w' := by
  obtain ⟨ao, cap, rfl, hn1, hn2, _⟩ := id h0
  rw [maxLen_val] at hn2
  have hN : n0 ≤ 9223372036854775807 := by omega
  have H0 := Lib.hid <| h0
  clear h0 hn1 hn2
  by_cases hlong : n0 ≤ 1048576
  · go_enter Try.func3, Try.ntmps3
    go_wp2_with fail
    refine (drawApartBy_any _ _ _ H0.out).mono ?_
    rintro e w1 ⟨vf, vg, f, g, rfl, hf, hg, hvf, hfl, hvg, hgl, hb⟩
    obtain ⟨fb, fc, rfl, _⟩ := id hf.open
    have HF := Lib.hid hf
    have HG := Lib.hid hg
    have HB := Lib.hid hb
    clear hf hg hb hvf hvg H0
    have H1 : Hid (Below w1.heap.size w1 w1) := Below.refl _ _
    have ci : ∀ w', Below w1.heap.size w1 w' → Calls Try.prog 17 #[.slice (some ⟨fb, 0, none⟩) f.length fc, vg] w' (Gives (.int .i64 (apartV f g)) w') := fun w' hb => gives_of_quiet (implApartBy_any _ _ _ _ _ (HF.out.fresh hb).inn (HG.out.fresh hb).inn)
    have cs : ∀ w', Below w1.heap.size w1 w' → Calls Try.prog 18 #[.slice (some ⟨fb, 0, none⟩) f.length fc, vg] w' (Gives (.int .i64 (apartV f g)) w') := fun w' hb => gives_of_quiet (specApartBy_any _ _ _ _ _ (HF.out.fresh hb).inn (HG.out.fresh hb).inn)
    by_cases hok : ApOk f g
    · have cj : ∀ w', Below w1.heap.size w1 w' → Calls Try.prog 17 #[vg, .slice (some ⟨fb, 0, none⟩) f.length fc] w' (Gives (.int .i64 (apartV f g)) w') := fun w' hb => by
        have := gives_of_quiet (implApartBy_any _ _ _ _ _ (HG.out.fresh hb).inn (HF.out.fresh hb).inn)
        rwa [comm] at this
      have cq : ∀ w', Below w1.heap.size w1 w' → Calls Try.prog 20 #[.slice (some ⟨fb, 0, none⟩) f.length fc, vg] w' (Gives (.bool (apartV f g == 0)) w') := fun w' hb => by
        have := gives_of_quiet (sameInts_any _ _ _ _ _ (HF.out.fresh hb).inn (HG.out.fresh hb).inn)
        rwa [zero hok] at this
      have hbd := apartF_bound hok (Nat.le_refl _)
      rw [← apartV_yes hok] at hbd
      have htri := tri hok
      have hb1 := bd f (List.replicate f.length 0)
      have hb2 := bd (List.replicate f.length 0) g
      have hmk := run_make_row' (P := Try.prog) 23 3 (.int .i64 0) 8 Try.underlying23 info_int rfl .i64 .i64 f.length (by omega) (by omega)
      have c1 : ∀ w3 w', Below w1.heap.size w1 w3 → Below (w3.alloc (.cells (madeCells #[.int .i64 0] f.length) 3)).heap.size (w3.alloc (.cells (madeCells #[.int .i64 0] f.length) 3)) w' → Calls Try.prog 17 #[.slice (some ⟨fb, 0, none⟩) f.length fc, .slice (some ⟨w3.heap.size, 0, none⟩) f.length f.length] w' (Gives (.int .i64 (apartV f (List.replicate f.length 0))) w') :=
        fun w3 w' h3 hb => gives_of_quiet (implApartBy_any _ _ _ _ _ (((HF.out.fresh h3).alloc _).fresh hb).inn ((IMem.zeros w3 (by rw [maxLen_val]; omega)).fresh hb).inn)
      have c2 : ∀ w3 w', Below w1.heap.size w1 w3 → Below (w3.alloc (.cells (madeCells #[.int .i64 0] f.length) 3)).heap.size (w3.alloc (.cells (madeCells #[.int .i64 0] f.length) 3)) w' → Calls Try.prog 17 #[.slice (some ⟨w3.heap.size, 0, none⟩) f.length f.length, vg] w' (Gives (.int .i64 (apartV (List.replicate f.length 0) g)) w') :=
        fun w3 w' h3 hb => gives_of_quiet (implApartBy_any _ _ _ _ _ ((IMem.zeros w3 (by rw [maxLen_val]; omega)).fresh hb).inn (((HG.out.fresh h3).alloc _).fresh hb).inn)
      have CI := Lib.hid <| ci
      have CS := Lib.hid <| cs
      have CJ := Lib.hid <| cj
      have CQ := Lib.hid <| cq
      have C1 := Lib.hid <| c1
      have C2 := Lib.hid <| c2
      clear ci cs cj cq c1 c2 hok
      go_wp2_with fail
      refine (CI.out _ H1.out).mono ?_
      rintro e w2 ⟨rfl, hd_w2⟩
      have H2 : Hid (Below w1.heap.size w1 w2) := below_chain H1.out hd_w2
      clear hd_w2 H1
      go_wp2_with fail
      refine (CS.out _ H2.out).mono ?_
      rintro e w3 ⟨rfl, hd_w3⟩
      have H3 : Hid (Below w1.heap.size w1 w3) := below_chain H2.out hd_w3
      clear hd_w3 H2
      have HZ : Hid (Below w1.heap.size w1 (w3.alloc (.cells (madeCells #[.int .i64 0] f.length) 3))) := H3.out.alloc H3.out.size _
      go_wp2_with fail
      refine (CJ.out _ HZ.out).mono ?_
      rintro e w4 ⟨rfl, hd4⟩
      have H4 := Lib.hid hd4
      clear hd4 hmk
      have hz4 := below_chain HZ.out H4.out
      have HZ4 := Lib.hid <| hz4
      clear hz4
      go_wp2_with fail
      refine (CQ.out _ HZ4.out).mono ?_
      rintro e w5 ⟨rfl, hd5⟩
      have H5 := Lib.hid (below_chain H4.out hd5)
      clear hd5 H4 HZ4
      go_wp2_with fail
      refine (C1.out w3 _ H3.out H5.out).mono ?_
      rintro e w6 ⟨rfl, hd6⟩
      have H6 := Lib.hid (below_chain H5.out hd6)
      clear hd6 H5
      go_wp2_with fail
      refine (C2.out w3 _ H3.out H6.out).mono ?_
      rintro e w7 ⟨rfl, hd7⟩
      have H7 := Lib.hid (below_chain HZ.out (below_chain H6.out hd7))
      clear hd7 H6
      go_wp2
      go_ret
      exact ⟨rfl, below_chain HB.out H7.out⟩
    · rw [apartV_no hok] at ci cs
      have CI := Lib.hid <| ci
      have CS := Lib.hid <| cs
      clear ci cs hok
      go_wp2_with fail
      refine (CI.out _ H1.out).mono ?_
      rintro e w2 ⟨rfl, hd_w2⟩
      have H2 : Hid (Below w1.heap.size w1 w2) := below_chain H1.out hd_w2
      clear hd_w2 H1
      go_wp2_with fail
      refine (CS.out _ H2.out).mono ?_
      rintro e w3 ⟨rfl, hd_w3⟩
      have H3 : Hid (Below w1.heap.size w1 w3) := below_chain H2.out hd_w3
      clear hd_w3 H2
      go_wp2_with fail
      refine (alive_any _).mono ?_
      rintro e w4 ⟨rfl, hd_w4⟩
      have H4 : Hid (Below w1.heap.size w1 w4) := below_chain H3.out hd_w4
      clear hd_w4 H3
      go_wp2
      go_ret
      exact ⟨rfl, below_chain HB.out H4.out⟩
  · clear H0
    go_enter Try.func3, Try.ntmps3
    go_wp2
    go_ret
    exact ⟨rfl, Below.refl _ _⟩

set_option maxRecDepth 100000 in
theorem lifted (os : Os) (started : os.Started) (H : Type) (enc : TypeId × Value → H) :
    ReturnsInHanded {} Try.checked os 3 .any (Rows.fnApartBySpec.pre6 enc Try.prog Try.f3 Rows.fnApartByRow.domain false) (Rows.fnApartBySpec.post enc Try.prog Try.f3 false true false false) := by
  refine returnsInHanded_of_change (C := Try.checked) own_knob started (by kernel_rfl) Try.func3
    (ChangeSpec.witness6 (enc := enc) (C := Try.checked) false ⟨#[], #[.slice none 0 0], []⟩ 8 (by kernel_rfl) (by kernel_rfl) (by kernel_rfl) (by kernel_rfl)) ?_
  intro W base args ds gs before hval0 hW hcnd _
  have hval : ∀ (j : Nat) t v, Try.f3.params[j]? = some t → args[j]? = some v → Value.okWide Try.prog W .any base t v := hval0
  have hW' := hW
  obtain ⟨p, q, hA0, hV, rfl, hfz, hnd⟩ := hW
  have hA : DataW.TrodAll enc Try.prog W 0 (fun _ => true) true Try.f3.params.toList args.toList ds p := hA0
  rw [Try.params3] at hA hval
  obtain ⟨v0, vs0, e0, es0, p0, q0, hargs, rfl, rfl, h0, r0⟩ := trodAll_cons hA
  obtain ⟨rfl, rfl, rfl⟩ := trodAll_nil r0
  obtain rfl : args = #[v0] := by cases args; simp_all
  obtain ⟨rfl, rfl⟩ := trodVars_none hV
  obtain ⟨a0, len0, cap0, rfl⟩ := okWide_slice Try.underlying22 (hval 0 22 v0 rfl rfl)
  have k0 := h0
  have lt0 : ∀ x ∈ p0, x.block < W.heap.size := by obtain ⟨m, hm⟩ := k0; exact DataW.trod_lt m _ _ _ hm
  obtain ⟨z0, y0⟩ := open_bytes h0
  clear hA0 hval0
  refine (walk_all W _ z0 y0).mono fun e W' ⟨he, bel⟩ => ?_
  subst he
  exact ⟨_, rfl, _, _, _, [], _, [], hW', trodAll_mk1 (shut_bool Try.underlying4 _), (trodAll_cons_mk (Below.trod laid_out (by kernel_rfl) (of_decide_eq_true (by kernel_rfl)) k0 bel lt0) trodAll_mk0), rfl, bel.frame _, fun h => by cases h⟩

theorem over : Rows.fnApartByRow.holds Try.pinned (OpenSpec.ofChange Rows.fnApartBySpec) :=
  OpenClaim.holds_of_wide 3 Try.f3 rfl rfl rfl rfl rfl rfl rfl ⟨rfl, rfl, rfl, rfl, rfl⟩ rfl rfl rfl rfl rfl (by kernel_rfl) Try.func3 (by kernel_rfl)
    (of_decide_eq_true (by kernel_rfl)) (by unfold Func.isWrapper; first | (rw [if_pos (by decide +kernel)]; kernel_rfl) | (rw [if_neg (by decide +kernel)]; exact ⟨rfl, rfl⟩))
    (fun os started H enc _ => lifted os started H enc)

end fnApartBy
theorem fnApartBy_holds : Rows.FnApartBySaid := fnApartBy.over
#print axioms fnApartBy_holds
end Go.Proofs.Ytapllhnlngnobaa
