/- The law FnWorstGap: for every code it returns true. Conditions: none. -/
import Derived.Test.YtclffncimaigfaaDrawU
import Derived.Test.YtclffncimaigfaaTreeY
import Derived.Test.YtclffncimaigfaaWithout
import Derived.Test.YtclffncimaigfaaWidth
import Derived.Test.YtclffncimaigfaaSame
import Derived.Test.YtclffncimaigfaaLawFn
import Derived.Test.YtclffncimaigfaaOpenB
import Derived.Test.YtclffncimaigfaaRows
namespace Go.Proofs.Ytclffncimaigfaa
set_option linter.unusedVariables false
set_option linter.unusedSimpArgs false
namespace fnWorstGap
open Go.ChangeShapes Go.WideShapes Go.ChangeAt Go.RowKit Go.Deep

set_option maxRecDepth 100000 in
set_option maxHeartbeats 8000000 in
theorem walk_all (w : World) (v0 : Value) (n0 : Nat) (h0 : BIn w v0 n0) :
    Calls Try.prog 13 #[v0] w fun e w' => e = .returned (.bool true) ∧ Below w.heap.size w w' := by
  obtain ⟨ao, cap, rfl, hn1, hn2, _⟩ := id h0
  rw [maxLen_val] at hn2
  have hN : n0 ≤ 9223372036854775807 := by omega
  have H0 := Lib.hid h0
  clear h0 hn1 hn2
  by_cases hlong : n0 ≤ 1048576
  rotate_left
  · clear H0
    go_enter Try.func13, Try.ntmps13
    go_wp2
    go_ret
    exact ⟨rfl, Below.refl _ _⟩
  go_enter Try.func13, Try.ntmps13
  go_wp2_with fail
  refine (drawWorstGap_any _ _ _ H0.out).mono ?_
  rintro e w1 ⟨vd, d, rfl, hd, hD, hb⟩
  clear H0 hlong
  have H1 : Hid (Below w1.heap.size w1 w1) := Below.refl _ _
  have hd6 := hD.six
  obtain ⟨db, dc, _, _, rfl, -⟩ := id hd.open
  have HD := Lib.hid hd
  have HB := Lib.hid hb
  have ci : ∀ (w' : World), Below w1.heap.size w1 w' → Calls Try.prog 40 #[.slice (some ⟨db, 0, none⟩) d.length dc] w' (Gives (.int .i64 (wgV d)) w') := fun w' hb => implWorstGap_any _ _ _ _ _ (HD.out.fresh hb)
  have cs : ∀ (w' : World), Below w1.heap.size w1 w' → Calls Try.prog 41 #[.slice (some ⟨db, 0, none⟩) d.length dc] w' (Gives (.int .i64 (wgV d)) w') := fun w' hb => specWorstGap_any _ _ _ _ _ (HD.out.fresh hb)
  clear hb hD hd
  by_cases hS : Space d
  · have hone := hS.one
    have cw : ∀ (w' : World), Below w1.heap.size w1 w' → Calls Try.prog 43 #[.slice (some ⟨db, 0, none⟩) d.length dc] w' (Quiet (.int .i64 (widF d d.length)) w') := fun w' hb => by
      have := implWidthOf_any _ _ _ _ _ (HD.out.fresh hb)
      rwa [widV_yes hS] at this
    have co : ∀ (w' : World) (p : Nat), p < d.length → 2 ≤ d.length → Below w1.heap.size w1 w' → Calls Try.prog 42 #[.slice (some ⟨db, 0, none⟩) d.length dc, .int .i64 p] w' (WoP d p w') := fun w' p hp h2 hb => implWithout_in _ _ _ _ _ _ (HD.out.fresh hb) hS hp h2
    have cx : ∀ (w' : World) (p lo hi : Nat) (r : Value), 2 ≤ d.length → MMem lo hi w' r (woL d p) → Calls Try.prog 40 #[r] w' (Gives (.int .i64 (wgF (woL d p))) w') := fun w' p lo hi r h2 hr => by
      have := implWorstGap_any _ _ _ _ _ hr
      rwa [wgV_yes (woL_space hS h2 p)] at this
    have hpos : 0 ≤ wgF d := wg_pos
    have hwid : wgF d ≤ widF d d.length := wg_le_width hS (widF_bd hS (Nat.le_refl _)).1 fun i k hi hk => at_le_wid hi hk
    have H30 : Hid (d.length ≤ 3 → wgF d = 0) := fun h => wg_three hS h
    have HLE : Hid (∀ p, wgF (woL d p) ≤ wgF d) := fun p => wg_woL d p
    rw [wgV_yes hS] at ci cs
    have CI := Lib.hid <| ci
    have CS := Lib.hid <| cs
    have CW := Lib.hid <| cw
    have CO := Lib.hid <| co
    have CX := Lib.hid <| cx
    clear ci cs cw co cx hS
    generalize wgF d = N at *
    generalize widF d d.length = W at *
    go_wp2_with fail
    refine (CI.out w1 H1.out).mono ?_
    rintro e w2 ⟨rfl, hb2⟩
    have H2 := Lib.hid (below_chain H1.out hb2)
    clear hb2 H1 CI
    go_wp2_with fail
    refine (CS.out _ H2.out).mono ?_
    rintro e w3 ⟨rfl, hb3⟩
    have H3 := Lib.hid (below_chain H2.out hb3)
    clear hb3 H2 CS
    have hnn : decide (N < 0) = false := decide_eq_false (by omega)
    go_wp2
    go_loopw [5] (fun kv wr => ∃ k : Nat, k ≤ d.length ∧ kv = .int .i64 k ∧ Hid (Below w1.heap.size w1 wr)) (fun kv _ => d.length - (intOf kv).toNat)
    case atStart => exact ⟨0, Nat.zero_le _, rfl, H3⟩
    case round =>
      clear H3
      obtain ⟨k, hk, rfl, H3⟩ := hrel
      by_cases hkl : k < d.length
      · have hki : (k : Int) < (d.length : Int) := by omega
        by_cases h2 : 1 < d.length
        · have h2i : (1 : Int) < (d.length : Int) := by omega
          go_wp2_with fail
          refine (CO.out _ k hkl (by omega) H3.out).mono ?_
          rintro e w4 ⟨r, rfl, hr, hb4⟩
          have H4 := Lib.hid (below_chain H3.out hb4)
          have cx := CX.out _ k _ _ _ (by omega) hr
          have hle := HLE.out k
          obtain ⟨rb, rc, _, _, rfl, -⟩ := id hr.open
          have CX2 := Lib.hid <| cx
          clear hb4 H3 hr cx
          generalize wgF (woL d k) = G at *
          have hng : decide (N < G) = false := decide_eq_false (by omega)
          clear hle
          go_wp2_with fail
          refine CX2.out.mono ?_
          rintro e w5 ⟨rfl, hb5⟩
          have H5 := Lib.hid (below_chain H4.out hb5)
          clear hb5 H4 CX2
          go_wp2
          go_roundw
          case rel => exact ⟨k + 1, by omega, by go_num, H5⟩
          case measure => simp [intOf]; omega
        · have h2n : decide (1 < d.length) = false := decide_eq_false h2
          have h2i : decide ((1 : Int) < (d.length : Int)) = false := decide_eq_false (by omega)
          by_cases h3 : 3 < d.length
          · have h3i : (3 : Int) < (d.length : Int) := by omega
            go_wp2_with fail
            refine (CW.out _ H3.out).mono ?_
            rintro e w5 ⟨rfl, hd5⟩
            have H5 := Lib.hid (below_chain H3.out (hd5.below _))
            clear hd5 H3 CW
            go_wp2
            go_ret
            exact ⟨rfl, below_chain HB.out H5.out⟩
          · have h3n : decide (3 < d.length) = false := decide_eq_false h3
            have h3i : decide ((3 : Int) < (d.length : Int)) = false := decide_eq_false (by omega)
            have hN0 : N = 0 := H30.out (by omega)
            have hNb : (N == 0) = true := by rw [hN0]; rfl
            clear hN0
            go_wp2_with fail
            refine (CW.out _ H3.out).mono ?_
            rintro e w5 ⟨rfl, hd5⟩
            have H5 := Lib.hid (below_chain H3.out (hd5.below _))
            clear hd5 H3 CW
            go_wp2
            go_ret
            exact ⟨rfl, below_chain HB.out H5.out⟩
      · have hkn : decide (k < d.length) = false := decide_eq_false hkl
        have hki : decide ((k : Int) < (d.length : Int)) = false := decide_eq_false (by omega)
        by_cases h3 : 3 < d.length
        · have h3i : (3 : Int) < (d.length : Int) := by omega
          go_wp2_with fail
          refine (CW.out _ H3.out).mono ?_
          rintro e w5 ⟨rfl, hd5⟩
          have H5 := Lib.hid (below_chain H3.out (hd5.below _))
          clear hd5 H3 CW
          go_wp2
          go_ret
          exact ⟨rfl, below_chain HB.out H5.out⟩
        · have h3n : decide (3 < d.length) = false := decide_eq_false h3
          have h3i : decide ((3 : Int) < (d.length : Int)) = false := decide_eq_false (by omega)
          have hN0 : N = 0 := H30.out (by omega)
          have hNb : (N == 0) = true := by rw [hN0]; rfl
          clear hN0
          go_wp2_with fail
          refine (CW.out _ H3.out).mono ?_
          rintro e w5 ⟨rfl, hd5⟩
          have H5 := Lib.hid (below_chain H3.out (hd5.below _))
          clear hd5 H3 CW
          go_wp2
          go_ret
          exact ⟨rfl, below_chain HB.out H5.out⟩
  · rw [wgV_no hS] at ci cs
    have CI := Lib.hid <| ci
    have CS := Lib.hid <| cs
    clear ci cs hS
    go_wp2_with fail
    refine (CI.out w1 H1.out).mono ?_
    rintro e w2 ⟨rfl, hb2⟩
    have H2 := Lib.hid (below_chain H1.out hb2)
    clear hb2 H1 CI
    go_wp2_with fail
    refine (CS.out _ H2.out).mono ?_
    rintro e w3 ⟨rfl, hb3⟩
    have H3 := Lib.hid (below_chain H2.out hb3)
    clear hb3 H2 CS
    go_wp2_with fail
    refine (alive_any _).mono ?_
    rintro e w5 ⟨rfl, hd_w5⟩
    have H5 : Hid (Below w1.heap.size w1 w5) := below_chain H3.out hd_w5
    clear hd_w5 H3
    go_wp2
    go_ret
    exact ⟨rfl, below_chain HB.out H5.out⟩

set_option maxRecDepth 100000 in
theorem lifted (os : Os) (started : os.Started) (H : Type) (enc : TypeId × Value → H) :
    ReturnsInHanded {} Try.checked os 13 .any (Rows.fnWorstGapSpec.pre6 enc Try.prog Try.f13 Rows.fnWorstGapRow.domain false) (Rows.fnWorstGapSpec.post enc Try.prog Try.f13 false true false false) := by
  refine returnsInHanded_of_change (C := Try.checked) own_knob started (by kernel_rfl) Try.func13
    (ChangeSpec.witness6 (enc := enc) (C := Try.checked) false ⟨#[], #[.slice none 0 0], []⟩ 8 (by kernel_rfl) (by kernel_rfl) (by kernel_rfl) (by kernel_rfl)) ?_
  intro W base args ds gs before hval0 hW hcnd _
  have hval : ∀ (j : Nat) t v, Try.f13.params[j]? = some t → args[j]? = some v → Value.okWide Try.prog W .any base t v := hval0
  have hW' := hW
  obtain ⟨p, q, hA0, hV, rfl, hfz, hnd⟩ := hW
  have hA : DataW.TrodAll enc Try.prog W 0 (fun _ => true) true Try.f13.params.toList args.toList ds p := hA0
  rw [Try.params13] at hA hval
  obtain ⟨v0, vs0, e0, es0, p0, q0, hargs, rfl, rfl, h0, r0⟩ := trodAll_cons hA
  obtain ⟨rfl, rfl, rfl⟩ := trodAll_nil r0
  obtain rfl : args = #[v0] := by cases args; simp_all
  obtain ⟨rfl, rfl⟩ := trodVars_none hV
  obtain ⟨a0, len0, cap0, rfl⟩ := okWide_slice Try.underlying29 (hval 0 29 v0 rfl rfl)
  have k0 := h0
  have lt0 : ∀ x ∈ p0, x.block < W.heap.size := by obtain ⟨m, hm⟩ := k0; exact DataW.trod_lt m _ _ _ hm
  obtain ⟨z0, y0⟩ := open_bytes h0
  clear hA0 hval0
  refine (walk_all W _ z0 y0).mono fun e W' ⟨he, bel⟩ => ?_
  subst he
  exact ⟨_, rfl, _, _, _, [], _, [], hW', trodAll_mk1 (shut_bool Try.underlying4 _), (trodAll_cons_mk (Below.trod laid_out (by kernel_rfl) (of_decide_eq_true (by kernel_rfl)) k0 bel lt0) trodAll_mk0), rfl, bel.frame _, fun h => by cases h⟩

theorem over : Rows.fnWorstGapRow.holds Try.pinned (OpenSpec.ofChange Rows.fnWorstGapSpec) :=
  OpenClaim.holds_of_wide 13 Try.f13 rfl rfl rfl rfl rfl rfl rfl ⟨rfl, rfl, rfl, rfl, rfl⟩ rfl rfl rfl rfl rfl (by kernel_rfl) Try.func13 (by kernel_rfl)
    (of_decide_eq_true (by kernel_rfl)) (by unfold Func.isWrapper; first | (rw [if_pos (by decide +kernel)]; kernel_rfl) | (rw [if_neg (by decide +kernel)]; exact ⟨rfl, rfl⟩))
    (fun os started H enc _ => lifted os started H enc)

end fnWorstGap
theorem fnWorstGap_holds : Rows.FnWorstGapSaid := fnWorstGap.over
#print axioms fnWorstGap_holds
end Go.Proofs.Ytclffncimaigfaa

