/- The law FnPlacesOf: for every code it returns true. Conditions: none. -/
import Derived.Test.YtknnelenmedonaaDrawP
import Derived.Test.YtknnelenmedonaaPlacesW
import Derived.Test.YtknnelenmedonaaSevenLaw
import Derived.Test.YtknnelenmedonaaFarW
import Derived.Deep.Cut
import Derived.Test.YtknnelenmedonaaSame
import Derived.Test.YtknnelenmedonaaLawFn
import Derived.Test.YtknnelenmedonaaOpenB
import Derived.Test.YtknnelenmedonaaRows
namespace Go.Proofs.Ytknnelenmedonaa
set_option linter.unusedVariables false
set_option linter.unusedSimpArgs false
namespace fnPlacesOf
open Go.ChangeShapes Go.WideShapes Go.ChangeAt Go.RowKit Go.Deep

set_option maxRecDepth 100000 in
set_option maxHeartbeats 8000000 in
theorem walk_all (w : World) (v0 : Value) (n0 : Nat) (h0 : BIn w v0 n0) :
    Calls Try.prog 14 #[v0] w fun e w' => e = .returned (.bool true) ∧ Below w.heap.size w w' := by
  obtain ⟨ao, cap, rfl, hn1, hn2, _⟩ := id h0
  rw [maxLen_val] at hn2
  have hN : n0 ≤ 9223372036854775807 := by omega
  have H0 := Lib.hid h0
  clear h0 hn1 hn2
  by_cases hlong : n0 ≤ 1048576
  rotate_left
  · clear H0
    go_enter Try.func14, Try.ntmps14
    go_wp2
    go_ret
    exact ⟨rfl, Below.refl _ _⟩
  go_enter Try.func14, Try.ntmps14
  go_wp2_with fail
  refine (drawPlacesOf_any _ _ _ H0.out).mono ?_
  rintro e w1 ⟨vd, d, rfl, hd, hd6, hb⟩
  clear H0 hlong
  have H1 : Hid (Below w1.heap.size w1 w1) := Below.refl _ _
  obtain ⟨db, dc, _, _, rfl, -⟩ := id hd.open
  have HD := Lib.hid hd
  have HB := Lib.hid hb
  have ci : ∀ (w' : World), Below w1.heap.size w1 w' → Calls Try.prog 47 #[.slice (some ⟨db, 0, none⟩) d.length dc] w' (GivesI (plV d) w') := fun w' hb => implPlacesOf_any _ _ _ _ _ (HD.out.fresh hb)
  have cs : ∀ (w' : World), Below w1.heap.size w1 w' → Calls Try.prog 46 #[.slice (some ⟨db, 0, none⟩) d.length dc] w' (GivesI (plV d) w') := fun w' hb => specPlacesOf_any _ _ _ _ _ (HD.out.fresh hb)
  by_cases hok : KeOk d
  · have hS := hok.sp
    have hone := hS.one
    have hll : (plV d).length = d.length := by rw [plV_yes hok, genL_length]
    have HAT : Hid (∀ k, k < d.length → iat (plV d) k = ((plF d k).toNat : Nat) ∧ (plF d k).toNat ≤ k ∧ iat (plV d) (plF d k).toNat = ((plF d k).toNat : Nat)) := fun k hk => by
      have h1 := pl_bd hS hk
      have h2 := pl_le d k
      have h3 := pl_pl hS hk
      refine ⟨by rw [plV_yes hok, iat_genL hk]; omega, by omega, ?_⟩
      rw [plV_yes hok, iat_genL (by omega), h3]
      omega
    have HFF : Hid (∀ (w' : World) (k i : Nat), k < d.length → (i = k ∨ i = (plF d k).toNat) → Below w1.heap.size w1 w' → Calls Try.prog 49 #[.slice (some ⟨db, 0, none⟩) d.length dc, .int .i64 i] w' (Quiet (.int .i64 (farF d k)) w')) := fun w' k i hk hi hb => by
      rcases hi with rfl | rfl
      · exact implFarthestFrom_in _ _ _ _ _ _ (HD.out.fresh hb) hS hk
      · have h1 := pl_bd hS hk
        have := implFarthestFrom_in _ _ _ d (plF d k).toNat _ (HD.out.fresh hb) hS (by omega)
        rwa [pl_far hS hk] at this
    have CI := Lib.hid <| ci
    have CS := Lib.hid <| cs
    clear ci cs hd hb hok hS
    generalize plV d = L at *
    go_wp2_with fail
    refine (CI.out w1 H1.out).mono ?_
    rintro e w2 ⟨vl, rfl, hl, hb2⟩
    have hl := hl.mem (ne_nil_of hll hone)
    obtain ⟨lb, lc, rfl, -⟩ := id hl.open
    rw [hll] at hl ⊢
    have HM := Lib.hid hl
    have HLL := Lib.hid hll
    have H12 := Lib.hid hb2
    clear hl hb2 hll
    go_wp2_with fail
    refine (CS.out w2 H12.out).mono ?_
    rintro e w3 ⟨vh, rfl, hh, hb3⟩
    have cq := gives_of_quiet (sameInts_any _ _ _ _ _ (HM.out.fresh hb3).inn hh.inn)
    rw [sameB_yes rfl] at cq
    have CQ := Lib.hid <| cq
    have H3 := Lib.hid hb3
    clear cq hh hb3
    go_wp2_with fail
    refine (CQ.out).mono ?_
    rintro e w4 ⟨rfl, hd_w4⟩
    have H4 : Hid (Below w2.heap.size w2 w4) := below_chain H3.out hd_w4
    clear hd_w4 H3
    have hfn : ((d.length : Int) == 0) = false := by simpa using (show d.length ≠ 0 by omega)
    clear CQ
    go_wp2
    go_loopw [5] (fun kv wr => ∃ k : Nat, k ≤ d.length ∧ kv = .int .i64 k ∧ Hid (Below w2.heap.size w2 wr)) (fun kv _ => d.length - (intOf kv).toNat)
    case atStart => exact ⟨0, Nat.zero_le _, rfl, H4⟩
    case round =>
      clear H4
      obtain ⟨k, hk, rfl, H4⟩ := hrel
      by_cases hkl : k < d.length
      · obtain ⟨a1, a2, a3⟩ := HAT.out k hkl
        have c1 := (HM.out.fresh H4.out).cellAt (i := k) (by rw [HLL.out]; exact hkl)
        have c2 := (HM.out.fresh H4.out).cellAt (i := (plF d k).toNat) (by rw [HLL.out]; omega)
        rw [a1] at c1
        rw [a3] at c2
        have HC : Hid (∀ (m i : Nat), (i = k ∨ i = (plF d k).toNat) → Calls Try.prog 49 #[.slice (some ⟨db, 0, none⟩) d.length dc, .int .i64 i] (wr.drewN m) (Quiet (.int .i64 (farF d k)) (wr.drewN m))) := fun m i hi => HFF.out _ k i hkl hi (below_drewN (below_chain H12.out H4.out) m)
        generalize (plF d k).toNat = p at *
        have hki : (k : Int) < (d.length : Int) := by omega
        have hpi : (p : Int) < (d.length : Int) := by omega
        have e1 : decide (k < p) = false := by simp; omega
        have e2 : ((p : Int) != (p : Int)) = false := by simp
        have e3 : (farF d k != farF d k) = false := by simp
        clear a1 a2 a3
        go_upto_region 12 with (fail)
        go_quiet ((go_at_call 49; exact quiet_in (HC.out _ _ (by first | exact Or.inl rfl | exact Or.inr rfl))))
        clear c1 c2 e1
        go_wp2
        go_roundw
        case rel => exact ⟨k + 1, by omega, by go_num, below_drewN H4.out _⟩
        case measure => simp [intOf]; omega
      · have e1 : ((d.length : Int) == (d.length : Int)) = true := by simp
        go_wp2
        go_ret
        exact ⟨rfl, below_chain (Lib.hid (below_chain HB.out H12.out)).out H4.out⟩
  · rw [plV_no hok] at ci cs
    have CI := Lib.hid <| ci
    have CS := Lib.hid <| cs
    clear ci cs hok hd hb hd6
    go_wp2_with fail
    refine (CI.out w1 H1.out).mono ?_
    rintro e w2 ⟨vg, rfl, hg, hb2⟩
    obtain ⟨fo, fc, rfl, _⟩ := id hg.inn
    have HG := Lib.hid hg
    have H12 := Lib.hid hb2
    have HB2 := Lib.hid (below_chain HB.out hb2)
    clear hg hb2
    go_wp2_with fail
    refine (CS.out w2 H12.out).mono ?_
    rintro e w3 ⟨vh, rfl, hh, hb3⟩
    have cq := gives_of_quiet (sameInts_any _ _ _ _ _ (HG.out.inn.keep hb3) hh.inn)
    rw [sameB_yes rfl] at cq
    have CQ := Lib.hid <| cq
    have H3 := Lib.hid hb3
    clear cq hh hb3
    go_wp2_with fail
    refine (CQ.out).mono ?_
    rintro e w4 ⟨rfl, hd_w4⟩
    have H4 : Hid (Below w2.heap.size w2 w4) := below_chain H3.out hd_w4
    clear hd_w4 H3
    go_wp2_with fail
    refine (alive_any _).mono ?_
    rintro e w6 ⟨rfl, hd_w6⟩
    have H6 : Hid (Below w2.heap.size w2 w6) := below_chain H4.out hd_w6
    clear hd_w6 H4
    go_wp2
    go_ret
    exact ⟨rfl, below_chain HB2.out H6.out⟩

set_option maxRecDepth 100000 in
theorem lifted (os : Os) (started : os.Started) (H : Type) (enc : TypeId × Value → H) :
    ReturnsInHanded {} Try.checked os 14 .any (Rows.fnPlacesOfSpec.pre6 enc Try.prog Try.f14 Rows.fnPlacesOfRow.domain false) (Rows.fnPlacesOfSpec.post enc Try.prog Try.f14 false true false false) := by
  refine returnsInHanded_of_change (C := Try.checked) own_knob started (by kernel_rfl) Try.func14
    (ChangeSpec.witness6 (enc := enc) (C := Try.checked) false ⟨#[], #[.slice none 0 0], []⟩ 8 (by kernel_rfl) (by kernel_rfl) (by kernel_rfl) (by kernel_rfl)) ?_
  intro W base args ds gs before hval0 hW hcnd _
  have hval : ∀ (j : Nat) t v, Try.f14.params[j]? = some t → args[j]? = some v → Value.okWide Try.prog W .any base t v := hval0
  have hW' := hW
  obtain ⟨p, q, hA0, hV, rfl, hfz, hnd⟩ := hW
  have hA : DataW.TrodAll enc Try.prog W 0 (fun _ => true) true Try.f14.params.toList args.toList ds p := hA0
  rw [Try.params14] at hA hval
  obtain ⟨v0, vs0, e0, es0, p0, q0, hargs, rfl, rfl, h0, r0⟩ := trodAll_cons hA
  obtain ⟨rfl, rfl, rfl⟩ := trodAll_nil r0
  obtain rfl : args = #[v0] := by cases args; simp_all
  obtain ⟨rfl, rfl⟩ := trodVars_none hV
  obtain ⟨a0, len0, cap0, rfl⟩ := okWide_slice Try.underlying26 (hval 0 26 v0 rfl rfl)
  have k0 := h0
  have lt0 : ∀ x ∈ p0, x.block < W.heap.size := by obtain ⟨m, hm⟩ := k0; exact DataW.trod_lt m _ _ _ hm
  obtain ⟨z0, y0⟩ := open_bytes h0
  clear hA0 hval0
  refine (walk_all W _ z0 y0).mono fun e W' ⟨he, bel⟩ => ?_
  subst he
  exact ⟨_, rfl, _, _, _, [], _, [], hW', trodAll_mk1 (shut_bool Try.underlying4 _), (trodAll_cons_mk (Below.trod laid_out (by kernel_rfl) (of_decide_eq_true (by kernel_rfl)) k0 bel lt0) trodAll_mk0), rfl, bel.frame _, fun h => by cases h⟩

theorem over : Rows.fnPlacesOfRow.holds Try.pinned (OpenSpec.ofChange Rows.fnPlacesOfSpec) :=
  OpenClaim.holds_of_wide 14 Try.f14 rfl rfl rfl rfl rfl rfl rfl ⟨rfl, rfl, rfl, rfl, rfl⟩ rfl rfl rfl rfl rfl (by kernel_rfl) Try.func14 (by kernel_rfl)
    (of_decide_eq_true (by kernel_rfl)) (by unfold Func.isWrapper; first | (rw [if_pos (by decide +kernel)]; kernel_rfl) | (rw [if_neg (by decide +kernel)]; exact ⟨rfl, rfl⟩))
    (fun os started H enc _ => lifted os started H enc)

end fnPlacesOf
theorem fnPlacesOf_holds : Rows.FnPlacesOfSaid := fnPlacesOf.over
#print axioms fnPlacesOf_holds
end Go.Proofs.Ytknnelenmedonaa

