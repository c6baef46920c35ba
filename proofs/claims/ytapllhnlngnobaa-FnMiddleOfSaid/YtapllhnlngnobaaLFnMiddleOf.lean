/- The law FnMiddleOf: for every code it returns true. Conditions: none. -/
import Derived.Test.YtapllhnlngnobaaDrawX
import Derived.Test.YtapllhnlngnobaaMiddle
import Derived.Test.YtapllhnlngnobaaTBelow
import Derived.Test.YtapllhnlngnobaaTight
import Derived.Test.YtapllhnlngnobaaFnPlain2
import Derived.Test.YtapllhnlngnobaaSame
import Derived.Test.YtapllhnlngnobaaLawFn
import Derived.Test.YtapllhnlngnobaaOpenB
import Derived.Test.YtapllhnlngnobaaRows
namespace Go.Proofs.Ytapllhnlngnobaa
set_option linter.unusedVariables false
set_option linter.unusedSimpArgs false
namespace fnMiddleOf
open Go.ChangeShapes Go.WideShapes Go.ChangeAt Go.RowKit Go.Deep

theorem mid_at {d : List (List Int)} {p q : Nat} (h : Space d) (h2 : 2 ≤ d.length) (hp : p < d.length) (hq : q < d.length) : iat (midV d p q) p = (at2 d p q + 1) / 2 ∧ iat (midV d p q) q = (at2 d p q + 1) / 2 := by
  have hv := midV_yes (d := d) (a := p) (b := q) ⟨h, h2, ⟨by omega, by omega⟩, ⟨by omega, by omega⟩⟩
  have h1 := h.own hp
  have h3 := h.own hq
  have h4 := h.sym hp hq
  rw [hv, iat_genL hp, iat_genL hq]
  unfold midF
  omega

set_option maxHeartbeats 8000000 in
theorem walk_all (w : World) (v0 : Value) (n0 : Nat) (h0 : BIn w v0 n0) :
    Calls Try.prog 9 #[v0] w fun e w' => e = .returned (.bool true) ∧ Below w.heap.size w w' := by
  obtain ⟨ao, cap, rfl, hn1, hn2, _⟩ := id h0
  rw [maxLen_val] at hn2
  have hN : n0 ≤ 9223372036854775807 := by omega
  have H0 := Lib.hid h0
  clear h0 hn1 hn2
  by_cases hlong : n0 ≤ 1048576
  rotate_left
  · clear H0
    go_enter Try.func9, Try.ntmps9
    go_wp2
    go_ret
    exact ⟨rfl, Below.refl _ _⟩
  go_enter Try.func9, Try.ntmps9
  go_wp2_with fail
  refine (drawMiddleOf_any _ _ _ H0.out).mono ?_
  rintro e w1 ⟨vd, d, a0, b0, rfl, hd, hdn, ha0, ha1, hb0, hb1, hb⟩
  clear H0 hlong
  have H1 : Hid (Below w1.heap.size w1 w1) := Below.refl _ _
  have hd6 := hdn.six
  by_cases hok : MidOk d a0 b0
  · obtain ⟨p, rfl⟩ := Int.eq_ofNat_of_zero_le hok.pa.1
    obtain ⟨q, rfl⟩ := Int.eq_ofNat_of_zero_le hok.pb.1
    have hS := hok.sp
    have hp : p < d.length := by have := hok.pa.2; omega
    have hq : q < d.length := by have := hok.pb.2; omega
    have hml : (midV d p q).length = d.length := by rw [midV_yes hok, genL_length]
    have hcov := cov_mid hS hok.two hp hq
    have htight := tight_tb hcov
    have hmat := mid_at hS hok.two hp hq
    have hgp := tb_le hcov hp
    have hgq := tb_le hcov hq
    have hg0 := htight.cov.vals.bd hp
    have hg1 := htight.cov.vals.bd hq
    have hgs := htight.cov.ok p q hp hq
    have hgl := tb_len hcov
    obtain ⟨b, dc, BB, CC, rfl, hO⟩ := hd.space hS
    have hone := hS.one
    have hbd := hS.bd hp hq
    have HD := Lib.hid hd
    have HO := Lib.hid hO
    have HB := Lib.hid hb
    rw [hmat.1] at hgp
    rw [hmat.2] at hgq
    clear hmat
    have cm : Calls Try.prog 38 #[.slice (some ⟨b, 0, none⟩) d.length dc, .int .i64 p, .int .i64 q] w1 (GivesI (midV d p q) w1) := implMiddleOf_any _ _ _ _ _ _ _ HD.out
    have cs : ∀ (w' : World), Below w1.heap.size w1 w' → Calls Try.prog 39 #[.slice (some ⟨b, 0, none⟩) d.length dc, .int .i64 p, .int .i64 q] w' (GivesI (midV d p q) w') := fun w' hb => specMiddleOf_any _ _ _ _ _ _ _ (HD.out.fresh hb)
    have cb : ∀ (w' : World) (lo hi : Nat) (v : Value), IMem lo hi w' v (midV d p q) → Below w1.heap.size w1 w' → Calls Try.prog 40 #[.slice (some ⟨b, 0, none⟩) d.length dc, v] w' (GivesI (tbV d (midV d p q)) w') := fun w' lo hi v hv hb => implTightBelow_any _ _ _ _ _ _ _ _ _ (HD.out.fresh hb) hv
    have cc : ∀ (w' : World) (lo hi : Nat) (v : Value), IMem lo hi w' v (midV d p q) → Below w1.heap.size w1 w' → Calls Try.prog 31 #[.slice (some ⟨b, 0, none⟩) d.length dc, v] w' (Quiet (.bool true) w') := fun w' lo hi v hv hb => by
      have := implCoversOk_any _ _ _ _ _ _ _ _ _ (HD.out.fresh hb) hv
      rwa [decP_yes hcov] at this
    have ct : ∀ (w' : World) (lo hi : Nat) (v : Value), IMem lo hi w' v (tbV d (midV d p q)) → Below w1.heap.size w1 w' → Calls Try.prog 41 #[.slice (some ⟨b, 0, none⟩) d.length dc, v] w' (Quiet (.bool true) w') := fun w' lo hi v hv hb => by
      have := implTightOk_any _ _ _ _ _ _ _ _ _ (HD.out.fresh hb) hv
      rwa [decP_yes htight] at this
    have CM := Lib.hid <| cm
    have CS := Lib.hid <| cs
    have CB := Lib.hid <| cb
    have CC' := Lib.hid <| cc
    have CT := Lib.hid <| ct
    clear cm cs cb cc ct hd hO hb hok hdn hS hcov htight
    generalize tbV d (midV d p q) = g at *
    generalize midV d p q = f at *
    go_wp2_with fail
    refine CM.out.mono ?_
    rintro e w2 ⟨vf, rfl, hf, hb2⟩
    have hf := hf.mem (ne_nil_of hml hone)
    obtain ⟨fb, fc, rfl, _⟩ := id hf.open
    rw [hml] at hf ⊢
    have HF := Lib.hid hf
    have H12 := Lib.hid hb2
    clear hf hb2
    go_wp2_with fail
    refine (CS.out w2 H12.out).mono ?_
    rintro e w3 ⟨vg, rfl, hg, hb3⟩
    have cq := gives_of_quiet (sameInts_any _ _ _ _ _ (HF.out.fresh hb3).inn hg.inn)
    rw [sameB_yes rfl] at cq
    have cq' : Calls Try.prog 20 #[.slice (some ⟨fb, 0, none⟩) d.length fc, vg] w3 (Gives (.bool true) w3) := cq
    have CQ := Lib.hid <| cq'
    have H3 := Lib.hid hb3
    clear cq cq' hg hb3
    go_wp2_with fail
    refine (CQ.out).mono ?_
    rintro e w4 ⟨rfl, hd_w4⟩
    have H4 : Hid (Below w2.heap.size w2 w4) := below_chain H3.out hd_w4
    clear hd_w4 H3
    have hfn : ((d.length : Int) == 0) = false := by simpa using (show d.length ≠ 0 by omega)
    go_wp2_with fail
    refine (CB.out w4 _ _ _ (HF.out.fresh H4.out) (below_chain H12.out H4.out)).mono ?_
    rintro e w5 ⟨vt, rfl, ht, hb5⟩
    have ht := ht.mem (ne_nil_of hgl hone)
    obtain ⟨gb, gc, rfl, _⟩ := id ht.open
    rw [hgl] at ht ⊢
    have hf5 := (HF.out.fresh H4.out).fresh hb5
    have h15 := below_chain (below_chain H12.out H4.out) hb5
    have hgpl : p < g.length := by omega
    have hgql : q < g.length := by omega
    have c1 := (HO.out.keep h15).top p hp
    have c2 := (HO.out.keep h15).cell p q hp hq
    have c3 := ht.cellAt hgpl
    have c4 := ht.cellAt hgql
    have cc : ∀ m : Nat, Calls Try.prog 31 #[.slice (some ⟨b, 0, none⟩) d.length dc, .slice (some ⟨fb, 0, none⟩) d.length fc] (w5.drewN m) (Quiet (.bool true) (w5.drewN m)) := fun m => CC'.out _ _ _ _ (hf5.drewN m) (h15.trans (Dr.below ⟨m, rfl⟩ _))
    have ct : ∀ m : Nat, Calls Try.prog 41 #[.slice (some ⟨b, 0, none⟩) d.length dc, .slice (some ⟨gb, 0, none⟩) d.length gc] (w5.drewN m) (Quiet (.bool true) (w5.drewN m)) := fun m => CT.out _ _ _ _ (ht.drewN m) (h15.trans (Dr.below ⟨m, rfl⟩ _))
    have C1 := Lib.hid <| cc
    have C2 := Lib.hid <| ct
    have HB5 := Lib.hid (below_chain HB.out h15)
    have hpi : (p : Int) < (d.length : Int) := by omega
    have hqi : (q : Int) < (d.length : Int) := by omega
    clear cc ct ht hf5 h15 hb5 CM CS CB CC' CT HF H12 H4 CQ HO HD HB hgl hml
    have e1 : IntKind.i64.wrap (iat g p + iat g q) = iat g p + iat g q := IntWalk.i64_in _ (by omega)
    have e2 : at2 d p q ≤ iat g p + iat g q := hgs
    go_wp2_with fail
    go_quiet ((first | (go_at_call 31; exact quiet_in (C1.out _)) | (go_at_call 41; exact quiet_in (C2.out _))))
    go_wp2
    go_ret
    exact ⟨rfl, below_drewN HB5.out _⟩
  · have hdv := midV_no hok
    have ci := implMiddleOf_any _ _ _ _ a0 b0 _ hd
    have cs : ∀ (w' : World), Below w1.heap.size w1 w' → Calls Try.prog 39 #[vd, .int .i64 a0, .int .i64 b0] w' (GivesI (midV d a0 b0) w') := fun w' hb => specMiddleOf_any _ _ _ _ _ _ _ (hd.fresh hb)
    rw [hdv] at ci cs
    have CI := Lib.hid <| ci
    have CS := Lib.hid <| cs
    have HB := Lib.hid hb
    clear ci cs hdv hok hd hdn hb hd6
    go_wp2_with fail
    refine CI.out.mono ?_
    rintro e w2 ⟨vf, rfl, hf, hb2⟩
    obtain ⟨fo, fc, rfl, _⟩ := id hf.inn
    have HF := Lib.hid hf
    have H2 := Lib.hid hb2
    have HB2 := Lib.hid (below_chain HB.out hb2)
    clear hf hb2
    go_wp2_with fail
    refine (CS.out w2 H2.out).mono ?_
    rintro e w3 ⟨vg, rfl, hg, hb3⟩
    have cq := gives_of_quiet (sameInts_any _ _ _ _ _ (HF.out.inn.keep hb3) hg.inn)
    rw [sameB_yes rfl] at cq
    have CQ := Lib.hid <| cq
    have H3 := Lib.hid hb3
    clear cq hg hb3
    go_wp2_with fail
    refine (CQ.out).mono ?_
    rintro e w4 ⟨rfl, hd_w4⟩
    have H4 : Hid (Below w2.heap.size w2 w4) := below_chain H3.out hd_w4
    clear hd_w4 H3
    go_wp2_with fail
    refine (alive_any _).mono ?_
    rintro e w5 ⟨rfl, hd_w5⟩
    have H5 : Hid (Below w2.heap.size w2 w5) := below_chain H4.out hd_w5
    clear hd_w5 H4
    go_wp2
    go_ret
    exact ⟨rfl, below_chain HB2.out H5.out⟩

set_option maxRecDepth 100000 in
theorem lifted (os : Os) (started : os.Started) (H : Type) (enc : TypeId × Value → H) :
    ReturnsInHanded {} Try.checked os 9 .any (Rows.fnMiddleOfSpec.pre6 enc Try.prog Try.f9 Rows.fnMiddleOfRow.domain false) (Rows.fnMiddleOfSpec.post enc Try.prog Try.f9 false true false false) := by
  refine returnsInHanded_of_change (C := Try.checked) own_knob started (by kernel_rfl) Try.func9
    (ChangeSpec.witness6 (enc := enc) (C := Try.checked) false ⟨#[], #[.slice none 0 0], []⟩ 8 (by kernel_rfl) (by kernel_rfl) (by kernel_rfl) (by kernel_rfl)) ?_
  intro W base args ds gs before hval0 hW hcnd _
  have hval : ∀ (j : Nat) t v, Try.f9.params[j]? = some t → args[j]? = some v → Value.okWide Try.prog W .any base t v := hval0
  have hW' := hW
  obtain ⟨p, q, hA0, hV, rfl, hfz, hnd⟩ := hW
  have hA : DataW.TrodAll enc Try.prog W 0 (fun _ => true) true Try.f9.params.toList args.toList ds p := hA0
  rw [Try.params9] at hA hval
  obtain ⟨v0, vs0, e0, es0, p0, q0, hargs, rfl, rfl, h0, r0⟩ := trodAll_cons hA
  obtain ⟨rfl, rfl, rfl⟩ := trodAll_nil r0
  obtain rfl : args = #[v0] := by cases args; simp_all
  obtain ⟨rfl, rfl⟩ := trodVars_none hV
  obtain ⟨a0, len0, cap0, rfl⟩ := okWide_slice Try.underlying22 (hval 0 22 v0 rfl rfl)
  have k0 := h0
  have lt0 : ∀ x ∈ p0, x.block < W.heap.size := by obtain ⟨m, hm⟩ := k0; exact DataW.trod_lt m _ _ _ hm
  obtain ⟨z0, y0⟩ := open_bytes h0
  clear hA0 hval0
  refine (walk_all W _ z0 y0).mono fun e W' ⟨he, bel⟩ => ?_
  subst he
  exact ⟨_, rfl, _, _, _, [], _, [], hW', trodAll_mk1 (shut_bool Try.underlying4 _), (trodAll_cons_mk (Below.trod laid_out (by kernel_rfl) (of_decide_eq_true (by kernel_rfl)) k0 bel lt0) trodAll_mk0), rfl, bel.frame _, fun h => by cases h⟩

theorem over : Rows.fnMiddleOfRow.holds Try.pinned (OpenSpec.ofChange Rows.fnMiddleOfSpec) :=
  OpenClaim.holds_of_wide 9 Try.f9 rfl rfl rfl rfl rfl rfl rfl ⟨rfl, rfl, rfl, rfl, rfl⟩ rfl rfl rfl rfl rfl (by kernel_rfl) Try.func9 (by kernel_rfl)
    (of_decide_eq_true (by kernel_rfl)) (by unfold Func.isWrapper; first | (rw [if_pos (by decide +kernel)]; kernel_rfl) | (rw [if_neg (by decide +kernel)]; exact ⟨rfl, rfl⟩))
    (fun os started H enc _ => lifted os started H enc)

end fnMiddleOf
theorem fnMiddleOf_holds : Rows.FnMiddleOfSaid := fnMiddleOf.over
#print axioms fnMiddleOf_holds
end Go.Proofs.Ytapllhnlngnobaa

