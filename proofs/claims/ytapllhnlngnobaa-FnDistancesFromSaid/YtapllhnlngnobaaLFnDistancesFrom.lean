/- The law FnDistancesFrom: for every code it returns true. Conditions: none. -/
import Derived.Test.YtapllhnlngnobaaDrawX
import Derived.Test.YtapllhnlngnobaaApart
import Derived.Test.YtapllhnlngnobaaDist
import Derived.Test.YtapllhnlngnobaaTame
import Derived.Test.YtapllhnlngnobaaFnPlain
import Derived.Test.YtapllhnlngnobaaSame
import Derived.Test.YtapllhnlngnobaaLawFn
import Derived.Test.YtapllhnlngnobaaOpenB
import Derived.Test.YtapllhnlngnobaaRows
namespace Go.Proofs.Ytapllhnlngnobaa
set_option linter.unusedVariables false
set_option linter.unusedSimpArgs false
namespace fnDistancesFrom
open Go.ChangeShapes Go.WideShapes Go.ChangeAt Go.RowKit Go.Deep

theorem kuratowski {d : List (List Int)} (h : Space d) {p k : Nat} (hp : p < d.length) (hk : k < d.length) : apartV (row d p) (row d k) = at2 d p k := by
  have l1 := h.sq p hp
  have l2 := h.sq k hk
  have hok : ApOk (row d p) (row d k) := ⟨by rw [l1, l2], by rw [l1]; exact h.one, by rw [l1]; exact h.six,
    fun i hi => by rw [l1] at hi; have := h.bd hp hi; unfold at2 at this; omega, fun i hi => by rw [l1] at hi; have := h.bd hk hi; unfold at2 at this; omega⟩
  rw [apartV_yes hok, l1]
  have e1 : apartAt (row d p) (row d k) k ≤ apartF (row d p) (row d k) d.length := maxN_ge hk
  have e2 : apartF (row d p) (row d k) d.length ≤ at2 d p k := maxN_le (h.bd hp hk).1 fun i hi => by
    have h1 := h.tri p k i hp hk hi
    have h2 := h.tri k p i hk hp hi
    have h3 := h.sym hp hk
    simp only [apartAt]
    unfold at2 at h1 h2 h3 ⊢
    omega
  have e3 := h.own hk
  simp only [apartAt] at e1
  unfold at2 at e3 e2 ⊢
  omega

set_option maxHeartbeats 8000000 in
theorem walk_all (w : World) (v0 : Value) (n0 : Nat) (h0 : BIn w v0 n0) :
    Calls Try.prog 5 #[v0] w fun e w' => e = .returned (.bool true) ∧ Below w.heap.size w w' := by
  obtain ⟨ao, cap, rfl, hn1, hn2, _⟩ := id h0
  rw [maxLen_val] at hn2
  have hN : n0 ≤ 9223372036854775807 := by omega
  have H0 := Lib.hid h0
  clear h0 hn1 hn2
  by_cases hlong : n0 ≤ 1048576
  rotate_left
  · clear H0
    go_enter Try.func5, Try.ntmps5
    go_wp2
    go_ret
    exact ⟨rfl, Below.refl _ _⟩
  go_enter Try.func5, Try.ntmps5
  go_wp2_with fail
  refine (drawDistancesFrom_any _ _ _ H0.out).mono ?_
  rintro e w1 ⟨vd, d, p, rfl, hd, hdn, hp0, hp1, hb⟩
  clear H0 hlong
  have H1 : Hid (Below w1.heap.size w1 w1) := Below.refl _ _
  have hd6 := hdn.six
  by_cases hok : Pt d p
  · obtain ⟨q, rfl⟩ := Int.eq_ofNat_of_zero_le hok.2.1
    have hS := hok.1
    have hq : q < d.length := by have := hok.2.2; omega
    have hdv : distV d q = row d q := distV_yes hok
    obtain ⟨b, dc, BB, CC, rfl, hO⟩ := hd.space hS
    have hone := hS.one
    have HD := Lib.hid hd
    have HO := Lib.hid hO
    have HB := Lib.hid hb
    have HS := Lib.hid hS
    have cd : ∀ (w' : World) (k : Nat), Below w1.heap.size w1 w' → Calls Try.prog 26 #[.slice (some ⟨b, 0, none⟩) d.length dc, .int .i64 k] w' (GivesI (distV d k) w') := fun w' k hb => implDistancesFrom_any _ _ _ _ _ _ (HD.out.fresh hb)
    have cs : ∀ (w' : World), Below w1.heap.size w1 w' → Calls Try.prog 27 #[.slice (some ⟨b, 0, none⟩) d.length dc, .int .i64 q] w' (GivesI (distV d q) w') := fun w' hb => specDistancesFrom_any _ _ _ _ _ _ (HD.out.fresh hb)
    have ct : ∀ (w' : World) (lo hi : Nat) (v : Value), IMem lo hi w' v (row d q) → Below w1.heap.size w1 w' → Calls Try.prog 22 #[.slice (some ⟨b, 0, none⟩) d.length dc, v] w' (Gives (.bool true) w') := fun w' lo hi v hv hb => by
      have := gives_of_quiet (implTameOk_any _ _ _ _ _ _ _ _ _ (HD.out.fresh hb) hv)
      rwa [decP_yes (tame_row HS.out hq)] at this
    have CD := Lib.hid <| cd
    have CS := Lib.hid <| cs
    have CT := Lib.hid <| ct
    have HDV : Hid (∀ k : Nat, k < d.length → distV d k = row d k) := fun k hk => distV_yes ⟨HS.out, by omega, by omega⟩
    have HLR : Hid (∀ k : Nat, k < d.length → (row d k).length = d.length) := HS.out.sq
    clear cd cs ct hd hO hb hok hdn hS hdv
    go_wp2_with fail
    refine (CD.out w1 q H1.out).mono ?_
    rintro e w2 ⟨vf, rfl, hf, hb2⟩
    rw [HDV.out q hq] at hf
    have hf := hf.mem (ne_nil_of (HLR.out q hq) hone)
    obtain ⟨fb, fc, rfl, _⟩ := id hf.open
    have hfl := HLR.out q hq
    rw [hfl] at hf ⊢
    clear hfl
    have hfn : ((d.length : Int) == 0) = false := by simpa using (show d.length ≠ 0 by omega)
    have HF := Lib.hid hf
    have HB2 := Lib.hid (below_chain HB.out hb2)
    have H12 := Lib.hid hb2
    have H2 : Hid (Below w2.heap.size w2 w2) := Below.refl _ _
    clear hf hb2
    go_wp2_with fail
    refine (CS.out w2 H12.out).mono ?_
    rintro e w3 ⟨vg, rfl, hg, hb3⟩
    rw [HDV.out q hq] at hg
    have cq := gives_of_quiet (sameInts_any _ _ _ _ _ (HF.out.fresh hb3).inn hg.inn)
    rw [sameB_yes rfl] at cq
    have CQ := Lib.hid <| cq
    have H3 := Lib.hid hb3
    clear cq hg hb3
    go_wp2_with fail
    refine (CQ.out).mono ?_
    rintro e w4 ⟨rfl, hd_w4⟩
    have H4 : Hid (Below w2.heap.size w2 w4) := below_chain H3.out hd_w4
    clear hd_w4 H3
    clear CQ
    go_wp2
    go_loopw [6] (fun kv wr => ∃ k : Nat, k ≤ d.length ∧ kv = .int .i64 k ∧ Hid (Below w2.heap.size w2 wr)) (fun kv _ => d.length - (intOf kv).toNat)
    case atStart => exact ⟨0, Nat.zero_le _, rfl, H4⟩
    case round =>
      clear H4
      obtain ⟨k, hk, rfl, H4⟩ := hrel
      by_cases hkl : k < d.length
      · have hki : (k : Int) < (d.length : Int) := by omega
        have hqi : (q : Int) < (d.length : Int) := by omega
        have hc := ((HO.out.keep H12.out).keep H4.out)
        have c1 := hc.top q hq
        have c2 := hc.cell q k hq hkl
        have HC := Lib.hid (hc.dr (⟨1, rfl⟩ : Dr wr wr.drew))
        have HD4 : Hid (Below w2.heap.size w2 wr.drew) := H4.out.drew
        clear hc
        have cd : Calls Try.prog 26 #[.slice (some ⟨b, 0, none⟩) d.length dc, .int .i64 k] wr.drew (GivesI (row d k) wr.drew) := by
          have := CD.out wr.drew k (below_chain H12.out H4.out).drew
          rwa [HDV.out k hkl] at this
        have CDK := Lib.hid <| cd
        clear cd
        go_wp2_with fail
        go_region_held3 (fun w' => w'.cell? ⟨b, q, none⟩ = some (.slice (some ⟨BB q, 0, none⟩) d.length (CC q)) ∧ w'.cell? ⟨BB q, k, none⟩ = some (.int .i64 (at2 d q k)))
          (first | exact ⟨c7, c8⟩ | exact ⟨c5, c6⟩ | exact ⟨c1, c2⟩)
          (first
            | (go_at_call 26; refine CDK.out.mono ?_; rintro e w5 ⟨vk, rfl, hvk, hb5⟩; have c5 := (HC.out.keep hb5).top q hq; have c6 := (HC.out.keep hb5).cell q k hq hkl; have H5 := Lib.hid (below_chain HD4.out hb5); have HVK := Lib.hid hvk; clear hvk hb5)
            | (go_at_call 17; have ca := implApartBy_any _ _ _ _ _ (HF.out.fresh H5.out).inn HVK.out.inn; rw [kuratowski HS.out hq hkl] at ca; refine ca.mono ?_; clear ca; rintro e w6 ⟨rfl, hd6⟩; have c7 := (hd6.cell _).trans c5; have c8 := (hd6.cell _).trans c6; have H6 := Lib.hid (below_chain H5.out (hd6.below _)); clear hd6))
        clear c1 c2 c5 c6 c7 c8 HC HD4 H5 HVK
        go_wp2
        go_roundw
        case rel => exact ⟨k + 1, by omega, by go_num, H6⟩
        case measure => simp [intOf]; omega
      · go_wp2_with fail
        refine (CT.out _ _ _ _ (HF.out.fresh H4.out) (below_chain H12.out H4.out)).mono ?_
        rintro e w7 ⟨rfl, hd7⟩
        have H7 := Lib.hid (below_chain H4.out hd7)
        clear hd7
        go_wp2
        go_ret
        exact ⟨rfl, below_chain HB2.out H7.out⟩
  · have hdv := distV_no hok
    have ci := implDistancesFrom_any _ _ _ _ p _ hd
    have cs : ∀ (w' : World), Below w1.heap.size w1 w' → Calls Try.prog 27 #[vd, .int .i64 p] w' (GivesI (distV d p) w') := fun w' hb => specDistancesFrom_any _ _ _ _ _ _ (hd.fresh hb)
    rw [hdv] at ci cs
    have CI := Lib.hid <| ci
    have CS := Lib.hid <| cs
    have HB := Lib.hid hb
    clear ci cs hdv hok hd hdn hb hd6
    go_wp2_with fail
    refine CI.out.mono ?_
    rintro e w2 ⟨vf, rfl, hf, hb2⟩
    obtain ⟨fo, fc, rfl, _⟩ := id hf.inn
    have HF := Lib.hid hf
    have H2 := Lib.hid hb2
    have HB2 := Lib.hid (below_chain HB.out hb2)
    clear hf hb2
    go_wp2_with fail
    refine (CS.out w2 H2.out).mono ?_
    rintro e w3 ⟨vg, rfl, hg, hb3⟩
    have cq := gives_of_quiet (sameInts_any _ _ _ _ _ (HF.out.inn.keep hb3) hg.inn)
    rw [sameB_yes rfl] at cq
    have CQ := Lib.hid <| cq
    have H3 := Lib.hid hb3
    clear cq hg hb3
    go_wp2_with fail
    refine (CQ.out).mono ?_
    rintro e w4 ⟨rfl, hd_w4⟩
    have H4 : Hid (Below w2.heap.size w2 w4) := below_chain H3.out hd_w4
    clear hd_w4 H3
    go_wp2_with fail
    refine (alive_any _).mono ?_
    rintro e w5 ⟨rfl, hd_w5⟩
    have H5 : Hid (Below w2.heap.size w2 w5) := below_chain H4.out hd_w5
    clear hd_w5 H4
    go_wp2
    go_ret
    exact ⟨rfl, below_chain HB2.out H5.out⟩

set_option maxRecDepth 100000 in
theorem lifted (os : Os) (started : os.Started) (H : Type) (enc : TypeId × Value → H) :
    ReturnsInHanded {} Try.checked os 5 .any (Rows.fnDistancesFromSpec.pre6 enc Try.prog Try.f5 Rows.fnDistancesFromRow.domain false) (Rows.fnDistancesFromSpec.post enc Try.prog Try.f5 false true false false) := by
  refine returnsInHanded_of_change (C := Try.checked) own_knob started (by kernel_rfl) Try.func5
    (ChangeSpec.witness6 (enc := enc) (C := Try.checked) false ⟨#[], #[.slice none 0 0], []⟩ 8 (by kernel_rfl) (by kernel_rfl) (by kernel_rfl) (by kernel_rfl)) ?_
  intro W base args ds gs before hval0 hW hcnd _
  have hval : ∀ (j : Nat) t v, Try.f5.params[j]? = some t → args[j]? = some v → Value.okWide Try.prog W .any base t v := hval0
  have hW' := hW
  obtain ⟨p, q, hA0, hV, rfl, hfz, hnd⟩ := hW
  have hA : DataW.TrodAll enc Try.prog W 0 (fun _ => true) true Try.f5.params.toList args.toList ds p := hA0
  rw [Try.params5] at hA hval
  obtain ⟨v0, vs0, e0, es0, p0, q0, hargs, rfl, rfl, h0, r0⟩ := trodAll_cons hA
  obtain ⟨rfl, rfl, rfl⟩ := trodAll_nil r0
  obtain rfl : args = #[v0] := by cases args; simp_all
  obtain ⟨rfl, rfl⟩ := trodVars_none hV
  obtain ⟨a0, len0, cap0, rfl⟩ := okWide_slice Try.underlying22 (hval 0 22 v0 rfl rfl)
  have k0 := h0
  have lt0 : ∀ x ∈ p0, x.block < W.heap.size := by obtain ⟨m, hm⟩ := k0; exact DataW.trod_lt m _ _ _ hm
  obtain ⟨z0, y0⟩ := open_bytes h0
  clear hA0 hval0
  refine (walk_all W _ z0 y0).mono fun e W' ⟨he, bel⟩ => ?_
  subst he
  exact ⟨_, rfl, _, _, _, [], _, [], hW', trodAll_mk1 (shut_bool Try.underlying4 _), (trodAll_cons_mk (Below.trod laid_out (by kernel_rfl) (of_decide_eq_true (by kernel_rfl)) k0 bel lt0) trodAll_mk0), rfl, bel.frame _, fun h => by cases h⟩

theorem over : Rows.fnDistancesFromRow.holds Try.pinned (OpenSpec.ofChange Rows.fnDistancesFromSpec) :=
  OpenClaim.holds_of_wide 5 Try.f5 rfl rfl rfl rfl rfl rfl rfl ⟨rfl, rfl, rfl, rfl, rfl⟩ rfl rfl rfl rfl rfl (by kernel_rfl) Try.func5 (by kernel_rfl)
    (of_decide_eq_true (by kernel_rfl)) (by unfold Func.isWrapper; first | (rw [if_pos (by decide +kernel)]; kernel_rfl) | (rw [if_neg (by decide +kernel)]; exact ⟨rfl, rfl⟩))
    (fun os started H enc _ => lifted os started H enc)

end fnDistancesFrom
theorem fnDistancesFrom_holds : Rows.FnDistancesFromSaid := fnDistancesFrom.over
#print axioms fnDistancesFrom_holds
end Go.Proofs.Ytapllhnlngnobaa

