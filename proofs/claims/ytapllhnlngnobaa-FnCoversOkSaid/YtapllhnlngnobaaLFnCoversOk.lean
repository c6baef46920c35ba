/- The law FnCoversOk: for every code it returns true. Conditions: none. -/
import Derived.Test.YtapllhnlngnobaaDrawC
import Derived.Test.YtapllhnlngnobaaDist
import Derived.Test.YtapllhnlngnobaaCovers
import Derived.Test.YtapllhnlngnobaaFnPlain2
import Derived.Test.YtapllhnlngnobaaSame
import Derived.Test.YtapllhnlngnobaaLawFn
import Derived.Test.YtapllhnlngnobaaOpenB
import Derived.Test.YtapllhnlngnobaaRows
namespace Go.Proofs.Ytapllhnlngnobaa
set_option linter.unusedVariables false
set_option linter.unusedSimpArgs false
namespace fnCoversOk
open Go.ChangeShapes Go.WideShapes Go.ChangeAt Go.RowKit Go.Deep

def plus (f : List Int) : List Int := genL (fun i => iat f i + 1) f.length
def topF (f : List Int) (k : Nat) : Int := maxN (fun i => iat f i + 1) 0 k
theorem topF_step (f : List Int) (k : Nat) : (if topF f k < iat f k + 1 then iat f k + 1 else topF f k) = topF f (k + 1) := maxN_step (fun i => iat f i + 1) 0 k
theorem cov_plus {d : List (List Int)} {f : List Int} (h : Cov d f) (ht : topF f f.length ≤ 200) : Cov d (plus f) := by
  have hl := h.vals.len
  have e : ∀ i, i < d.length → iat (plus f) i = iat f i + 1 := fun i hi => iat_genL (by omega)
  refine ⟨h.sp, vals_of (by rw [plus, genL_length]; exact hl) fun i hi => ?_, fun i hi => ?_, fun i k hi hk => ?_⟩
  · rw [e i hi]
    have h1 := h.vals.bd hi
    have h2 : iat f i + 1 ≤ topF f f.length := maxN_ge (F := fun i => iat f i + 1) (m := 0) (n := f.length) (i := i) (by omega)
    omega
  · rw [e i hi]
    have := h.pos i hi
    omega
  · rw [e i hi, e k hk]
    have := h.ok i k hi hk
    omega
theorem topF_bd {f : List Int} (h : VBd f) {k : Nat} (hk : k ≤ f.length) : 0 ≤ topF f k ∧ topF f k ≤ 202 :=
  ⟨le_maxN _ _ _, maxN_le (by omega) fun i hi => by have := h i (by omega); omega⟩


set_option maxRecDepth 100000 in
set_option maxHeartbeats 8000000 in
theorem walk_all (w : World) (v0 : Value) (n0 : Nat) (h0 : BIn w v0 n0) :
    Calls Try.prog 7 #[v0] w fun e w' => e = .returned (.bool true) ∧ Below w.heap.size w w' := by
  obtain ⟨ao, cap, rfl, hn1, hn2, _⟩ := id h0
  rw [maxLen_val] at hn2
  have hN : n0 ≤ 9223372036854775807 := by omega
  have H0 := Lib.hid h0
  clear h0 hn1 hn2
  by_cases hlong : n0 ≤ 1048576
  rotate_left
  · clear H0
    go_enter Try.func7, Try.ntmps7
    go_wp2
    go_ret
    exact ⟨rfl, Below.refl _ _⟩
  go_enter Try.func7, Try.ntmps7
  go_wp2_with fail
  refine (drawCoversOk_any _ _ _ H0.out).mono ?_
  rintro e w1 ⟨vd, vf, d, f, rfl, hd, hf, hdn, hvf, hfl, hb⟩
  clear H0 hlong
  have H1 : Hid (Below w1.heap.size w1 w1) := Below.refl _ _
  have hd6 := hdn.six
  obtain ⟨fb, fc, rfl, _⟩ := id hf.open
  obtain ⟨db, dc, _, _, rfl, _⟩ := id hd.open
  have HD := Lib.hid hd
  have HF := Lib.hid hf
  have HB := Lib.hid hb
  have HV := Lib.hid hvf
  have ci : ∀ (w' : World), Below w1.heap.size w1 w' → Calls Try.prog 31 #[.slice (some ⟨db, 0, none⟩) d.length dc, .slice (some ⟨fb, 0, none⟩) f.length fc] w' (Gives (.bool (decP (Cov d f))) w') := fun w' hb => gives_of_quiet (implCoversOk_any _ _ _ _ _ _ _ _ _ (HD.out.fresh hb) (HF.out.fresh hb))
  have cs : ∀ (w' : World), Below w1.heap.size w1 w' → Calls Try.prog 32 #[.slice (some ⟨db, 0, none⟩) d.length dc, .slice (some ⟨fb, 0, none⟩) f.length fc] w' (Gives (.bool (decP (Cov d f))) w') := fun w' hb => gives_of_quiet (specCoversOk_any _ _ _ _ _ _ _ _ _ (HD.out.fresh hb) (HF.out.fresh hb))
  have cp : ∀ (w' : World) (lo hi : Nat) (v : Value), IMem lo hi w' v (plus f) → Below w1.heap.size w1 w' → Calls Try.prog 31 #[.slice (some ⟨db, 0, none⟩) d.length dc, v] w' (Gives (.bool (decP (Cov d (plus f)))) w') := fun w' lo hi v hv hb => gives_of_quiet (implCoversOk_any _ _ _ _ _ _ _ _ _ (HD.out.fresh hb) hv)
  have cx : ∀ (w' : World), Below w1.heap.size w1 w' → Calls Try.prog 33 #[.slice (some ⟨db, 0, none⟩) d.length dc] w' (Gives (.bool (decP (Space d))) w') := fun w' hb => gives_of_quiet (specSpaceOk_any _ _ _ _ _ (HD.out.fresh hb))
  have CI := Lib.hid <| ci
  have CS := Lib.hid <| cs
  have CP := Lib.hid <| cp
  have CX := Lib.hid <| cx
  clear ci cs cp cx hd hf hb hdn hvf
  go_wp2_with fail
  refine (CI.out _ H1.out).mono ?_
  rintro e w2 ⟨rfl, hd_w2⟩
  have H2 : Hid (Below w1.heap.size w1 w2) := below_chain H1.out hd_w2
  clear hd_w2 H1
  go_wp2_with fail
  refine (CS.out _ H2.out).mono ?_
  rintro e w3 ⟨rfl, hd_w3⟩
  have H3 : Hid (Below w1.heap.size w1 w3) := below_chain H2.out hd_w3
  clear hd_w3 H2
  have HI : Hid (IMem w1.heap.size (w3.alloc (.cells #[] 3)).heap.size (w3.alloc (.cells #[] 3)) (.slice (some ⟨w3.heap.size, 0, none⟩) 0 0) (genL (fun i => iat f i + 1) 0)) := (IMem.empty w3).widen H3.out.size (by simp)
  have H4 : Hid (Below w1.heap.size w1 (w3.alloc (.cells #[] 3))) := H3.out.alloc H3.out.size _
  clear H3
  go_wp2
  go_loopw [6, 7, 8] (fun mv bv kv wr => ∃ k : Nat, k ≤ f.length ∧ kv = .int .i64 k ∧ bv = .int .i64 (topF f k) ∧ Hid (IMem w1.heap.size wr.heap.size wr mv (genL (fun i => iat f i + 1) k)) ∧ Hid (Below w1.heap.size w1 wr)) (fun _ _ kv _ => f.length - (intOf kv).toNat)
  case atStart => exact ⟨0, Nat.zero_le _, rfl, rfl, HI, H4⟩
  case round =>
    clear HI H4
    obtain ⟨k, hk, rfl, rfl, HI, H4⟩ := hrel
    by_cases hkl : k < f.length
    · have hki : (k : Int) < (f.length : Int) := by omega
      have c1 := (HF.out.fresh H4.out).cellAt hkl
      have hv := HV.out k hkl
      have ht := topF_bd HV.out (show k ≤ f.length by omega)
      have hs := H4.out.size
      have hlen : (genL (fun i => iat f i + 1) k).length = k := genL_length _ _
      go_wp2_with (at_builtin; refine wp_app _ rfl _ _ rfl w1.heap.size _ _ _ rfl (HI.out.alloc _) wr.heap.size 0 1 1 [iat f k + 1] rfl rfl one_cell (by omega) (by simp; omega) ?_; intro v' w' hI' hB' _; rw [← genL_succ (fun i => iat f i + 1) k] at hI'; have HI5 := Lib.hid hI'; have H5 := Lib.hid ((H4.out.alloc hs _).trans hB'); have c2 := (HF.out.fresh H5.out).cellAt hkl; clear hI' hB' c1 HI H4)
      go_wp2
      go_roundw
      case rel => exact ⟨k + 1, by omega, by go_num, by rw [← topF_step], HI5, H5⟩
      case measure => simp [intOf]; omega
    · have hke : k = f.length := by omega
      subst hke
      by_cases hok : Cov d f
      · rw [decP_yes hok]
        have hS := hok.sp
        have hone := hS.one
        have cx := CX.out
        have cdi : ∀ (w' : World) (k : Nat), k < d.length → Below w1.heap.size w1 w' → Calls Try.prog 26 #[.slice (some ⟨db, 0, none⟩) d.length dc, .int .i64 k] w' (GivesI (row d k) w') := fun w' k hk hb => by
          have := implDistancesFrom_any _ _ _ _ (k : Int) _ (HD.out.fresh hb)
          rwa [distV_yes ⟨hS, by omega, by omega⟩] at this
        have cro : ∀ (w' : World) (lo hi : Nat) (v : Value) (k : Nat), k < d.length → IVal lo hi w' v (row d k) → Below w1.heap.size w1 w' → Calls Try.prog 31 #[.slice (some ⟨db, 0, none⟩) d.length dc, v] w' (Gives (.bool true) w') := fun w' lo hi v k hk hv hb => by
          have := gives_of_quiet (implCoversOk_any _ _ _ _ _ _ _ _ _ (HD.out.fresh hb) (hv.mem (ne_nil_of (hS.sq k hk) hone)))
          rwa [decP_yes (cov_row hS hk)] at this
        rw [decP_yes hS] at cx
        have CX1 := Lib.hid <| cx
        have CDI := Lib.hid <| cdi
        have CRO := Lib.hid <| cro
        clear cx cdi cro hS
        by_cases ht : topF f f.length ≤ 200
        · have cp := CP.out _ _ _ _ HI.out H4.out
          rw [decP_yes (cov_plus hok ht)] at cp
          have CP1 := Lib.hid <| cp
          clear cp hok
          go_wp2_with fail
          refine (CP1.out).mono ?_
          rintro e w5 ⟨rfl, hd_w5⟩
          have H5 : Hid (Below w1.heap.size w1 w5) := below_chain H4.out hd_w5
          clear hd_w5 H4
          go_wp2_with fail
          refine (CX1.out _ H5.out).mono ?_
          rintro e w6 ⟨rfl, hd_w6⟩
          have HX : Hid (Below w1.heap.size w1 w6) := below_chain H5.out hd_w6
          clear hd_w6 H5
          go_wp2
          go_loopw [9] (fun kv wr => ∃ k : Nat, k ≤ d.length ∧ kv = .int .i64 k ∧ Hid (Below w1.heap.size w1 wr)) (fun kv _ => d.length - (intOf kv).toNat)
          case atStart => exact ⟨0, Nat.zero_le _, rfl, HX⟩
          case round =>
            clear HX
            obtain ⟨k, hk, rfl, HX⟩ := hrel
            by_cases hkl : k < d.length
            · have hki : (k : Int) < (d.length : Int) := by omega
              go_wp2_with fail
              refine (CDI.out _ k hkl HX.out).mono ?_
              rintro e w8 ⟨vr, rfl, hr, hb8⟩
              have cr := CRO.out _ _ _ _ k hkl hr (below_chain HX.out hb8)
              have CR := Lib.hid <| cr
              have HY := Lib.hid (below_chain HX.out hb8)
              clear cr hr hb8
              go_wp2_with fail
              refine (CR.out).mono ?_
              rintro e w9 ⟨rfl, hd_w9⟩
              have HZ : Hid (Below w1.heap.size w1 w9) := below_chain HY.out hd_w9
              clear hd_w9 HY
              go_wp2
              go_roundw
              case rel => exact ⟨k + 1, by omega, by go_num, HZ⟩
              case measure => simp [intOf]; omega
            · go_wp2
              go_ret
              exact ⟨rfl, below_chain HB.out HX.out⟩
        · clear hok
          have ht' : decide (topF f f.length ≤ 200) = false := by simpa using ht
          go_wp2_with fail
          refine (CX1.out _ H4.out).mono ?_
          rintro e w6 ⟨rfl, hd_w6⟩
          have HX : Hid (Below w1.heap.size w1 w6) := below_chain H4.out hd_w6
          clear hd_w6 H4
          go_wp2
          go_loopw [9] (fun kv wr => ∃ k : Nat, k ≤ d.length ∧ kv = .int .i64 k ∧ Hid (Below w1.heap.size w1 wr)) (fun kv _ => d.length - (intOf kv).toNat)
          case atStart => exact ⟨0, Nat.zero_le _, rfl, HX⟩
          case round =>
            clear HX
            obtain ⟨k, hk, rfl, HX⟩ := hrel
            by_cases hkl : k < d.length
            · have hki : (k : Int) < (d.length : Int) := by omega
              go_wp2_with fail
              refine (CDI.out _ k hkl HX.out).mono ?_
              rintro e w8 ⟨vr, rfl, hr, hb8⟩
              have cr := CRO.out _ _ _ _ k hkl hr (below_chain HX.out hb8)
              have CR := Lib.hid <| cr
              have HY := Lib.hid (below_chain HX.out hb8)
              clear cr hr hb8
              go_wp2_with fail
              refine (CR.out).mono ?_
              rintro e w9 ⟨rfl, hd_w9⟩
              have HZ : Hid (Below w1.heap.size w1 w9) := below_chain HY.out hd_w9
              clear hd_w9 HY
              go_wp2
              go_roundw
              case rel => exact ⟨k + 1, by omega, by go_num, HZ⟩
              case measure => simp [intOf]; omega
            · go_wp2
              go_ret
              exact ⟨rfl, below_chain HB.out HX.out⟩
      · rw [decP_no hok]
        clear hok
        have cx := CX.out
        by_cases hS : Space d
        · have hone := hS.one
          have cdi : ∀ (w' : World) (k : Nat), k < d.length → Below w1.heap.size w1 w' → Calls Try.prog 26 #[.slice (some ⟨db, 0, none⟩) d.length dc, .int .i64 k] w' (GivesI (row d k) w') := fun w' k hk hb => by
            have := implDistancesFrom_any _ _ _ _ (k : Int) _ (HD.out.fresh hb)
            rwa [distV_yes ⟨hS, by omega, by omega⟩] at this
          have cro : ∀ (w' : World) (lo hi : Nat) (v : Value) (k : Nat), k < d.length → IVal lo hi w' v (row d k) → Below w1.heap.size w1 w' → Calls Try.prog 31 #[.slice (some ⟨db, 0, none⟩) d.length dc, v] w' (Gives (.bool true) w') := fun w' lo hi v k hk hv hb => by
            have := gives_of_quiet (implCoversOk_any _ _ _ _ _ _ _ _ _ (HD.out.fresh hb) (hv.mem (ne_nil_of (hS.sq k hk) hone)))
            rwa [decP_yes (cov_row hS hk)] at this
          rw [decP_yes hS] at cx
          have CX1 := Lib.hid <| cx
          have CDI := Lib.hid <| cdi
          have CRO := Lib.hid <| cro
          clear cx cdi cro hS
          go_wp2_with fail
          refine (CX1.out _ H4.out).mono ?_
          rintro e w6 ⟨rfl, hd_w6⟩
          have HX : Hid (Below w1.heap.size w1 w6) := below_chain H4.out hd_w6
          clear hd_w6 H4
          go_wp2
          go_loopw [9] (fun kv wr => ∃ k : Nat, k ≤ d.length ∧ kv = .int .i64 k ∧ Hid (Below w1.heap.size w1 wr)) (fun kv _ => d.length - (intOf kv).toNat)
          case atStart => exact ⟨0, Nat.zero_le _, rfl, HX⟩
          case round =>
            clear HX
            obtain ⟨k, hk, rfl, HX⟩ := hrel
            by_cases hkl : k < d.length
            · have hki : (k : Int) < (d.length : Int) := by omega
              go_wp2_with fail
              refine (CDI.out _ k hkl HX.out).mono ?_
              rintro e w8 ⟨vr, rfl, hr, hb8⟩
              have cr := CRO.out _ _ _ _ k hkl hr (below_chain HX.out hb8)
              have CR := Lib.hid <| cr
              have HY := Lib.hid (below_chain HX.out hb8)
              clear cr hr hb8
              go_wp2_with fail
              refine (CR.out).mono ?_
              rintro e w9 ⟨rfl, hd_w9⟩
              have HZ : Hid (Below w1.heap.size w1 w9) := below_chain HY.out hd_w9
              clear hd_w9 HY
              go_wp2
              go_roundw
              case rel => exact ⟨k + 1, by omega, by go_num, HZ⟩
              case measure => simp [intOf]; omega
            · go_wp2
              go_ret
              exact ⟨rfl, below_chain HB.out HX.out⟩
        · rw [decP_no hS] at cx
          have CX1 := Lib.hid <| cx
          clear cx hS
          go_wp2_with fail
          refine (CX1.out _ H4.out).mono ?_
          rintro e w6 ⟨rfl, hd_w6⟩
          have H6 : Hid (Below w1.heap.size w1 w6) := below_chain H4.out hd_w6
          clear hd_w6 H4
          go_wp2_with fail
          refine (alive_any _).mono ?_
          rintro e w7 ⟨rfl, hd_w7⟩
          have H7 : Hid (Below w1.heap.size w1 w7) := below_chain H6.out hd_w7
          clear hd_w7 H6
          go_wp2
          go_ret
          exact ⟨rfl, below_chain HB.out H7.out⟩

set_option maxRecDepth 100000 in
theorem lifted (os : Os) (started : os.Started) (H : Type) (enc : TypeId × Value → H) :
    ReturnsInHanded {} Try.checked os 7 .any (Rows.fnCoversOkSpec.pre6 enc Try.prog Try.f7 Rows.fnCoversOkRow.domain false) (Rows.fnCoversOkSpec.post enc Try.prog Try.f7 false true false false) := by
  refine returnsInHanded_of_change (C := Try.checked) own_knob started (by kernel_rfl) Try.func7
    (ChangeSpec.witness6 (enc := enc) (C := Try.checked) false ⟨#[], #[.slice none 0 0], []⟩ 8 (by kernel_rfl) (by kernel_rfl) (by kernel_rfl) (by kernel_rfl)) ?_
  intro W base args ds gs before hval0 hW hcnd _
  have hval : ∀ (j : Nat) t v, Try.f7.params[j]? = some t → args[j]? = some v → Value.okWide Try.prog W .any base t v := hval0
  have hW' := hW
  obtain ⟨p, q, hA0, hV, rfl, hfz, hnd⟩ := hW
  have hA : DataW.TrodAll enc Try.prog W 0 (fun _ => true) true Try.f7.params.toList args.toList ds p := hA0
  rw [Try.params7] at hA hval
  obtain ⟨v0, vs0, e0, es0, p0, q0, hargs, rfl, rfl, h0, r0⟩ := trodAll_cons hA
  obtain ⟨rfl, rfl, rfl⟩ := trodAll_nil r0
  obtain rfl : args = #[v0] := by cases args; simp_all
  obtain ⟨rfl, rfl⟩ := trodVars_none hV
  obtain ⟨a0, len0, cap0, rfl⟩ := okWide_slice Try.underlying22 (hval 0 22 v0 rfl rfl)
  have k0 := h0
  have lt0 : ∀ x ∈ p0, x.block < W.heap.size := by obtain ⟨m, hm⟩ := k0; exact DataW.trod_lt m _ _ _ hm
  obtain ⟨z0, y0⟩ := open_bytes h0
  clear hA0 hval0
  refine (walk_all W _ z0 y0).mono fun e W' ⟨he, bel⟩ => ?_
  subst he
  exact ⟨_, rfl, _, _, _, [], _, [], hW', trodAll_mk1 (shut_bool Try.underlying4 _), (trodAll_cons_mk (Below.trod laid_out (by kernel_rfl) (of_decide_eq_true (by kernel_rfl)) k0 bel lt0) trodAll_mk0), rfl, bel.frame _, fun h => by cases h⟩

theorem over : Rows.fnCoversOkRow.holds Try.pinned (OpenSpec.ofChange Rows.fnCoversOkSpec) :=
  OpenClaim.holds_of_wide 7 Try.f7 rfl rfl rfl rfl rfl rfl rfl ⟨rfl, rfl, rfl, rfl, rfl⟩ rfl rfl rfl rfl rfl (by kernel_rfl) Try.func7 (by kernel_rfl)
    (of_decide_eq_true (by kernel_rfl)) (by unfold Func.isWrapper; first | (rw [if_pos (by decide +kernel)]; kernel_rfl) | (rw [if_neg (by decide +kernel)]; exact ⟨rfl, rfl⟩))
    (fun os started H enc _ => lifted os started H enc)

end fnCoversOk
theorem fnCoversOk_holds : Rows.FnCoversOkSaid := fnCoversOk.over
#print axioms fnCoversOk_holds
end Go.Proofs.Ytapllhnlngnobaa

