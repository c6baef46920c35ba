/- The law FnOrderOk: for every code it returns true. Conditions: none. -/
import Derived.Test.YtknnelenmedonaaDrawP
import Derived.Test.YtknnelenmedonaaOrdW
import Derived.Test.YtknnelenmedonaaSevenLaw
import Derived.Test.YtknnelenmedonaaSame
import Derived.Test.YtknnelenmedonaaLawFn
import Derived.Test.YtknnelenmedonaaOpenB
import Derived.Test.YtknnelenmedonaaRows
namespace Go.Proofs.Ytknnelenmedonaa
set_option linter.unusedVariables false
set_option linter.unusedSimpArgs false
namespace fnOrderOk
open Go.ChangeShapes Go.WideShapes Go.ChangeAt Go.RowKit Go.Deep

theorem ord_zero : OrdP [0] := ⟨by decide, by decide, fun i hi => by
  match i, hi with
  | 0, _ => exact ⟨by decide, by decide⟩, fun i j hj hi => by simp at hi; omega⟩
theorem ord_nil : ¬ OrdP [] := fun h => absurd h.one (by decide)
set_option maxRecDepth 100000 in
set_option maxHeartbeats 8000000 in
theorem walk_all (w : World) (v0 : Value) (n0 : Nat) (h0 : BIn w v0 n0) :
    Calls Try.prog 4 #[v0] w fun e w' => e = .returned (.bool true) ∧ Below w.heap.size w w' := by
  obtain ⟨ao, cap, rfl, hn1, hn2, _⟩ := id h0
  rw [maxLen_val] at hn2
  have hN : n0 ≤ 9223372036854775807 := by omega
  have H0 := Lib.hid h0
  clear h0 hn1 hn2
  by_cases hlong : n0 ≤ 1048576
  rotate_left
  · clear H0
    go_enter Try.func4, Try.ntmps4
    go_wp2
    go_ret
    exact ⟨rfl, Below.refl _ _⟩
  go_enter Try.func4, Try.ntmps4
  go_wp2_with fail
  refine (drawOrderOk_any _ _ _ H0.out).mono ?_
  rintro e w1 ⟨vf, f, rfl, hf, hf7, hb⟩
  clear H0 hlong
  have H1 : Hid (Below w1.heap.size w1 w1) := Below.refl _ _
  obtain ⟨fb, fc, rfl, -⟩ := id hf.open
  have HF := Lib.hid hf
  have HB := Lib.hid hb
  have ci : ∀ (w' : World), Below w1.heap.size w1 w' → Calls Try.prog 17 #[.slice (some ⟨fb, 0, none⟩) f.length fc] w' (Gives (.bool (decP (OrdP f))) w') := fun w' hb => gives_of_quiet (implOrderOk_any _ _ _ _ _ (HF.out.fresh hb))
  have cs : ∀ (w' : World), Below w1.heap.size w1 w' → Calls Try.prog 15 #[.slice (some ⟨fb, 0, none⟩) f.length fc] w' (Gives (.bool (decP (OrdP f))) w') := fun w' hb => gives_of_quiet (specOrderOk_any _ _ _ _ _ (HF.out.fresh hb))
  have cr : ∀ (w' : World) (lo hi : Nat) (v : Value), IMem lo hi w' v (revO f) → Calls Try.prog 17 #[v] w' (Gives (.bool (decP (OrdP f))) w') := fun w' lo hi v hv => by
    have := gives_of_quiet (implOrderOk_any _ _ _ _ _ hv)
    rwa [ord_rev_iff] at this
  have c0 : ∀ (w' : World), Calls Try.prog 17 #[.slice (some ⟨w'.heap.size, 0, none⟩) 1 1] (w'.alloc (.cells #[.int .i64 0] 3)) (Gives (.bool true) (w'.alloc (.cells #[.int .i64 0] 3))) := fun w' => by
    have := gives_of_quiet (implOrderOk_any _ _ _ _ _ (IMem.one w' 0))
    rwa [decP_yes ord_zero] at this
  have cn : ∀ (w' : World), Calls Try.prog 17 #[.slice (some ⟨w'.heap.size, 0, none⟩) 0 0] (w'.alloc (.cells #[] 3)) (Gives (.bool false) (w'.alloc (.cells #[] 3))) := fun w' => by
    have := gives_of_quiet (implOrderOk_any _ _ _ _ _ (IMem.empty w'))
    rwa [decP_no ord_nil] at this
  have CI := Lib.hid <| ci
  have CS := Lib.hid <| cs
  have CR := Lib.hid <| cr
  have C0 := Lib.hid <| c0
  have CN := Lib.hid <| cn
  clear ci cs cr c0 cn hf hb
  generalize decP (OrdP f) = ok at *
  go_wp2_with fail
  refine (CI.out _ H1.out).mono ?_
  rintro e w2 ⟨rfl, hd_w2⟩
  have H2 : Hid (Below w1.heap.size w1 w2) := below_chain H1.out hd_w2
  clear hd_w2 H1
  go_wp2_with fail
  refine (CS.out _ H2.out).mono ?_
  rintro e w3 ⟨rfl, hd_w3⟩
  have H3 : Hid (Below w1.heap.size w1 w3) := below_chain H2.out hd_w3
  clear hd_w3 H2
  have HI : Hid (IMem w1.heap.size (w3.alloc (.cells #[] 3)).heap.size (w3.alloc (.cells #[] 3)) (.slice (some ⟨w3.heap.size, 0, none⟩) 0 0) (genL (fun k => iat f (f.length - 1 - k)) 0)) := (IMem.empty w3).widen H3.out.size (by simp)
  have H4 : Hid (Below w1.heap.size w1 (w3.alloc (.cells #[] 3))) := H3.out.alloc H3.out.size _
  clear H3
  go_wp2
  go_loopw [5, 6] (fun bv kv wr => ∃ m : Nat, m ≤ f.length ∧ kv = .int .i64 ((f.length : Int) - 1 - m) ∧ Hid (IMem w1.heap.size wr.heap.size wr bv (genL (fun k => iat f (f.length - 1 - k)) m)) ∧ Hid (Below w1.heap.size w1 wr)) (fun _ kv _ => (intOf kv + 1).toNat)
  case atStart => exact ⟨0, Nat.zero_le _, by simp, HI, H4⟩
  case round =>
    clear HI H4
    obtain ⟨m, hm, rfl, HI, H4⟩ := hrel
    by_cases hml : m < f.length
    · obtain ⟨i, hi⟩ : ∃ i : Nat, (f.length : Int) - 1 - m = (i : Int) := ⟨f.length - 1 - m, by omega⟩
      rw [hi]
      have him : i = f.length - 1 - m := by omega
      have c1 := (HF.out.fresh H4.out).cellAt (i := i) (by omega)
      have hil : (i : Int) < (f.length : Int) := by omega
      have hs := H4.out.size
      have hgl : (genL (fun k => iat f (f.length - 1 - k)) m).length = m := genL_length _ _
      have hx : iat f i = (fun k => iat f (f.length - 1 - k)) m := by show _ = iat f (f.length - 1 - m); rw [him]
      have HX := Lib.hid hx
      have HI0 := Lib.hid hi
      clear hx hi him
      go_wp2_with (at_builtin; refine wp_app _ rfl _ _ rfl w1.heap.size _ _ _ rfl (HI.out.alloc _) wr.heap.size 0 1 1 [iat f i] rfl rfl one_cell (by omega) (by simp; omega) ?_; intro v' w' hI' hB' _; rw [HX.out, ← genL_succ (fun k => iat f (f.length - 1 - k)) m] at hI'; have HI5 := Lib.hid hI'; have H5 := Lib.hid ((H4.out.alloc hs _).trans hB'); clear hI' hB' c1 HI H4)
      go_wp2
      go_roundw
      case rel => exact ⟨m + 1, by omega, by (have := HI0.out; congr 1; omega), HI5, H5⟩
      case measure => simp [intOf]
    · have hme : m = f.length := by omega
      subst hme
      have hk : ¬ (0 : Int) ≤ (f.length : Int) - 1 - (f.length : Int) := by omega
      have hcr := CR.out _ _ _ _ HI.out
      have HCR := Lib.hid <| hcr
      clear hcr
      go_wp2_with fail
      refine (HCR.out).mono ?_
      rintro e w5 ⟨rfl, hd_w5⟩
      have H5 : Hid (Below w1.heap.size w1 w5) := below_chain H4.out hd_w5
      clear hd_w5 H4
      go_wp2_with fail
      refine (C0.out w5).mono ?_
      rintro e w6 ⟨rfl, hb6⟩
      have H6 := Lib.hid (below_chain (H5.out.alloc H5.out.size _) hb6)
      clear hb6
      go_wp2_with fail
      refine (CN.out w6).mono ?_
      rintro e w7 ⟨rfl, hb7⟩
      have H7 := Lib.hid (below_chain (H6.out.alloc H6.out.size _) hb7)
      clear hb7 H6 H5
      go_wp2_with fail
      refine (alive_any _).mono ?_
      rintro e w8 ⟨rfl, hd_w8⟩
      have H8 : Hid (Below w1.heap.size w1 w8) := below_chain H7.out hd_w8
      clear hd_w8 H7
      go_wp2
      go_ret
      exact ⟨rfl, below_chain HB.out H8.out⟩

set_option maxRecDepth 100000 in
theorem lifted (os : Os) (started : os.Started) (H : Type) (enc : TypeId × Value → H) :
    ReturnsInHanded {} Try.checked os 4 .any (Rows.fnOrderOkSpec.pre6 enc Try.prog Try.f4 Rows.fnOrderOkRow.domain false) (Rows.fnOrderOkSpec.post enc Try.prog Try.f4 false true false false) := by
  refine returnsInHanded_of_change (C := Try.checked) own_knob started (by kernel_rfl) Try.func4
    (ChangeSpec.witness6 (enc := enc) (C := Try.checked) false ⟨#[], #[.slice none 0 0], []⟩ 8 (by kernel_rfl) (by kernel_rfl) (by kernel_rfl) (by kernel_rfl)) ?_
  intro W base args ds gs before hval0 hW hcnd _
  have hval : ∀ (j : Nat) t v, Try.f4.params[j]? = some t → args[j]? = some v → Value.okWide Try.prog W .any base t v := hval0
  have hW' := hW
  obtain ⟨p, q, hA0, hV, rfl, hfz, hnd⟩ := hW
  have hA : DataW.TrodAll enc Try.prog W 0 (fun _ => true) true Try.f4.params.toList args.toList ds p := hA0
  rw [Try.params4] at hA hval
  obtain ⟨v0, vs0, e0, es0, p0, q0, hargs, rfl, rfl, h0, r0⟩ := trodAll_cons hA
  obtain ⟨rfl, rfl, rfl⟩ := trodAll_nil r0
  obtain rfl : args = #[v0] := by cases args; simp_all
  obtain ⟨rfl, rfl⟩ := trodVars_none hV
  obtain ⟨a0, len0, cap0, rfl⟩ := okWide_slice Try.underlying26 (hval 0 26 v0 rfl rfl)
  have k0 := h0
  have lt0 : ∀ x ∈ p0, x.block < W.heap.size := by obtain ⟨m, hm⟩ := k0; exact DataW.trod_lt m _ _ _ hm
  obtain ⟨z0, y0⟩ := open_bytes h0
  clear hA0 hval0
  refine (walk_all W _ z0 y0).mono fun e W' ⟨he, bel⟩ => ?_
  subst he
  exact ⟨_, rfl, _, _, _, [], _, [], hW', trodAll_mk1 (shut_bool Try.underlying4 _), (trodAll_cons_mk (Below.trod laid_out (by kernel_rfl) (of_decide_eq_true (by kernel_rfl)) k0 bel lt0) trodAll_mk0), rfl, bel.frame _, fun h => by cases h⟩

theorem over : Rows.fnOrderOkRow.holds Try.pinned (OpenSpec.ofChange Rows.fnOrderOkSpec) :=
  OpenClaim.holds_of_wide 4 Try.f4 rfl rfl rfl rfl rfl rfl rfl ⟨rfl, rfl, rfl, rfl, rfl⟩ rfl rfl rfl rfl rfl (by kernel_rfl) Try.func4 (by kernel_rfl)
    (of_decide_eq_true (by kernel_rfl)) (by unfold Func.isWrapper; first | (rw [if_pos (by decide +kernel)]; kernel_rfl) | (rw [if_neg (by decide +kernel)]; exact ⟨rfl, rfl⟩))
    (fun os started H enc _ => lifted os started H enc)

end fnOrderOk
theorem fnOrderOk_holds : Rows.FnOrderOkSaid := fnOrderOk.over
#print axioms fnOrderOk_holds
end Go.Proofs.Ytknnelenmedonaa

