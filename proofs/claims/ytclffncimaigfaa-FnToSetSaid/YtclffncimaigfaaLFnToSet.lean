/- The law FnToSet: for every code it returns true. Conditions: none. -/
import Derived.Test.YtclffncimaigfaaDrawS2
import Derived.Test.YtclffncimaigfaaSets
import Derived.Test.YtclffncimaigfaaSetsLaw
import Derived.Test.YtclffncimaigfaaSame
import Derived.Test.YtclffncimaigfaaLawFn
import Derived.Test.YtclffncimaigfaaOpenB
import Derived.Test.YtclffncimaigfaaRows
namespace Go.Proofs.Ytclffncimaigfaa
set_option linter.unusedVariables false
set_option linter.unusedSimpArgs false
namespace fnToSet
open Go.ChangeShapes Go.WideShapes Go.ChangeAt Go.RowKit Go.Deep

set_option maxRecDepth 100000 in
set_option maxHeartbeats 8000000 in
theorem walk_all (w : World) (v0 : Value) (n0 : Nat) (h0 : BIn w v0 n0) :
    Calls Try.prog 6 #[v0] w fun e w' => e = .returned (.bool true) ∧ Below w.heap.size w w' := by
  obtain ⟨ao, cap, rfl, hn1, hn2, _⟩ := id h0
  rw [maxLen_val] at hn2
  have hN : n0 ≤ 9223372036854775807 := by omega
  have H0 := Lib.hid h0
  clear h0 hn1 hn2
  by_cases hlong : n0 ≤ 1048576
  rotate_left
  · clear H0
    go_enter Try.func6, Try.ntmps6
    go_wp2
    go_ret
    exact ⟨rfl, Below.refl _ _⟩
  go_enter Try.func6, Try.ntmps6
  go_wp2_with fail
  refine (drawToSet_any _ _ _ H0.out).mono ?_
  rintro e w1 ⟨vd, d, p, s, rfl, hd, hdn, hb⟩
  clear H0 hlong
  have H1 : Hid (Below w1.heap.size w1 w1) := Below.refl _ _
  have hd6 := hdn.six
  have ci : ∀ (w' : World) (p : Int), Below w1.heap.size w1 w' → Calls Try.prog 21 #[vd, .int .i64 p, .int .i64 s] w' (Quiet (.int .i64 (toV d p s)) w') := fun w' p hb => implToSet_any _ _ _ _ _ _ _ (hd.fresh hb)
  have cs : ∀ (w' : World), Below w1.heap.size w1 w' → Calls Try.prog 20 #[vd, .int .i64 p, .int .i64 s] w' (Quiet (.int .i64 (toV d p s)) w') := fun w' hb => specToSet_any _ _ _ _ _ _ _ (hd.fresh hb)
  have HB := Lib.hid hb
  by_cases hok : ToOk d p s
  · obtain ⟨q, rfl⟩ := Int.eq_ofNat_of_zero_le hok.pt.1
    have hS := hok.set.sp
    have h1 := hok.set.one
    have h2 := hok.set.sixty
    have hq : q < d.length := by have := hok.pt.2; omega
    obtain ⟨db, dc, BB, CC, rfl, hO⟩ := hd.space hS
    have hqi : (q : Int) < (d.length : Int) := by omega
    have ck : ∀ (w' : World) (k : Nat), k < d.length → Below w1.heap.size w1 w' → Calls Try.prog 21 #[.slice (some ⟨db, 0, none⟩) d.length dc, .int .i64 k, .int .i64 s] w' (Quiet (.int .i64 (tsF d k s)) w') := fun w' k hk hb => by
      have := ci w' k hb
      rwa [toV_yes ⟨hok.set, ⟨by omega, by omega⟩⟩] at this
    have cs : ∀ (w' : World), Below w1.heap.size w1 w' → Calls Try.prog 20 #[.slice (some ⟨db, 0, none⟩) d.length dc, .int .i64 q, .int .i64 s] w' (Quiet (.int .i64 (tsF d q s)) w') := fun w' hb => by
      have := cs w' hb
      rwa [toV_yes hok] at this
    have htri : ∀ k, k < d.length → tsF d q s ≤ tsF d k s + at2 d q k ∧ 0 ≤ tsF d k s ∧ tsF d k s ≤ 60 ∧ 0 ≤ at2 d q k ∧ at2 d q k ≤ 60 := fun k hk => ⟨ts_tri hS hq hk, (tsF_bd hS hk s).1, (tsF_bd hS hk s).2, (hS.bd0 hq hk).1, (hS.bd0 hq hk).2⟩
    have hz := ts_zero (s := s) hS hq
    have hbq := tsF_bd hS hq s
    have hsh := sh_bd (k := q) h1 h2
    have CK := Lib.hid <| ck
    have CS := Lib.hid <| cs
    have HT := Lib.hid <| htri
    have HO := Lib.hid <| hO
    have HZ := Lib.hid <| hz
    clear ci cs ck htri hO hz hS hd hdn hb hok
    go_wp2_with fail
    refine (CK.out _ q hq H1.out).mono ?_
    rintro e w2 ⟨rfl, hd2⟩
    have H2 : Hid (Below w1.heap.size w1 w2) := H1.out.trans (hd2.below _)
    clear hd2 H1
    go_wp2_with fail
    refine (CS.out _ H2.out).mono ?_
    rintro e w3 ⟨rfl, hd3⟩
    have H3 : Hid (Below w1.heap.size w1 w3) := H2.out.trans (hd3.below _)
    clear hd3 H2 CS
    have hn0 : decide (tsF d q s < 0) = false := by simp; omega
    go_wp2
    go_loopw [7] (fun kv wr => ∃ k : Nat, k ≤ d.length ∧ kv = .int .i64 k ∧ Hid (Below w1.heap.size w1 wr)) (fun kv _ => d.length - (intOf kv).toNat)
    case atStart => exact ⟨0, Nat.zero_le _, rfl, H3⟩
    case round =>
      clear H3
      obtain ⟨k, hk, rfl, H3⟩ := hrel
      by_cases hkl : k < d.length
      · have hki : (k : Int) < (d.length : Int) := by omega
        have c1 := (HO.out.keep H3.out).top q hq
        have c2 := (HO.out.keep H3.out).cell q k hq hkl
        obtain ⟨t1, t2, t3, t4, t5⟩ := HT.out k hkl
        have e1 : decide (tsF d k s + at2 d q k < tsF d q s) = false := by simp; omega
        have HC : Hid (∀ m : Nat, Calls Try.prog 21 #[.slice (some ⟨db, 0, none⟩) d.length dc, .int .i64 k, .int .i64 s] (wr.drewN m) (Quiet (.int .i64 (tsF d k s)) (wr.drewN m))) := fun m => CK.out _ k hkl (below_drewN H3.out m)
        go_wp2_with fail
        go_quiet ((go_at_call 21; exact quiet_in (HC.out _)))
        clear c1 c2 t1 t2 t3 t4 t5 e1
        go_wp2
        go_roundw
        case rel => exact ⟨k + 1, by omega, by go_num, below_drewN H3.out _⟩
        case measure => simp [intOf]; omega
      · by_cases hb : hasB s q
        · have e1 : (s / 2 ^ q % 2 == 1) = true := by simpa [hasB] using hb
          have e2 : (tsF d q s == 0) = true := by simpa using HZ.out.2 hb
          clear hb
          go_wp2
          go_ret
          exact ⟨rfl, below_chain HB.out H3.out⟩
        · have e1 : (s / 2 ^ q % 2 == 1) = false := by simpa [hasB] using hb
          have e2 : (tsF d q s == 0) = false := by simpa using fun h => hb (HZ.out.1 h)
          clear hb
          go_wp2
          go_ret
          exact ⟨rfl, below_chain HB.out H3.out⟩
  · have cs2 : ∀ (w' : World), Below w1.heap.size w1 w' → Calls Try.prog 20 #[vd, .int .i64 p, .int .i64 s] w' (Gives (.int .i64 (-1)) w') := fun w' hb => by
      have := gives_of_quiet (cs w' hb)
      rwa [toV_no hok] at this
    have ci2 : ∀ (w' : World), Below w1.heap.size w1 w' → Calls Try.prog 21 #[vd, .int .i64 p, .int .i64 s] w' (Gives (.int .i64 (-1)) w') := fun w' hb => by
      have := gives_of_quiet (ci w' p hb)
      rwa [toV_no hok] at this
    have CI := Lib.hid <| ci2
    have CS := Lib.hid <| cs2
    obtain ⟨db, dc, _, _, rfl, -⟩ := id hd.open
    clear ci cs ci2 cs2 hd hdn hb hok
    go_wp2_with fail
    refine (CI.out _ H1.out).mono ?_
    rintro e w2 ⟨rfl, hd_w2⟩
    have H2 : Hid (Below w1.heap.size w1 w2) := below_chain H1.out hd_w2
    clear hd_w2 H1
    go_wp2_with fail
    refine (CS.out _ H2.out).mono ?_
    rintro e w3 ⟨rfl, hd_w3⟩
    have H3 : Hid (Below w1.heap.size w1 w3) := below_chain H2.out hd_w3
    clear hd_w3 H2
    go_wp2_with fail
    refine (alive_any _).mono ?_
    rintro e w5 ⟨rfl, hd_w5⟩
    have H4 : Hid (Below w1.heap.size w1 w5) := below_chain H3.out hd_w5
    clear hd_w5 H3
    go_wp2
    go_ret
    exact ⟨rfl, below_chain HB.out H4.out⟩

set_option maxRecDepth 100000 in
theorem lifted (os : Os) (started : os.Started) (H : Type) (enc : TypeId × Value → H) :
    ReturnsInHanded {} Try.checked os 6 .any (Rows.fnToSetSpec.pre6 enc Try.prog Try.f6 Rows.fnToSetRow.domain false) (Rows.fnToSetSpec.post enc Try.prog Try.f6 false true false false) := by
  refine returnsInHanded_of_change (C := Try.checked) own_knob started (by kernel_rfl) Try.func6
    (ChangeSpec.witness6 (enc := enc) (C := Try.checked) false ⟨#[], #[.slice none 0 0], []⟩ 8 (by kernel_rfl) (by kernel_rfl) (by kernel_rfl) (by kernel_rfl)) ?_
  intro W base args ds gs before hval0 hW hcnd _
  have hval : ∀ (j : Nat) t v, Try.f6.params[j]? = some t → args[j]? = some v → Value.okWide Try.prog W .any base t v := hval0
  have hW' := hW
  obtain ⟨p, q, hA0, hV, rfl, hfz, hnd⟩ := hW
  have hA : DataW.TrodAll enc Try.prog W 0 (fun _ => true) true Try.f6.params.toList args.toList ds p := hA0
  rw [Try.params6] at hA hval
  obtain ⟨v0, vs0, e0, es0, p0, q0, hargs, rfl, rfl, h0, r0⟩ := trodAll_cons hA
  obtain ⟨rfl, rfl, rfl⟩ := trodAll_nil r0
  obtain rfl : args = #[v0] := by cases args; simp_all
  obtain ⟨rfl, rfl⟩ := trodVars_none hV
  obtain ⟨a0, len0, cap0, rfl⟩ := okWide_slice Try.underlying29 (hval 0 29 v0 rfl rfl)
  have k0 := h0
  have lt0 : ∀ x ∈ p0, x.block < W.heap.size := by obtain ⟨m, hm⟩ := k0; exact DataW.trod_lt m _ _ _ hm
  obtain ⟨z0, y0⟩ := open_bytes h0
  clear hA0 hval0
  refine (walk_all W _ z0 y0).mono fun e W' ⟨he, bel⟩ => ?_
  subst he
  exact ⟨_, rfl, _, _, _, [], _, [], hW', trodAll_mk1 (shut_bool Try.underlying4 _), (trodAll_cons_mk (Below.trod laid_out (by kernel_rfl) (of_decide_eq_true (by kernel_rfl)) k0 bel lt0) trodAll_mk0), rfl, bel.frame _, fun h => by cases h⟩

theorem over : Rows.fnToSetRow.holds Try.pinned (OpenSpec.ofChange Rows.fnToSetSpec) :=
  OpenClaim.holds_of_wide 6 Try.f6 rfl rfl rfl rfl rfl rfl rfl ⟨rfl, rfl, rfl, rfl, rfl⟩ rfl rfl rfl rfl rfl (by kernel_rfl) Try.func6 (by kernel_rfl)
    (of_decide_eq_true (by kernel_rfl)) (by unfold Func.isWrapper; first | (rw [if_pos (by decide +kernel)]; kernel_rfl) | (rw [if_neg (by decide +kernel)]; exact ⟨rfl, rfl⟩))
    (fun os started H enc _ => lifted os started H enc)

end fnToSet
theorem fnToSet_holds : Rows.FnToSetSaid := fnToSet.over
#print axioms fnToSet_holds
end Go.Proofs.Ytclffncimaigfaa

