/- The law FnTogetherFrom: for every code it returns true. Conditions: none. -/
import Derived.Test.YtclffncimaigfaaDrawU
import Derived.Test.YtclffncimaigfaaTreeX
import Derived.Test.YtclffncimaigfaaSame
import Derived.Test.YtclffncimaigfaaLawFn
import Derived.Test.YtclffncimaigfaaOpenB
import Derived.Test.YtclffncimaigfaaRows
namespace Go.Proofs.Ytclffncimaigfaa
set_option linter.unusedVariables false
set_option linter.unusedSimpArgs false
namespace fnTogetherFrom
open Go.ChangeShapes Go.WideShapes Go.ChangeAt Go.RowKit Go.Deep

theorem tg_bd {d : List (List Int)} (h : Space d) {f a b : Nat} (hf : f < d.length) (ha : a < d.length) (hb : b < d.length) : (0 ≤ tgF d f a b ∧ tgF d f a b ≤ 120) ∧ tgF d f a b ≤ 2 * at2 d f a ∧ tgF d f a b ≤ 2 * at2 d f b ∧ tgF d f b a = tgF d f a b := by
  have t1 := h.tri a f b ha hf hb
  have t2 := h.tri f a b hf ha hb
  have t3 := h.tri f b a hf hb ha
  have e1 := (h.ent a f ha hf).2.2.1
  have e2 := (h.ent b a hb ha).2.2.1
  have b1 := (h.ent f a hf ha)
  have b2 := (h.ent f b hf hb)
  have b3 := (h.ent a b ha hb)
  obtain ⟨p1, p2, _, _⟩ := b1
  obtain ⟨q1, q2, _, _⟩ := b2
  obtain ⟨r1, r2, _, _⟩ := b3
  unfold tgF
  omega
set_option maxRecDepth 100000 in
set_option maxHeartbeats 8000000 in
theorem walk_all (w : World) (v0 : Value) (n0 : Nat) (h0 : BIn w v0 n0) :
    Calls Try.prog 12 #[v0] w fun e w' => e = .returned (.bool true) ∧ Below w.heap.size w w' := by
  obtain ⟨ao, cap, rfl, hn1, hn2, _⟩ := id h0
  rw [maxLen_val] at hn2
  have hN : n0 ≤ 9223372036854775807 := by omega
  have H0 := Lib.hid h0
  clear h0 hn1 hn2
  by_cases hlong : n0 ≤ 1048576
  rotate_left
  · clear H0
    go_enter Try.func12, Try.ntmps12
    go_wp2
    go_ret
    exact ⟨rfl, Below.refl _ _⟩
  go_enter Try.func12, Try.ntmps12
  go_wp2_with fail
  refine (drawTogetherFrom_any _ _ _ H0.out).mono ?_
  rintro e w1 ⟨vd, d, f, a, b, rfl, hd, hD, hb⟩
  clear H0 hlong
  have H1 : Hid (Below w1.heap.size w1 w1) := Below.refl _ _
  have hd6 := hD.six
  have hd0 := hd
  obtain ⟨db, dc, _, _, rfl, -⟩ := id hd.open
  have HD := Lib.hid hd
  have HB := Lib.hid hb
  have ci : ∀ (w' : World) (f a b : Int), Below w1.heap.size w1 w' → Calls Try.prog 36 #[.slice (some ⟨db, 0, none⟩) d.length dc, .int .i64 f, .int .i64 a, .int .i64 b] w' (Gives (.int .i64 (tgV d f a b)) w') := fun w' f a b hb => implTogetherFrom_any _ _ _ _ _ _ _ _ (HD.out.fresh hb)
  have cs : ∀ (w' : World), Below w1.heap.size w1 w' → Calls Try.prog 37 #[.slice (some ⟨db, 0, none⟩) d.length dc, .int .i64 f, .int .i64 a, .int .i64 b] w' (Quiet (.int .i64 (tgV d f a b)) w') := fun w' hb => specTogetherFrom_any _ _ _ _ _ _ _ _ (HD.out.fresh hb)
  have ct : ∀ (w' : World), Below w1.heap.size w1 w' → Calls Try.prog 38 #[.slice (some ⟨db, 0, none⟩) d.length dc] w' (Gives (.bool (decP (TrOk d))) w') := fun w' hb => implTreeOk_any _ _ _ _ _ (HD.out.fresh hb)
  clear hb hD
  by_cases hok : TgOk d f a b
  · have hS := hok.sp
    obtain ⟨f, rfl⟩ := Int.eq_ofNat_of_zero_le hok.pf.1
    obtain ⟨a, rfl⟩ := Int.eq_ofNat_of_zero_le hok.pa.1
    obtain ⟨b, rfl⟩ := Int.eq_ofNat_of_zero_le hok.pb.1
    have hf : f < d.length := by have := hok.pf.2; omega
    have ha : a < d.length := by have := hok.pa.2; omega
    have hbl : b < d.length := by have := hok.pb.2; omega
    obtain ⟨_, _, BB, CC, e, hO⟩ := hd.space hS
    injection e with e1 e2 e3
    injection e1 with e1
    injection e1 with e1
    subst e1 e3
    have c3 : ∀ (w' : World) (p q r : Nat), p < d.length → q < d.length → r < d.length → Below w1.heap.size w1 w' → Calls Try.prog 36 #[.slice (some ⟨db, 0, none⟩) d.length dc, .int .i64 p, .int .i64 q, .int .i64 r] w' (Gives (.int .i64 (tgF d p q r)) w') := fun w' p q r hp hq hr hb => by
      have := ci w' p q r hb
      rwa [tgV_yes ⟨hS, by omega, by omega, by omega⟩] at this
    have hn := tg_bd hS hf ha hbl
    have ci := fun w' => c3 w' f a b hf ha hbl
    have cl := fun w' => c3 w' f b a hf hbl ha
    rw [tgV_yes hok] at cs
    rw [hn.2.2.2] at cl
    have HBD : Hid (∀ p q r, p < d.length → q < d.length → r < d.length → 0 ≤ tgF d p q r ∧ tgF d p q r ≤ 120) := fun p q r hp hq hr => (tg_bd hS hp hq hr).1
    have HTG : Hid (TrOk d → ∀ c, c < d.length → tgF d f a b + tgF d f a c + tgF d f b c - max (max (tgF d f a b) (tgF d f a c)) (tgF d f b c) - min (min (tgF d f a b) (tgF d f a c)) (tgF d f b c) = min (min (tgF d f a b) (tgF d f a c)) (tgF d f b c)) :=
      fun ht c hc => together hS ht.2 hf ha hbl hc rfl rfl rfl
    obtain ⟨⟨hn0, hn1⟩, hn2, hn3, -⟩ := hn
    have HO := Lib.hid hO
    have CI := Lib.hid <| ci
    have CS := Lib.hid <| cs
    have CL := Lib.hid <| cl
    have C3 := Lib.hid <| c3
    have CT := Lib.hid <| ct
    have HN23 : Hid (tgF d f a b ≤ 2 * at2 d f a ∧ tgF d f a b ≤ 2 * at2 d f b) := ⟨hn2, hn3⟩
    clear ci cs ct cl c3 hd hd0 hok hS hO hn2 hn3
    generalize hN : tgF d f a b = N at *
    clear hN
    go_wp2_with fail
    refine (CI.out w1 H1.out).mono ?_
    rintro e w2 ⟨rfl, hb2⟩
    have H2 := Lib.hid (below_chain H1.out hb2)
    clear hb2 H1 CI
    go_wp2_with fail
    refine (CS.out _ H2.out).mono ?_
    rintro e w3 ⟨rfl, hd3⟩
    have H3 := Lib.hid (below_chain H2.out (hd3.below _))
    clear hd3 H2 CS
    have hnn : decide (N < 0) = false := decide_eq_false (by omega)
    go_wp2
    go_loopw [8] (fun kv wr => ∃ k : Nat, k ≤ d.length ∧ kv = .int .i64 k ∧ Hid (Below w1.heap.size w1 wr)) (fun kv _ => d.length - (intOf kv).toNat)
    case atStart => exact ⟨0, Nat.zero_le _, rfl, H3⟩
    case round =>
      clear H3
      obtain ⟨k, hk, rfl, H3⟩ := hrel
      by_cases hkl : k < d.length
      · have hki : (k : Int) < (d.length : Int) := by omega
        obtain ⟨x0, x1⟩ := HBD.out f a k hf ha hkl
        obtain ⟨y0, y1⟩ := HBD.out f b k hf hbl hkl
        go_wp2_with fail
        refine (C3.out _ f a k hf ha hkl H3.out).mono ?_
        rintro e w4 ⟨rfl, hb4⟩
        have H4 := Lib.hid (below_chain H3.out hb4)
        clear hb4 H3
        go_wp2_with fail
        refine (C3.out _ f b k hf hbl hkl H4.out).mono ?_
        rintro e w5 ⟨rfl, hb5⟩
        have H5 := Lib.hid (below_chain H4.out hb5)
        clear hb5 H4
        by_cases hT : TrOk d
        · have ht := HTG.out hT k hkl
          have CT2 := CT.out
          rw [decP_yes hT] at CT2
          have CT3 := Lib.hid <| CT2
          clear CT2 hT
          generalize tgF d f a k = X at *
          generalize tgF d f b k = Y at *
          have HTH := Lib.hid ht
          clear ht
          go_wp2_with fail
          all_goals
            refine (CT3.out _ H5.out).mono ?_
            rintro e w6 ⟨rfl, hb6⟩
            have H6 := Lib.hid (below_chain H5.out hb6)
            clear hb6 H5
            go_wp2
            all_goals first
              | (exfalso; have := HTH.out; rename_i hbad; simp only [bne_iff_ne, ne_eq] at hbad; omega)
              | (go_roundw
                 case rel => exact ⟨k + 1, by omega, by go_num, H6⟩
                 case measure => simp [intOf]; omega)
        · have CT2 := CT.out
          rw [decP_no hT] at CT2
          have CT3 := Lib.hid <| CT2
          clear CT2 hT
          generalize tgF d f a k = X at *
          generalize tgF d f b k = Y at *
          go_wp2_with fail
          all_goals
            refine (CT3.out _ H5.out).mono ?_
            rintro e w6 ⟨rfl, hb6⟩
            have H6 := Lib.hid (below_chain H5.out hb6)
            clear hb6 H5
            go_wp2
            go_roundw
            case rel => exact ⟨k + 1, by omega, by go_num, H6⟩
            case measure => simp [intOf]; omega
      · have HOr := Lib.hid (HO.out.keep H3.out)
        have c1 := HOr.out.top f hf
        have c2 := HOr.out.cell f a hf ha
        have c4 := HOr.out.cell f b hf hbl
        have b1 := HOr.out.bd f a hf ha
        have b2 := HOr.out.bd f b hf hbl
        obtain ⟨n2, n3⟩ := HN23.out
        have hfi : (f : Int) < (d.length : Int) := by omega
        have hai : (a : Int) < (d.length : Int) := by omega
        have hbi : (b : Int) < (d.length : Int) := by omega
        generalize at2 d f a = Z1 at *
        generalize at2 d f b = Z2 at *
        go_wp2_with fail
        refine (CL.out _ H3.out).mono ?_
        rintro e w4 ⟨rfl, hb4⟩
        have H4 := Lib.hid (below_chain H3.out hb4)
        clear hb4 H3 c1 c2 c4
        go_wp2
        go_ret
        exact ⟨rfl, below_chain HB.out H4.out⟩
  · have hno := tgV_no hok
    have ci := fun w' => ci w' f a b
    rw [hno] at ci cs
    have CI := Lib.hid <| ci
    have CS := Lib.hid <| cs
    clear ci cs ct hd hd0 hok hno
    go_wp2_with fail
    refine (CI.out w1 H1.out).mono ?_
    rintro e w2 ⟨rfl, hb2⟩
    have H2 := Lib.hid (below_chain H1.out hb2)
    clear hb2 H1 CI
    go_wp2_with fail
    refine (CS.out _ H2.out).mono ?_
    rintro e w3 ⟨rfl, hd3⟩
    have H3 := Lib.hid (below_chain H2.out (hd3.below _))
    clear hd3 H2 CS
    go_wp2_with fail
    refine (alive_any _).mono ?_
    rintro e w5 ⟨rfl, hd_w5⟩
    have H5 : Hid (Below w1.heap.size w1 w5) := below_chain H3.out hd_w5
    clear hd_w5 H3
    go_wp2
    go_ret
    exact ⟨rfl, below_chain HB.out H5.out⟩

set_option maxRecDepth 100000 in
theorem lifted (os : Os) (started : os.Started) (H : Type) (enc : TypeId × Value → H) :
    ReturnsInHanded {} Try.checked os 12 .any (Rows.fnTogetherFromSpec.pre6 enc Try.prog Try.f12 Rows.fnTogetherFromRow.domain false) (Rows.fnTogetherFromSpec.post enc Try.prog Try.f12 false true false false) := by
  refine returnsInHanded_of_change (C := Try.checked) own_knob started (by kernel_rfl) Try.func12
    (ChangeSpec.witness6 (enc := enc) (C := Try.checked) false ⟨#[], #[.slice none 0 0], []⟩ 8 (by kernel_rfl) (by kernel_rfl) (by kernel_rfl) (by kernel_rfl)) ?_
  intro W base args ds gs before hval0 hW hcnd _
  have hval : ∀ (j : Nat) t v, Try.f12.params[j]? = some t → args[j]? = some v → Value.okWide Try.prog W .any base t v := hval0
  have hW' := hW
  obtain ⟨p, q, hA0, hV, rfl, hfz, hnd⟩ := hW
  have hA : DataW.TrodAll enc Try.prog W 0 (fun _ => true) true Try.f12.params.toList args.toList ds p := hA0
  rw [Try.params12] at hA hval
  obtain ⟨v0, vs0, e0, es0, p0, q0, hargs, rfl, rfl, h0, r0⟩ := trodAll_cons hA
  obtain ⟨rfl, rfl, rfl⟩ := trodAll_nil r0
  obtain rfl : args = #[v0] := by cases args; simp_all
  obtain ⟨rfl, rfl⟩ := trodVars_none hV
  obtain ⟨a0, len0, cap0, rfl⟩ := okWide_slice Try.underlying29 (hval 0 29 v0 rfl rfl)
  have k0 := h0
  have lt0 : ∀ x ∈ p0, x.block < W.heap.size := by obtain ⟨m, hm⟩ := k0; exact DataW.trod_lt m _ _ _ hm
  obtain ⟨z0, y0⟩ := open_bytes h0
  clear hA0 hval0
  refine (walk_all W _ z0 y0).mono fun e W' ⟨he, bel⟩ => ?_
  subst he
  exact ⟨_, rfl, _, _, _, [], _, [], hW', trodAll_mk1 (shut_bool Try.underlying4 _), (trodAll_cons_mk (Below.trod laid_out (by kernel_rfl) (of_decide_eq_true (by kernel_rfl)) k0 bel lt0) trodAll_mk0), rfl, bel.frame _, fun h => by cases h⟩

theorem over : Rows.fnTogetherFromRow.holds Try.pinned (OpenSpec.ofChange Rows.fnTogetherFromSpec) :=
  OpenClaim.holds_of_wide 12 Try.f12 rfl rfl rfl rfl rfl rfl rfl ⟨rfl, rfl, rfl, rfl, rfl⟩ rfl rfl rfl rfl rfl (by kernel_rfl) Try.func12 (by kernel_rfl)
    (of_decide_eq_true (by kernel_rfl)) (by unfold Func.isWrapper; first | (rw [if_pos (by decide +kernel)]; kernel_rfl) | (rw [if_neg (by decide +kernel)]; exact ⟨rfl, rfl⟩))
    (fun os started H enc _ => lifted os started H enc)

end fnTogetherFrom
theorem fnTogetherFrom_holds : Rows.FnTogetherFromSaid := fnTogetherFrom.over
#print axioms fnTogetherFrom_holds
end Go.Proofs.Ytclffncimaigfaa

