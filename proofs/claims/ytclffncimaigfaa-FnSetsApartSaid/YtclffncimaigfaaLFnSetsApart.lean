/- The law FnSetsApart: for every code it returns true. Conditions: none. -/
import Derived.Test.YtclffncimaigfaaDrawS2
import Derived.Test.YtclffncimaigfaaSets2
import Derived.Test.YtclffncimaigfaaSetsLaw
import Derived.Deep.Cut
import Derived.Test.YtclffncimaigfaaSame
import Derived.Test.YtclffncimaigfaaLawFn
import Derived.Test.YtclffncimaigfaaOpenB
import Derived.Test.YtclffncimaigfaaRows
namespace Go.Proofs.Ytclffncimaigfaa
set_option linter.unusedVariables false
set_option linter.unusedSimpArgs false
namespace fnSetsApart
open Go.ChangeShapes Go.WideShapes Go.ChangeAt Go.RowKit Go.Deep

set_option maxRecDepth 100000 in
set_option maxHeartbeats 8000000 in
theorem walk_all (w : World) (v0 : Value) (n0 : Nat) (h0 : BIn w v0 n0) :
    Calls Try.prog 8 #[v0] w fun e w' => e = .returned (.bool true) ∧ Below w.heap.size w w' := by
  obtain ⟨ao, cap, rfl, hn1, hn2, _⟩ := id h0
  rw [maxLen_val] at hn2
  have hN : n0 ≤ 9223372036854775807 := by omega
  have H0 := Lib.hid h0
  clear h0 hn1 hn2
  by_cases hlong : n0 ≤ 1048576
  rotate_left
  · clear H0
    go_enter Try.func8, Try.ntmps8
    go_wp2
    go_ret
    exact ⟨rfl, Below.refl _ _⟩
  go_enter Try.func8, Try.ntmps8
  go_wp2_with fail
  refine (drawSetsApart_any _ _ _ H0.out).mono ?_
  rintro e w1 ⟨vd, d, a, b, rfl, hd, hdn, hb⟩
  clear H0 hlong
  have H1 : Hid (Below w1.heap.size w1 w1) := Below.refl _ _
  have hd6 := hdn.six
  have ci : ∀ (w' : World) (a b : Int), Below w1.heap.size w1 w' → Calls Try.prog 27 #[vd, .int .i64 a, .int .i64 b] w' (Quiet (.int .i64 (saV d a b)) w') := fun w' a b hb => implSetsApart_any _ _ _ _ _ _ _ (hd.fresh hb)
  have cs : ∀ (w' : World), Below w1.heap.size w1 w' → Calls Try.prog 26 #[vd, .int .i64 a, .int .i64 b] w' (Quiet (.int .i64 (saV d a b)) w') := fun w' hb => specSetsApart_any _ _ _ _ _ _ _ (hd.fresh hb)
  have HB := Lib.hid hb
  by_cases hok : SaOk d a b
  · have hS := hok.a.sp
    have hone := hS.one
    have hsix := hS.six
    obtain ⟨n1, hn1⟩ : ∃ n1, d.length = n1 + 1 := ⟨d.length - 1, by omega⟩
    obtain ⟨db, dc, BB, CC, rfl, hO⟩ := hd.space hS
    have hall := set_all hS
    have h0 := set_single hS (q := 0) (by omega)
    have hlast := set_single hS (q := n1) (by omega)
    have hv : ∀ x y, SetP d x → SetP d y → ∀ (w' : World), Below w1.heap.size w1 w' → Calls Try.prog 27 #[.slice (some ⟨db, 0, none⟩) d.length dc, .int .i64 x, .int .i64 y] w' (Quiet (.int .i64 (saTo d x y d.length)) w') := fun x y hx hy w' hb => by
      have := ci w' x y hb
      rwa [saV_yes ⟨hx, hy⟩] at this
    have hbd : ∀ x y, 0 ≤ saTo d x y d.length ∧ saTo d x y d.length ≤ 60 := fun x y => ⟨sa_pos, saTo_le.2 ⟨by omega, fun k hk => ⟨fun _ => ts_60 _, fun _ => ts_60 _⟩⟩⟩
    have c1 := hv a b hok.a hok.b
    have c2 := hv b a hok.b hok.a
    rw [sa_sym] at c2
    have c3 := hv a (2 ^ d.length - 1) hok.a hall
    have c4 := hv (2 ^ d.length - 1) b hall hok.b
    have c5 := hv (2 ^ 0) (2 ^ n1) h0 hlast
    rw [sa_single hS (by omega) (by omega), Int.pow_zero] at c5
    have cs : ∀ (w' : World), Below w1.heap.size w1 w' → Calls Try.prog 26 #[.slice (some ⟨db, 0, none⟩) d.length dc, .int .i64 a, .int .i64 b] w' (Quiet (.int .i64 (saTo d a b d.length)) w') := fun w' hb => by
      have := cs w' hb
      rwa [saV_yes hok] at this
    have hover := sa_over hok.a hok.b
    have hz := sa_zero hok.a hok.b
    have b1 := hbd a b
    have b3 := hbd a (2 ^ d.length - 1)
    have b4 := hbd (2 ^ d.length - 1) b
    have b5 := hS.bd0 (i := 0) (k := n1) (by omega) (by omega)
    have x1 := hO.top 0 (by omega)
    have x2 := hO.cell 0 n1 (by omega) (by omega)
    have hw := wrap_pow hsix
    have hpb := pow_bd hone hsix
    have hw2 := wrap_pow (n := n1) (by omega)
    have hpb2 := pow_bd0 (n := n1) (by omega)
    have HO := Lib.hid <| hO
    have CS := Lib.hid <| cs
    have C1 := Lib.hid <| c1
    have C2 := Lib.hid <| c2
    have C3 := Lib.hid <| c3
    have C4 := Lib.hid <| c4
    have C5 := Lib.hid <| c5
    have HZ := Lib.hid <| hz
    have hl1 : ((n1 : Nat) : Int) < (d.length : Int) := by omega
    have hl2 : (d.length : Int) - 1 = (n1 : Int) := by omega
    have HX : Hid (w1.cell? ⟨db, 0, none⟩ = some (.slice (some ⟨BB 0, 0, none⟩) d.length (CC 0)) ∧ w1.cell? ⟨BB 0, n1, none⟩ = some (.int .i64 (at2 d 0 n1)) ∧ db < w1.heap.size ∧ BB 0 < w1.heap.size) := ⟨x1, x2, hO.blt, World.block_lt_of_cell? w1 _ x2⟩
    clear ci cs c1 c2 c3 c4 c5 hz hO hS hd hdn hb hok hv hbd hall h0 hlast x1 x2 hn1
    generalize at2 d 0 n1 = T at *
    generalize saTo d a b d.length = N at *
    generalize saTo d a (2 ^ d.length - 1) d.length = N1 at *
    generalize saTo d (2 ^ d.length - 1) b d.length = N2 at *
    go_wp2_with fail
    refine (C1.out _ H1.out).mono ?_
    rintro e w2 ⟨rfl, hd2⟩
    have H2 : Hid (Below w1.heap.size w1 w2) := H1.out.trans (hd2.below _)
    clear hd2 H1
    go_wp2_with fail
    refine (CS.out _ H2.out).mono ?_
    rintro e w3 ⟨rfl, hd3⟩
    have H3 : Hid (Below w1.heap.size w1 w3) := H2.out.trans (hd3.below _)
    clear hd3 H2 CS
    have hn0 : decide (N < 0) = false := by simp; omega
    have hle : decide (N ≤ N1 + N2) = true := by simp; omega

    have y1 := (H3.out.cell (p := ⟨db, 0, none⟩) HX.out.2.2.1).trans HX.out.1
    have y2 := (H3.out.cell (p := ⟨BB 0, n1, none⟩) HX.out.2.2.2).trans HX.out.2.1
    have HQ : Hid (∀ (m : Nat) (x y r : Int), ((x = b ∧ y = a ∧ r = N) ∨ (x = a ∧ y = 2 ^ d.length - 1 ∧ r = N1) ∨ (x = 2 ^ d.length - 1 ∧ y = b ∧ r = N2) ∨ (x = 1 ∧ y = 2 ^ n1 ∧ r = T)) → Calls Try.prog 27 #[.slice (some ⟨db, 0, none⟩) d.length dc, .int .i64 x, .int .i64 y] (w3.drewN m) (Quiet (.int .i64 r) (w3.drewN m))) := fun m x y r h => by
      rcases h with ⟨rfl, rfl, rfl⟩ | ⟨rfl, rfl, rfl⟩ | ⟨rfl, rfl, rfl⟩ | ⟨rfl, rfl, rfl⟩
      · exact C2.out _ (below_drewN H3.out m)
      · exact C3.out _ (below_drewN H3.out m)
      · exact C4.out _ (below_drewN H3.out m)
      · exact C5.out _ (below_drewN H3.out m)
    clear C1 C2 C3 C4 C5 HX HO
    have eN : (N == N) = true := by simp
    have eT : (T == T) = true := by simp
    go_upto_region 11 with (fail)
    by_cases hab : a = b
    · have e1 : (a == b) = true := by simpa using hab
      have e2 : (N == 0) = true := by simpa using HZ.out.2 hab
      clear hab HZ
      go_quiet ((go_at_call 27; exact quiet_in (HQ.out _ _ _ _ (by first | exact Or.inl ⟨rfl, rfl, rfl⟩ | exact Or.inr (Or.inl ⟨rfl, rfl, rfl⟩) | exact Or.inr (Or.inr (Or.inl ⟨rfl, rfl, rfl⟩)) | exact Or.inr (Or.inr (Or.inr ⟨rfl, rfl, rfl⟩))))))
      go_wp2
      go_ret
      exact ⟨rfl, below_chain HB.out (below_drewN H3.out _)⟩
    · have e1 : (a == b) = false := by simpa using hab
      have e2 : (N == 0) = false := by simpa using fun h => hab (HZ.out.1 h)
      clear hab HZ
      go_quiet ((go_at_call 27; exact quiet_in (HQ.out _ _ _ _ (by first | exact Or.inl ⟨rfl, rfl, rfl⟩ | exact Or.inr (Or.inl ⟨rfl, rfl, rfl⟩) | exact Or.inr (Or.inr (Or.inl ⟨rfl, rfl, rfl⟩)) | exact Or.inr (Or.inr (Or.inr ⟨rfl, rfl, rfl⟩))))))
      go_wp2
      go_ret
      exact ⟨rfl, below_chain HB.out (below_drewN H3.out _)⟩
  · have cs2 : ∀ (w' : World), Below w1.heap.size w1 w' → Calls Try.prog 26 #[vd, .int .i64 a, .int .i64 b] w' (Gives (.int .i64 (-1)) w') := fun w' hb => by
      have := gives_of_quiet (cs w' hb)
      rwa [saV_no hok] at this
    have ci2 : ∀ (w' : World), Below w1.heap.size w1 w' → Calls Try.prog 27 #[vd, .int .i64 a, .int .i64 b] w' (Gives (.int .i64 (-1)) w') := fun w' hb => by
      have := gives_of_quiet (ci w' a b hb)
      rwa [saV_no hok] at this
    have CI := Lib.hid <| ci2
    have CS := Lib.hid <| cs2
    obtain ⟨db, dc, _, _, rfl, -⟩ := id hd.open
    clear ci cs ci2 cs2 hd hdn hb hok
    go_wp2_with fail
    refine (CI.out _ H1.out).mono ?_
    rintro e w2 ⟨rfl, hd_w2⟩
    have H2 : Hid (Below w1.heap.size w1 w2) := below_chain H1.out hd_w2
    clear hd_w2 H1
    go_wp2_with fail
    refine (CS.out _ H2.out).mono ?_
    rintro e w3 ⟨rfl, hd_w3⟩
    have H3 : Hid (Below w1.heap.size w1 w3) := below_chain H2.out hd_w3
    clear hd_w3 H2
    go_wp2_with fail
    refine (alive_any _).mono ?_
    rintro e w5 ⟨rfl, hd_w5⟩
    have H4 : Hid (Below w1.heap.size w1 w5) := below_chain H3.out hd_w5
    clear hd_w5 H3
    go_wp2
    go_ret
    exact ⟨rfl, below_chain HB.out H4.out⟩

set_option maxRecDepth 100000 in
theorem lifted (os : Os) (started : os.Started) (H : Type) (enc : TypeId × Value → H) :
    ReturnsInHanded {} Try.checked os 8 .any (Rows.fnSetsApartSpec.pre6 enc Try.prog Try.f8 Rows.fnSetsApartRow.domain false) (Rows.fnSetsApartSpec.post enc Try.prog Try.f8 false true false false) := by
  refine returnsInHanded_of_change (C := Try.checked) own_knob started (by kernel_rfl) Try.func8
    (ChangeSpec.witness6 (enc := enc) (C := Try.checked) false ⟨#[], #[.slice none 0 0], []⟩ 8 (by kernel_rfl) (by kernel_rfl) (by kernel_rfl) (by kernel_rfl)) ?_
  intro W base args ds gs before hval0 hW hcnd _
  have hval : ∀ (j : Nat) t v, Try.f8.params[j]? = some t → args[j]? = some v → Value.okWide Try.prog W .any base t v := hval0
  have hW' := hW
  obtain ⟨p, q, hA0, hV, rfl, hfz, hnd⟩ := hW
  have hA : DataW.TrodAll enc Try.prog W 0 (fun _ => true) true Try.f8.params.toList args.toList ds p := hA0
  rw [Try.params8] at hA hval
  obtain ⟨v0, vs0, e0, es0, p0, q0, hargs, rfl, rfl, h0, r0⟩ := trodAll_cons hA
  obtain ⟨rfl, rfl, rfl⟩ := trodAll_nil r0
  obtain rfl : args = #[v0] := by cases args; simp_all
  obtain ⟨rfl, rfl⟩ := trodVars_none hV
  obtain ⟨a0, len0, cap0, rfl⟩ := okWide_slice Try.underlying29 (hval 0 29 v0 rfl rfl)
  have k0 := h0
  have lt0 : ∀ x ∈ p0, x.block < W.heap.size := by obtain ⟨m, hm⟩ := k0; exact DataW.trod_lt m _ _ _ hm
  obtain ⟨z0, y0⟩ := open_bytes h0
  clear hA0 hval0
  refine (walk_all W _ z0 y0).mono fun e W' ⟨he, bel⟩ => ?_
  subst he
  exact ⟨_, rfl, _, _, _, [], _, [], hW', trodAll_mk1 (shut_bool Try.underlying4 _), (trodAll_cons_mk (Below.trod laid_out (by kernel_rfl) (of_decide_eq_true (by kernel_rfl)) k0 bel lt0) trodAll_mk0), rfl, bel.frame _, fun h => by cases h⟩

theorem over : Rows.fnSetsApartRow.holds Try.pinned (OpenSpec.ofChange Rows.fnSetsApartSpec) :=
  OpenClaim.holds_of_wide 8 Try.f8 rfl rfl rfl rfl rfl rfl rfl ⟨rfl, rfl, rfl, rfl, rfl⟩ rfl rfl rfl rfl rfl (by kernel_rfl) Try.func8 (by kernel_rfl)
    (of_decide_eq_true (by kernel_rfl)) (by unfold Func.isWrapper; first | (rw [if_pos (by decide +kernel)]; kernel_rfl) | (rw [if_neg (by decide +kernel)]; exact ⟨rfl, rfl⟩))
    (fun os started H enc _ => lifted os started H enc)

end fnSetsApart
theorem fnSetsApart_holds : Rows.FnSetsApartSaid := fnSetsApart.over
#print axioms fnSetsApart_holds
end Go.Proofs.Ytclffncimaigfaa

