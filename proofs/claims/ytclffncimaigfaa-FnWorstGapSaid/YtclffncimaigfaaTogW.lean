/- What TogetherFrom returns. Conditions: as each theorem says. -/
import Derived.Test.YtclffncimaigfaaPoints
import Derived.Test.YtclffncimaigfaaFar
import Derived.Test.YtclffncimaigfaaTreeLaw
namespace Go.Proofs.Ytclffncimaigfaa
set_option linter.unusedVariables false
set_option linter.unusedSimpArgs false
open Go.RowKit Go.Deep

theorem IMem.triple (w : World) (x y z : Int) : IMem w.heap.size (w.heap.size + 1) (w.alloc (.cells #[.int .i64 x, .int .i64 y, .int .i64 z] 3)) (.slice (some ⟨w.heap.size, 0, none⟩) 3 3) [x, y, z] := by
  refine ⟨w.heap.size, 3, _, rfl, Nat.le_refl _, Nat.lt_succ_self _, Nat.le_refl _, by rw [maxLen_val]; omega, heap_alloc_new w _, rfl, fun i hi => ?_⟩
  match i, hi with
  | 0, _ => rfl
  | 1, _ => rfl
  | 2, _ => rfl
theorem allPt_three {d : List (List Int)} {a b c : Int} : AllPt d [a, b, c] ↔ Pt d a ∧ Pt d b ∧ Pt d c := by
  constructor
  · intro h
    exact ⟨h 0 (by simp), h 1 (by simp), h 2 (by simp)⟩
  · rintro ⟨h1, h2, h3⟩ i hi
    match i, hi with
    | 0, _ => exact h1
    | 1, _ => exact h2
    | 2, _ => exact h3
structure TgOk (d : List (List Int)) (f a b : Int) : Prop where
  sp : Space d
  pf : 0 ≤ f ∧ f < d.length
  pa : 0 ≤ a ∧ a < d.length
  pb : 0 ≤ b ∧ b < d.length
def tgF (d : List (List Int)) (f a b : Nat) : Int := at2 d f a + at2 d f b - at2 d a b
noncomputable def tgV (d : List (List Int)) (f a b : Int) : Int := if decP (TgOk d f a b) then tgF d f.toNat a.toNat b.toNat else -1
theorem tgV_yes {d : List (List Int)} {f a b : Nat} (h : TgOk d f a b) : tgV d f a b = tgF d f a b := by simp [tgV, decP_yes h]
theorem tgV_no {d : List (List Int)} {f a b : Int} (h : ¬ TgOk d f a b) : tgV d f a b = -1 := by simp [tgV, decP_no h]
theorem tg_all {d : List (List Int)} {f a b : Int} : AllPt d [f, a, b] ↔ TgOk d f a b := by
  rw [allPt_three]
  exact ⟨fun ⟨h1, h2, h3⟩ => ⟨h1.1, h1.2, h2.2, h3.2⟩, fun h => ⟨⟨h.sp, h.pf⟩, ⟨h.sp, h.pa⟩, ⟨h.sp, h.pb⟩⟩⟩

set_option maxHeartbeats 1000000 in
theorem implTogetherFrom_any (lo hi : Nat) (v : Value) (d : List (List Int)) (f a b : Int) (w : World) (hd : MMem lo hi w v d) :
    Calls Try.prog 36 #[v, .int .i64 f, .int .i64 a, .int .i64 b] w (Gives (.int .i64 (tgV d f a b)) w) := by
  have hb0 : Below w.heap.size w (w.alloc (.cells #[.int .i64 f, .int .i64 a, .int .i64 b] 3)) := (Below.refl _ _).alloc (Nat.le_refl _) _
  have call := arePoints_any lo hi v _ d [f, a, b] _ (hd.fresh hb0) (IMem.triple w f a b).inn
  by_cases hok : TgOk d f a b
  · rw [decP_yes (tg_all.2 hok)] at call
    obtain ⟨f, rfl⟩ := Int.eq_ofNat_of_zero_le hok.pf.1
    obtain ⟨a, rfl⟩ := Int.eq_ofNat_of_zero_le hok.pa.1
    obtain ⟨b, rfl⟩ := Int.eq_ofNat_of_zero_le hok.pb.1
    have hf : f < d.length := by have := hok.pf.2; omega
    have ha : a < d.length := by have := hok.pa.2; omega
    have hb : b < d.length := by have := hok.pb.2; omega
    obtain ⟨db, dc, BB, CC, rfl, hO⟩ := hd.space hok.sp
    have hsix := hok.sp.six
    have HC := Lib.hid <| call
    have HO := Lib.hid <| hO
    have HB0 := Lib.hid <| hb0
    have HV := Lib.hid <| tgV_yes hok
    clear call hO hb0 hok hd
    go_enter Try.func36, Try.ntmps36
    go_wp2_with fail
    refine HC.out.mono ?_
    rintro e w1 ⟨rfl, hb1⟩
    have HB1 : Hid (Below w.heap.size w w1) := HB0.out.trans (hb1.mono HB0.out.size)
    have c1 := (HO.out.keep HB1.out).top f hf
    have c2 := (HO.out.keep HB1.out).cell f a hf ha
    have c3 := (HO.out.keep HB1.out).cell f b hf hb
    have c4 := (HO.out.keep HB1.out).top a ha
    have c5 := (HO.out.keep HB1.out).cell a b ha hb
    have b2 := HO.out.bd f a hf ha
    have b3 := HO.out.bd f b hf hb
    have b5 := HO.out.bd a b ha hb
    have hfi : (f : Int) < (d.length : Int) := by omega
    have hai : (a : Int) < (d.length : Int) := by omega
    have hbi : (b : Int) < (d.length : Int) := by omega
    clear hb1
    go_wp2_with fail
    go_quiet (fail)
    clear c1 c2 c3 c4 c5
    go_wp2
    go_ret
    exact ⟨by rw [HV.out]; rfl, below_drewN HB1.out _⟩
  · rw [decP_no (fun h => hok (tg_all.1 h))] at call
    obtain ⟨db, dc, _, _, rfl, -⟩ := hd.open
    have HC := Lib.hid <| call
    have HB0 := Lib.hid <| hb0
    have HV := Lib.hid <| tgV_no hok
    clear call hb0 hok hd
    go_enter Try.func36, Try.ntmps36
    go_wp2_with fail
    refine HC.out.mono ?_
    rintro e w1 ⟨rfl, hb1⟩
    have HB1 : Hid (Below w.heap.size w w1) := HB0.out.trans (hb1.mono HB0.out.size)
    clear hb1
    go_wp2
    go_ret
    exact ⟨by rw [HV.out]; rfl, HB1.out⟩

set_option maxHeartbeats 1000000 in
theorem specTogetherFrom_any (lo hi : Nat) (v : Value) (d : List (List Int)) (f a b : Int) (w : World) (hd : MMem lo hi w v d) :
    Calls Try.prog 37 #[v, .int .i64 f, .int .i64 a, .int .i64 b] w (Quiet (.int .i64 (tgV d f a b)) w) := by
  have cs := specSpaceOk_any lo hi v d w hd
  by_cases hS : Space d
  · rw [decP_yes hS] at cs
    obtain ⟨db, dc, BB, CC, rfl, hO⟩ := hd.space hS
    have hsix := hS.six
    have HCS := Lib.hid <| cs
    by_cases hf : 0 ≤ f ∧ f ≤ (d.length : Int) - 1
    · have HF := Lib.hid <| hf
      by_cases ha : 0 ≤ a ∧ a ≤ (d.length : Int) - 1
      · have HAA := Lib.hid <| ha
        by_cases hb : 0 ≤ b ∧ b ≤ (d.length : Int) - 1
        · have HBB := Lib.hid <| hb
          have hok : TgOk d f a b := ⟨hS, by omega, by omega, by omega⟩
          obtain ⟨f, rfl⟩ := Int.eq_ofNat_of_zero_le hok.pf.1
          obtain ⟨a, rfl⟩ := Int.eq_ofNat_of_zero_le hok.pa.1
          obtain ⟨b, rfl⟩ := Int.eq_ofNat_of_zero_le hok.pb.1
          have hf : f < d.length := by have := hok.pf.2; omega
          have ha : a < d.length := by have := hok.pa.2; omega
          have hb : b < d.length := by have := hok.pb.2; omega
          have HO := Lib.hid <| hO
          have HV := Lib.hid <| tgV_yes hok
          clear cs hO hok hd hS
          go_enter Try.func37, Try.ntmps37
          go_wp2_with fail
          refine (HCS.out).mono ?_
          rintro e w1 ⟨rfl, hd_w1⟩
          have HW1 : Hid (Dr _ w1) := hd_w1
          clear hd_w1
          go_wp2_with fail
          refine (l1In_yes _ _ _ _ HF.out.1 HF.out.2).mono ?_
          rintro e w2 ⟨rfl, hd_w2⟩
          have HW2 : Hid (Dr _ w2) := HW1.out.trans hd_w2
          clear hd_w2 HW1
          go_wp2_with fail
          refine (l1In_yes _ _ _ _ HAA.out.1 HAA.out.2).mono ?_
          rintro e w3 ⟨rfl, hd_w3⟩
          have HW3 : Hid (Dr _ w3) := HW2.out.trans hd_w3
          clear hd_w3 HW2
          go_wp2_with fail
          refine (l1In_yes _ _ _ _ HBB.out.1 HBB.out.2).mono ?_
          rintro e w4 ⟨rfl, hd_w4⟩
          have HW4 : Hid (Dr _ w4) := HW3.out.trans hd_w4
          clear hd_w4 HW3
          have HB1 : Hid (Below w.heap.size w w4) := HW4.out.below _
          have c1 := (HO.out.keep HB1.out).top f hf
          have c2 := (HO.out.keep HB1.out).cell f a hf ha
          have c3 := (HO.out.keep HB1.out).cell f b hf hb
          have c4 := (HO.out.keep HB1.out).top a ha
          have c5 := (HO.out.keep HB1.out).cell a b ha hb
          have b2 := HO.out.bd f a hf ha
          have b3 := HO.out.bd f b hf hb
          have b5 := HO.out.bd a b ha hb
          have hfi : (f : Int) < (d.length : Int) := by omega
          have hai : (a : Int) < (d.length : Int) := by omega
          have hbi : (b : Int) < (d.length : Int) := by omega
          go_wp2_with fail
          go_quiet (fail)
          clear c1 c2 c3 c4 c5
          go_wp2
          go_ret
          exact ⟨by rw [HV.out]; rfl, HW4.out.more _⟩
        · have HBB := Lib.hid <| hb
          have HV := Lib.hid <| tgV_no (d := d) (f := f) (a := a) (b := b) fun h => hb ⟨h.pb.1, by have := h.pb.2; omega⟩
          clear cs hO hd hS hb ha hf
          go_enter Try.func37, Try.ntmps37
          go_wp2_with fail
          refine (HCS.out).mono ?_
          rintro e w1 ⟨rfl, hd_w1⟩
          have HW1 : Hid (Dr _ w1) := hd_w1
          clear hd_w1
          go_wp2_with fail
          refine (l1In_yes _ _ _ _ HF.out.1 HF.out.2).mono ?_
          rintro e w2 ⟨rfl, hd_w2⟩
          have HW2 : Hid (Dr _ w2) := HW1.out.trans hd_w2
          clear hd_w2 HW1
          go_wp2_with fail
          refine (l1In_yes _ _ _ _ HAA.out.1 HAA.out.2).mono ?_
          rintro e w3 ⟨rfl, hd_w3⟩
          have HW3 : Hid (Dr _ w3) := HW2.out.trans hd_w3
          clear hd_w3 HW2
          go_wp2_with fail
          refine (l1In_no _ _ _ _ HBB.out).mono ?_
          rintro e w4 ⟨rfl, hd_w4⟩
          have HW4 : Hid (Dr _ w4) := HW3.out.trans hd_w4
          clear hd_w4 HW3
          go_wp2
          go_ret
          exact ⟨by rw [HV.out]; rfl, HW4.out⟩
      · have HAA := Lib.hid <| ha
        have HV := Lib.hid <| tgV_no (d := d) (f := f) (a := a) (b := b) fun h => ha ⟨h.pa.1, by have := h.pa.2; omega⟩
        clear cs hO hd hS ha hf
        go_enter Try.func37, Try.ntmps37
        go_wp2_with fail
        refine (HCS.out).mono ?_
        rintro e w1 ⟨rfl, hd_w1⟩
        have HW1 : Hid (Dr _ w1) := hd_w1
        clear hd_w1
        go_wp2_with fail
        refine (l1In_yes _ _ _ _ HF.out.1 HF.out.2).mono ?_
        rintro e w2 ⟨rfl, hd_w2⟩
        have HW2 : Hid (Dr _ w2) := HW1.out.trans hd_w2
        clear hd_w2 HW1
        go_wp2_with fail
        refine (l1In_no _ _ _ _ HAA.out).mono ?_
        rintro e w3 ⟨rfl, hd_w3⟩
        have HW3 : Hid (Dr _ w3) := HW2.out.trans hd_w3
        clear hd_w3 HW2
        go_wp2
        go_ret
        exact ⟨by rw [HV.out]; rfl, HW3.out⟩
    · have HF := Lib.hid <| hf
      have HV := Lib.hid <| tgV_no (d := d) (f := f) (a := a) (b := b) fun h => hf ⟨h.pf.1, by have := h.pf.2; omega⟩
      clear cs hO hd hS hf
      go_enter Try.func37, Try.ntmps37
      go_wp2_with fail
      refine (HCS.out).mono ?_
      rintro e w1 ⟨rfl, hd_w1⟩
      have HW1 : Hid (Dr _ w1) := hd_w1
      clear hd_w1
      go_wp2_with fail
      refine (l1In_no _ _ _ _ HF.out).mono ?_
      rintro e w2 ⟨rfl, hd_w2⟩
      have HW2 : Hid (Dr _ w2) := HW1.out.trans hd_w2
      clear hd_w2 HW1
      go_wp2
      go_ret
      exact ⟨by rw [HV.out]; rfl, HW2.out⟩
  · rw [decP_no hS] at cs
    obtain ⟨db, dc, _, _, rfl, -⟩ := hd.open
    have HCS := Lib.hid <| cs
    have HV := Lib.hid <| tgV_no (d := d) (f := f) (a := a) (b := b) fun h => hS h.sp
    clear cs hd hS
    go_enter Try.func37, Try.ntmps37
    go_wp2_with fail
    refine (HCS.out).mono ?_
    rintro e w1 ⟨rfl, hd_w1⟩
    have HW1 : Hid (Dr _ w1) := hd_w1
    clear hd_w1
    go_wp2
    go_ret
    exact ⟨by rw [HV.out]; rfl, HW1.out⟩

end Go.Proofs.Ytclffncimaigfaa
