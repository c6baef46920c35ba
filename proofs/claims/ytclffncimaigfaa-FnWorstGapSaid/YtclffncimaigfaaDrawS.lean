/- What the drawing functions of chapter 8 hand back. Conditions: as each theorem says. -/
import Derived.Test.YtclffncimaigfaaDraw4
import Derived.Test.YtclffncimaigfaaSets2
import Derived.Deep.RegionLaw
import Derived.Deep.Cut
namespace Go.Proofs.Ytclffncimaigfaa
set_option linter.unusedVariables false
set_option linter.unusedSimpArgs false
open Go.RowKit Go.Deep

def DrewS (w : World) (e : Ending) (w' : World) : Prop := ∃ v d p, e = .returned (.tuple #[v, .int .i64 p]) ∧ MMem 0 w'.heap.size w' v d ∧ Dn d ∧ Below w.heap.size w w'
def DrewSS (w : World) (e : Ending) (w' : World) : Prop := ∃ v d p q, e = .returned (.tuple #[v, .int .i64 p, .int .i64 q]) ∧ MMem 0 w'.heap.size w' v d ∧ Dn d ∧ Below w.heap.size w w'
/-- What l20Sets leaves. -/
def SetsP (R k : Nat) (w : World) (e : Ending) (w' : World) : Prop :=
  ∃ v d a b, e = .returned (.tuple #[v, .int .i64 a, .int .i64 b]) ∧ MMem w.heap.size w'.heap.size w' v d ∧ Dn d ∧ Rd R (k + 70) w' ∧ Chg R (R + 1) w w'


set_option maxHeartbeats 1000000 in
theorem drawSetOk_any (v : Value) (n : Nat) (w : World) (h : BIn w v n) : Calls Try.prog 22 #[v] w (DrewS w) := by
  go_enter Try.func22, Try.ntmps22
  go_wp2_with fail
  refine (open_any v n w h).mono ?_
  rintro e w1 ⟨rfl, hrd, hb⟩
  have hl := hrd.lt
  have HL := Lib.hid hl
  have HB := Lib.hid hb
  clear hl hb h
  go_wp2_with fail
  refine (space_any _ _ _ _ _ hrd (by omega) (by omega) (by omega) (by omega) (by omega)).mono ?_
  clear hrd
  rintro e w2 ⟨vd, d, rfl, hM, hd, hrd, hch⟩
  have HM := Lib.hid hM
  have HD := Lib.hid hd
  have HB2 : Hid (Below w.heap.size w w2) := HB.out.trans (hch.below HB.out.size (Nat.le_refl _))
  clear hM hd hch
  go_wp2_with fail
  refine (pick_any _ _ _ _ hrd (by omega) (by omega) (by omega)).mono ?_
  clear hrd
  rintro e w3 ⟨x, rfl, hx0, hx1, _, hrd, hch⟩
  have hx1 := hx1 (by omega)
  have HM3 := Lib.hid (HM.out.chg hch (Or.inr HL.out))
  have HB3 : Hid (Below w.heap.size w w3) := HB2.out.trans (hch.below HB2.out.size (Nat.le_refl _))
  clear hch HM HB2
  go_wp2
  go_ret2
  exact ⟨vd, d, x - 1, rfl, HM3.out.top.widen (Nat.zero_le _) (Nat.le_refl _), HD.out, HB3.out⟩

/-- What holds while the numbers are drawn. -/
def InSt (R k L H : Nat) (v : Value) (d : List (List Int)) (w wr : World) : Prop := MMem L H wr v d ∧ Rd R k wr ∧ Chg R (R + 1) w wr ∧ R + 1 ≤ L ∧ w.heap.size ≤ L
theorem InSt.picked {R k k' L H : Nat} {v : Value} {d : List (List Int)} {w wr wd w' : World} (h : InSt R k L H v d w wr) (hd : Dr wr wd) (hr : Rd R k' w') (hc : Chg R (R + 1) wd w') : InSt R k' L H v d w w' := by
  obtain ⟨h1, h2, h3, h4, h5⟩ := h
  exact ⟨(h1.dr hd).chg hc (Or.inr h4), hr, (h3.trans hd.chg).trans hc, h4, h5⟩
theorem InSt.done {R k k0 L H : Nat} {v : Value} {d : List (List Int)} {w wr wd : World} {a b : Int} (h : InSt R k L H v d w wr) (hd : Dr wr wd) (hn : Dn d) (hk : k ≤ k0 + 70) : SetsP R k0 w (.returned (.tuple #[v, .int .i64 a, .int .i64 b])) wd := by
  obtain ⟨h1, h2, h3, h4, h5⟩ := h
  exact ⟨v, d, a, b, rfl, (h1.dr hd).top.widen h5 (Nat.le_refl _), hn, (h2.dr hd).more hk, h3.trans hd.chg⟩

set_option maxRecDepth 100000 in
set_option maxHeartbeats 2000000 in
theorem sets_any (R k0 : Nat) (w : World) (h : Rd R k0 w) (hk : k0 ≤ 100) : Calls Try.prog 59 #[.pointer (some ⟨R, 0, none⟩)] w (SetsP R k0 w) := by
  have hRw := h.lt
  have HP := Lib.hid <| space_any R k0 6 12 w h (by omega) (by omega) (by omega) (by omega) (by omega)
  clear h
  go_enter Try.func59, Try.ntmps59
  go_wp2_with fail
  refine HP.out.mono ?_
  rintro e w2 ⟨vd, d, rfl, hM, hd, hrd, hch⟩
  clear HP
  have h6 := hd.six
  have hw := wrap_pow h6
  have hbd := pow_bd0 h6
  obtain ⟨db, dc, _, _, rfl, -⟩ := id hM.open
  have HS : Hid (InSt R (k0 + 64) w.heap.size w2.heap.size (.slice (some ⟨db, 0, none⟩) d.length dc) d w w2) := ⟨hM, hrd, hch, hRw, Nat.le_refl _⟩
  have HD := Lib.hid hd
  clear hM hd hch hrd
  have h7 : (d.length : Int) < 7 := by omega
  generalize w2.heap.size = H0 at *
  generalize hL : w.heap.size = L0 at *
  obtain ⟨A, hA⟩ : ∃ A : Int, (2 : Int) ^ d.length = A + 1 := ⟨2 ^ d.length - 1, by omega⟩
  rw [hA] at hw hbd
  go_upto_region 3 with (fail)
  clear hA hw h7
  by_cases hA : A < 1
  · have hA0 : A = 0 := by omega
    subst hA0
    clear hA
    refine wp_region_any (by kernel_rfl) ?_
    try (change wpAny _ _ _ _ _ _ _ (World.drew _))
    refine wpAny_take (i := 0) (v := ?_) rfl (by kernel_rfl) (by kernel_rfl) (by kernel_rfl) (fun _ _ _ h => h) (Or.inl ⟨by rfl, ?_⟩) ?_
    rotate_left 1
    · intro w
      go_simp
      try with_reducible rfl
    simp only [Act.put, List.getElem_toArray, List.getElem_cons_succ, List.getElem_cons_zero, List.setIfInBounds_toArray, List.set_cons_succ, List.set_cons_zero]
    refine wpAny_take (i := 1) (v := ?_) rfl (by kernel_rfl) (by kernel_rfl) (by kernel_rfl) (fun _ _ _ h => h) (Or.inl ⟨by rfl, ?_⟩) ?_
    rotate_left 1
    · intro w
      go_simp
      try with_reducible rfl
    simp only [Act.put, List.getElem_toArray, List.getElem_cons_succ, List.getElem_cons_zero, List.setIfInBounds_toArray, List.set_cons_succ, List.set_cons_zero]
    refine wpAny_take (i := 3) (v := ?_) rfl (by kernel_rfl) (by kernel_rfl) (by kernel_rfl) (fun _ _ _ h => h) (Or.inl ⟨by rfl, ?_⟩) ?_
    rotate_left 1
    · intro w
      go_simp
      try with_reducible rfl
    simp only [Act.put, List.getElem_toArray, List.getElem_cons_succ, List.getElem_cons_zero, List.setIfInBounds_toArray, List.set_cons_succ, List.set_cons_zero]
    refine wpAny_take (i := 4) (v := ?_) rfl (by kernel_rfl) (by kernel_rfl) (by kernel_rfl) (fun _ _ _ h => h) (Or.inl ⟨by rfl, ?_⟩) ?_
    rotate_left 1
    · intro w
      go_simp
      try with_reducible rfl
    simp only [Act.put, List.getElem_toArray, List.getElem_cons_succ, List.getElem_cons_zero, List.setIfInBounds_toArray, List.set_cons_succ, List.set_cons_zero]
    refine wpAny_take (i := 7) (v := ?_) rfl (by kernel_rfl) (by kernel_rfl) (by kernel_rfl) (fun _ _ _ h => h) (Or.inl ⟨by rfl, ?_⟩) ?_
    rotate_left 1
    · intro w
      go_simp
      try with_reducible rfl
    simp only [Act.put, List.getElem_toArray, List.getElem_cons_succ, List.getElem_cons_zero, List.setIfInBounds_toArray, List.set_cons_succ, List.set_cons_zero]
    refine wpAny_take (i := 12) (v := ?_) rfl (by kernel_rfl) (by kernel_rfl) (by kernel_rfl) (fun _ _ _ h => h) (Or.inl ⟨by rfl, ?_⟩) ?_
    rotate_left 1
    · intro w
      go_simp
      try with_reducible rfl
    simp only [Act.put, List.getElem_toArray, List.getElem_cons_succ, List.getElem_cons_zero, List.setIfInBounds_toArray, List.set_cons_succ, List.set_cons_zero]
    refine wpAny_take (i := 14) (v := ?_) rfl (by kernel_rfl) (by kernel_rfl) (by kernel_rfl) (fun _ _ _ h => h) (Or.inl ⟨by rfl, ?_⟩) ?_
    rotate_left 1
    · intro w
      go_simp
      try with_reducible rfl
    simp only [Act.put, List.getElem_toArray, List.getElem_cons_succ, List.getElem_cons_zero, List.setIfInBounds_toArray, List.set_cons_succ, List.set_cons_zero]
    refine wpAny_take (i := 15) (v := ?_) rfl (by kernel_rfl) (by kernel_rfl) (by kernel_rfl) (fun _ _ _ h => h) (Or.inl ⟨by rfl, ?_⟩) ?_
    rotate_left 1
    · intro w
      go_simp
      try with_reducible rfl
    simp only [Act.put, List.getElem_toArray, List.getElem_cons_succ, List.getElem_cons_zero, List.setIfInBounds_toArray, List.set_cons_succ, List.set_cons_zero]
    refine wpAny_take (i := 18) (v := ?_) rfl (by kernel_rfl) (by kernel_rfl) (by kernel_rfl) (fun _ _ _ h => h) (Or.inl ⟨by rfl, ?_⟩) ?_
    rotate_left 1
    · intro w
      go_simp
      try with_reducible rfl
    simp only [Act.put, List.getElem_toArray, List.getElem_cons_succ, List.getElem_cons_zero, List.setIfInBounds_toArray, List.set_cons_succ, List.set_cons_zero]
    refine wpAny_ready (rs := [2]) (by kernel_rfl) (by simp) ?_
    refine AllReady.cons rfl (fun K hK => ?_) AllReady.nil
    (go_simp; go_at_call 56; refine (pick_any R _ _ _ (HS.out.2.1.dr ?_) (by omega) (by omega) (by omega)).mono ?_; (first | exact Dr.refl _ | exact (Dr.refl _).one | exact (Dr.refl _).one.one); rintro e wn ⟨x1, rfl, hx0_1, hx1, _, hrd, hch⟩; have hx1_1 := hx1 (by omega); clear hx1; (try have hq0_1 := Int.tmod_nonneg A hx0_1); (try have hq1_1 := Int.tmod_lt_of_pos x1 hA1); have HS := Lib.hid (HS.out.picked (by first | exact Dr.refl _ | exact (Dr.refl _).one | exact (Dr.refl _).one.one) hrd hch); clear hrd hch)
    try go_simp
    try (refine hK _ _ ?_)
    try clear hK
    refine wpAny_take (i := 5) (v := ?_) rfl (by kernel_rfl) (by kernel_rfl) (by kernel_rfl) (fun _ _ _ h => h) (Or.inl ⟨by rfl, ?_⟩) ?_
    rotate_left 1
    · intro w
      go_simp
      try with_reducible rfl
    simp only [Act.put, List.getElem_toArray, List.getElem_cons_succ, List.getElem_cons_zero, List.setIfInBounds_toArray, List.set_cons_succ, List.set_cons_zero]
    refine wpAny_take (i := 6) (v := ?_) rfl (by kernel_rfl) (by kernel_rfl) (by kernel_rfl) (fun _ _ _ h => h) (Or.inl ⟨by rfl, ?_⟩) ?_
    rotate_left 1
    · intro w
      go_simp
      try with_reducible rfl
    simp only [Act.put, List.getElem_toArray, List.getElem_cons_succ, List.getElem_cons_zero, List.setIfInBounds_toArray, List.set_cons_succ, List.set_cons_zero]
    refine wpAny_ready (rs := [8]) (by kernel_rfl) (by simp) ?_
    refine AllReady.cons rfl (fun K hK => ?_) AllReady.nil
    (go_simp; go_at_call 56; refine (pick_any R _ _ _ (HS.out.2.1.dr ?_) (by omega) (by omega) (by omega)).mono ?_; (first | exact Dr.refl _ | exact (Dr.refl _).one | exact (Dr.refl _).one.one); rintro e wn ⟨x2, rfl, hx0_2, hx1, _, hrd, hch⟩; have hx1_2 := hx1 (by omega); clear hx1; have HS := Lib.hid (HS.out.picked (by first | exact Dr.refl _ | exact (Dr.refl _).one | exact (Dr.refl _).one.one) hrd hch); clear hrd hch)
    try go_simp
    try (refine hK _ _ ?_)
    try clear hK
    refine wpAny_take (i := 9) (v := ?_) rfl (by kernel_rfl) (by kernel_rfl) (by kernel_rfl) (fun _ _ _ h => h) (Or.inl ⟨by rfl, ?_⟩) ?_
    rotate_left 1
    · intro w
      go_simp
      try with_reducible rfl
    simp only [Act.put, List.getElem_toArray, List.getElem_cons_succ, List.getElem_cons_zero, List.setIfInBounds_toArray, List.set_cons_succ, List.set_cons_zero]
    refine wpAny_take (i := 10) (v := ?_) rfl (by kernel_rfl) (by kernel_rfl) (by kernel_rfl) (fun _ _ _ h => h) (Or.inl ⟨by rfl, ?_⟩) ?_
    rotate_left 1
    · intro w
      go_simp
      try with_reducible rfl
    simp only [Act.put, List.getElem_toArray, List.getElem_cons_succ, List.getElem_cons_zero, List.setIfInBounds_toArray, List.set_cons_succ, List.set_cons_zero]
    refine wpAny_take (i := 11) (v := ?_) rfl (by kernel_rfl) (by kernel_rfl) (by kernel_rfl) (fun _ _ _ h => h) (Or.inl ⟨by rfl, ?_⟩) ?_
    rotate_left 1
    · intro w
      go_simp
      try with_reducible rfl
    simp only [Act.put, List.getElem_toArray, List.getElem_cons_succ, List.getElem_cons_zero, List.setIfInBounds_toArray, List.set_cons_succ, List.set_cons_zero]
    refine wpAny_ready (rs := [13]) (by kernel_rfl) (by simp) ?_
    refine AllReady.cons rfl (fun K hK => ?_) AllReady.nil
    (go_simp; go_at_call 56; refine (pick_any R _ _ _ (HS.out.2.1.dr ?_) (by omega) (by omega) (by omega)).mono ?_; (first | exact Dr.refl _ | exact (Dr.refl _).one | exact (Dr.refl _).one.one); rintro e wn ⟨x3, rfl, hx0_3, hx1, _, hrd, hch⟩; have hx1_3 := hx1 (by omega); clear hx1; (try have hq0_3 := Int.tmod_nonneg A hx0_3); (try have hq1_3 := Int.tmod_lt_of_pos x3 hA1); have HS := Lib.hid (HS.out.picked (by first | exact Dr.refl _ | exact (Dr.refl _).one | exact (Dr.refl _).one.one) hrd hch); clear hrd hch)
    try go_simp
    try (refine hK _ _ ?_)
    try clear hK
    refine wpAny_take (i := 16) (v := ?_) rfl (by kernel_rfl) (by kernel_rfl) (by kernel_rfl) (fun _ _ _ h => h) (Or.inl ⟨by rfl, ?_⟩) ?_
    rotate_left 1
    · intro w
      go_simp
      try with_reducible rfl
    simp only [Act.put, List.getElem_toArray, List.getElem_cons_succ, List.getElem_cons_zero, List.setIfInBounds_toArray, List.set_cons_succ, List.set_cons_zero]
    refine wpAny_take (i := 17) (v := ?_) rfl (by kernel_rfl) (by kernel_rfl) (by kernel_rfl) (fun _ _ _ h => h) (Or.inl ⟨by rfl, ?_⟩) ?_
    rotate_left 1
    · intro w
      go_simp
      try with_reducible rfl
    simp only [Act.put, List.getElem_toArray, List.getElem_cons_succ, List.getElem_cons_zero, List.setIfInBounds_toArray, List.set_cons_succ, List.set_cons_zero]
    refine wpAny_ready (rs := [19]) (by kernel_rfl) (by simp) ?_
    refine AllReady.cons rfl (fun K hK => ?_) AllReady.nil
    (go_simp; go_at_call 56; refine (pick_any R _ _ _ (HS.out.2.1.dr ?_) (by omega) (by omega) (by omega)).mono ?_; (first | exact Dr.refl _ | exact (Dr.refl _).one | exact (Dr.refl _).one.one); rintro e wn ⟨x4, rfl, hx0_4, hx1, _, hrd, hch⟩; have hx1_4 := hx1 (by omega); clear hx1; have HS := Lib.hid (HS.out.picked (by first | exact Dr.refl _ | exact (Dr.refl _).one | exact (Dr.refl _).one.one) hrd hch); clear hrd hch)
    try go_simp
    try (refine hK _ _ ?_)
    try clear hK
    refine wpAny_take (i := 20) (v := ?_) rfl (by kernel_rfl) (by kernel_rfl) (by kernel_rfl) (fun _ _ _ h => h) (Or.inl ⟨by rfl, ?_⟩) ?_
    rotate_left 1
    · intro w
      go_simp
      try with_reducible rfl
    simp only [Act.put, List.getElem_toArray, List.getElem_cons_succ, List.getElem_cons_zero, List.setIfInBounds_toArray, List.set_cons_succ, List.set_cons_zero]
    refine wpAny_take (i := 21) (v := ?_) rfl (by kernel_rfl) (by kernel_rfl) (by kernel_rfl) (fun _ _ _ h => h) (Or.inl ⟨by rfl, ?_⟩) ?_
    rotate_left 1
    · intro w
      go_simp
      try with_reducible rfl
    simp only [Act.put, List.getElem_toArray, List.getElem_cons_succ, List.getElem_cons_zero, List.setIfInBounds_toArray, List.set_cons_succ, List.set_cons_zero]
    refine wpAny_take (i := 22) (v := ?_) rfl (by kernel_rfl) (by kernel_rfl) (by kernel_rfl) (fun _ _ _ h => h) (Or.inl ⟨by rfl, ?_⟩) ?_
    rotate_left 1
    · intro w
      go_simp
      try with_reducible rfl
    simp only [Act.put, List.getElem_toArray, List.getElem_cons_succ, List.getElem_cons_zero, List.setIfInBounds_toArray, List.set_cons_succ, List.set_cons_zero]
    refine wpAny_take (i := 23) (v := ?_) rfl (by kernel_rfl) (by kernel_rfl) (by kernel_rfl) (fun _ _ _ h => h) (Or.inl ⟨by rfl, ?_⟩) ?_
    rotate_left 1
    · intro w
      go_simp
      try with_reducible rfl
    simp only [Act.put, List.getElem_toArray, List.getElem_cons_succ, List.getElem_cons_zero, List.setIfInBounds_toArray, List.set_cons_succ, List.set_cons_zero]
    refine wpAny_take (i := 24) (v := ?_) rfl (by kernel_rfl) (by kernel_rfl) (by kernel_rfl) (fun _ _ _ h => h) (Or.inl ⟨by rfl, ?_⟩) ?_
    rotate_left 1
    · intro w
      go_simp
      try with_reducible rfl
    simp only [Act.put, List.getElem_toArray, List.getElem_cons_succ, List.getElem_cons_zero, List.setIfInBounds_toArray, List.set_cons_succ, List.set_cons_zero]
    refine wpAny_take (i := 25) (v := ?_) rfl (by kernel_rfl) (by kernel_rfl) (by kernel_rfl) (fun _ _ _ h => h) (Or.inl ⟨by rfl, ?_⟩) ?_
    rotate_left 1
    · intro w
      go_simp
      try with_reducible rfl
    simp only [Act.put, List.getElem_toArray, List.getElem_cons_succ, List.getElem_cons_zero, List.setIfInBounds_toArray, List.set_cons_succ, List.set_cons_zero]
    refine wpAny_done (by kernel_rfl) ?_ _
    go_wp2
    go_ret3
    obtain ⟨g1, g2, g3, g4, g5⟩ := HS.out
    exact ⟨_, d, _, _, rfl, g1.top.widen g5 (Nat.le_refl _), HD.out, g2.more (by omega), g3⟩
  · have hA0 : A ≠ 0 := by omega
    have hA1 : 0 < A := by omega
    refine wp_region_any (by kernel_rfl) ?_
    try (change wpAny _ _ _ _ _ _ _ (World.drew _))
    refine wpAny_take (i := 0) (v := ?_) rfl (by kernel_rfl) (by kernel_rfl) (by kernel_rfl) (fun _ _ _ h => h) (Or.inl ⟨by rfl, ?_⟩) ?_
    rotate_left 1
    · intro w
      go_simp
      try with_reducible rfl
    simp only [Act.put, List.getElem_toArray, List.getElem_cons_succ, List.getElem_cons_zero, List.setIfInBounds_toArray, List.set_cons_succ, List.set_cons_zero]
    refine wpAny_take (i := 1) (v := ?_) rfl (by kernel_rfl) (by kernel_rfl) (by kernel_rfl) (fun _ _ _ h => h) (Or.inl ⟨by rfl, ?_⟩) ?_
    rotate_left 1
    · intro w
      go_simp
      try with_reducible rfl
    simp only [Act.put, List.getElem_toArray, List.getElem_cons_succ, List.getElem_cons_zero, List.setIfInBounds_toArray, List.set_cons_succ, List.set_cons_zero]
    refine wpAny_take (i := 3) (v := ?_) rfl (by kernel_rfl) (by kernel_rfl) (by kernel_rfl) (fun _ _ _ h => h) (Or.inl ⟨by rfl, ?_⟩) ?_
    rotate_left 1
    · intro w
      go_simp
      try with_reducible rfl
    simp only [Act.put, List.getElem_toArray, List.getElem_cons_succ, List.getElem_cons_zero, List.setIfInBounds_toArray, List.set_cons_succ, List.set_cons_zero]
    refine wpAny_take (i := 4) (v := ?_) rfl (by kernel_rfl) (by kernel_rfl) (by kernel_rfl) (fun _ _ _ h => h) (Or.inl ⟨by rfl, ?_⟩) ?_
    rotate_left 1
    · intro w
      go_simp
      try with_reducible rfl
    simp only [Act.put, List.getElem_toArray, List.getElem_cons_succ, List.getElem_cons_zero, List.setIfInBounds_toArray, List.set_cons_succ, List.set_cons_zero]
    refine wpAny_take (i := 7) (v := ?_) rfl (by kernel_rfl) (by kernel_rfl) (by kernel_rfl) (fun _ _ _ h => h) (Or.inl ⟨by rfl, ?_⟩) ?_
    rotate_left 1
    · intro w
      go_simp
      try with_reducible rfl
    simp only [Act.put, List.getElem_toArray, List.getElem_cons_succ, List.getElem_cons_zero, List.setIfInBounds_toArray, List.set_cons_succ, List.set_cons_zero]
    refine wpAny_take (i := 12) (v := ?_) rfl (by kernel_rfl) (by kernel_rfl) (by kernel_rfl) (fun _ _ _ h => h) (Or.inl ⟨by rfl, ?_⟩) ?_
    rotate_left 1
    · intro w
      go_simp
      try with_reducible rfl
    simp only [Act.put, List.getElem_toArray, List.getElem_cons_succ, List.getElem_cons_zero, List.setIfInBounds_toArray, List.set_cons_succ, List.set_cons_zero]
    refine wpAny_take (i := 14) (v := ?_) rfl (by kernel_rfl) (by kernel_rfl) (by kernel_rfl) (fun _ _ _ h => h) (Or.inl ⟨by rfl, ?_⟩) ?_
    rotate_left 1
    · intro w
      go_simp
      try with_reducible rfl
    simp only [Act.put, List.getElem_toArray, List.getElem_cons_succ, List.getElem_cons_zero, List.setIfInBounds_toArray, List.set_cons_succ, List.set_cons_zero]
    refine wpAny_take (i := 15) (v := ?_) rfl (by kernel_rfl) (by kernel_rfl) (by kernel_rfl) (fun _ _ _ h => h) (Or.inl ⟨by rfl, ?_⟩) ?_
    rotate_left 1
    · intro w
      go_simp
      try with_reducible rfl
    simp only [Act.put, List.getElem_toArray, List.getElem_cons_succ, List.getElem_cons_zero, List.setIfInBounds_toArray, List.set_cons_succ, List.set_cons_zero]
    refine wpAny_take (i := 18) (v := ?_) rfl (by kernel_rfl) (by kernel_rfl) (by kernel_rfl) (fun _ _ _ h => h) (Or.inl ⟨by rfl, ?_⟩) ?_
    rotate_left 1
    · intro w
      go_simp
      try with_reducible rfl
    simp only [Act.put, List.getElem_toArray, List.getElem_cons_succ, List.getElem_cons_zero, List.setIfInBounds_toArray, List.set_cons_succ, List.set_cons_zero]
    refine wpAny_ready (rs := [2]) (by kernel_rfl) (by simp) ?_
    refine AllReady.cons rfl (fun K hK => ?_) AllReady.nil
    (go_simp; go_at_call 56; refine (pick_any R _ _ _ (HS.out.2.1.dr ?_) (by omega) (by omega) (by omega)).mono ?_; (first | exact Dr.refl _ | exact (Dr.refl _).one | exact (Dr.refl _).one.one); rintro e wn ⟨x1, rfl, hx0_1, hx1, _, hrd, hch⟩; have hx1_1 := hx1 (by omega); clear hx1; (try have hq0_1 := Int.tmod_nonneg A hx0_1); (try have hq1_1 := Int.tmod_lt_of_pos x1 hA1); have HS := Lib.hid (HS.out.picked (by first | exact Dr.refl _ | exact (Dr.refl _).one | exact (Dr.refl _).one.one) hrd hch); clear hrd hch)
    try go_simp
    try (refine hK _ _ ?_)
    try clear hK
    refine wpAny_take (i := 5) (v := ?_) rfl (by kernel_rfl) (by kernel_rfl) (by kernel_rfl) (fun _ _ _ h => h) (Or.inl ⟨by rfl, ?_⟩) ?_
    rotate_left 1
    · intro w
      go_simp
      try with_reducible rfl
    simp only [Act.put, List.getElem_toArray, List.getElem_cons_succ, List.getElem_cons_zero, List.setIfInBounds_toArray, List.set_cons_succ, List.set_cons_zero]
    refine wpAny_take (i := 6) (v := ?_) rfl (by kernel_rfl) (by kernel_rfl) (by kernel_rfl) (fun _ _ _ h => h) (Or.inl ⟨by rfl, ?_⟩) ?_
    rotate_left 1
    · intro w
      go_simp
      try with_reducible rfl
    simp only [Act.put, List.getElem_toArray, List.getElem_cons_succ, List.getElem_cons_zero, List.setIfInBounds_toArray, List.set_cons_succ, List.set_cons_zero]
    refine wpAny_ready (rs := [8]) (by kernel_rfl) (by simp) ?_
    refine AllReady.cons rfl (fun K hK => ?_) AllReady.nil
    (go_simp; go_at_call 56; refine (pick_any R _ _ _ (HS.out.2.1.dr ?_) (by omega) (by omega) (by omega)).mono ?_; (first | exact Dr.refl _ | exact (Dr.refl _).one | exact (Dr.refl _).one.one); rintro e wn ⟨x2, rfl, hx0_2, hx1, _, hrd, hch⟩; have hx1_2 := hx1 (by omega); clear hx1; have HS := Lib.hid (HS.out.picked (by first | exact Dr.refl _ | exact (Dr.refl _).one | exact (Dr.refl _).one.one) hrd hch); clear hrd hch)
    try go_simp
    try (refine hK _ _ ?_)
    try clear hK
    refine wpAny_take (i := 9) (v := ?_) rfl (by kernel_rfl) (by kernel_rfl) (by kernel_rfl) (fun _ _ _ h => h) (Or.inl ⟨by rfl, ?_⟩) ?_
    rotate_left 1
    · intro w
      go_simp
      try with_reducible rfl
    simp only [Act.put, List.getElem_toArray, List.getElem_cons_succ, List.getElem_cons_zero, List.setIfInBounds_toArray, List.set_cons_succ, List.set_cons_zero]
    refine wpAny_take (i := 10) (v := ?_) rfl (by kernel_rfl) (by kernel_rfl) (by kernel_rfl) (fun _ _ _ h => h) (Or.inl ⟨by rfl, ?_⟩) ?_
    rotate_left 1
    · intro w
      go_simp
      try with_reducible rfl
    simp only [Act.put, List.getElem_toArray, List.getElem_cons_succ, List.getElem_cons_zero, List.setIfInBounds_toArray, List.set_cons_succ, List.set_cons_zero]
    refine wpAny_take (i := 11) (v := ?_) rfl (by kernel_rfl) (by kernel_rfl) (by kernel_rfl) (fun _ _ _ h => h) (Or.inl ⟨by rfl, ?_⟩) ?_
    rotate_left 1
    · intro w
      go_simp
      try with_reducible rfl
    simp only [Act.put, List.getElem_toArray, List.getElem_cons_succ, List.getElem_cons_zero, List.setIfInBounds_toArray, List.set_cons_succ, List.set_cons_zero]
    refine wpAny_ready (rs := [13]) (by kernel_rfl) (by simp) ?_
    refine AllReady.cons rfl (fun K hK => ?_) AllReady.nil
    (go_simp; go_at_call 56; refine (pick_any R _ _ _ (HS.out.2.1.dr ?_) (by omega) (by omega) (by omega)).mono ?_; (first | exact Dr.refl _ | exact (Dr.refl _).one | exact (Dr.refl _).one.one); rintro e wn ⟨x3, rfl, hx0_3, hx1, _, hrd, hch⟩; have hx1_3 := hx1 (by omega); clear hx1; (try have hq0_3 := Int.tmod_nonneg A hx0_3); (try have hq1_3 := Int.tmod_lt_of_pos x3 hA1); have HS := Lib.hid (HS.out.picked (by first | exact Dr.refl _ | exact (Dr.refl _).one | exact (Dr.refl _).one.one) hrd hch); clear hrd hch)
    try go_simp
    try (refine hK _ _ ?_)
    try clear hK
    refine wpAny_take (i := 16) (v := ?_) rfl (by kernel_rfl) (by kernel_rfl) (by kernel_rfl) (fun _ _ _ h => h) (Or.inl ⟨by rfl, ?_⟩) ?_
    rotate_left 1
    · intro w
      go_simp
      try with_reducible rfl
    simp only [Act.put, List.getElem_toArray, List.getElem_cons_succ, List.getElem_cons_zero, List.setIfInBounds_toArray, List.set_cons_succ, List.set_cons_zero]
    refine wpAny_take (i := 17) (v := ?_) rfl (by kernel_rfl) (by kernel_rfl) (by kernel_rfl) (fun _ _ _ h => h) (Or.inl ⟨by rfl, ?_⟩) ?_
    rotate_left 1
    · intro w
      go_simp
      try with_reducible rfl
    simp only [Act.put, List.getElem_toArray, List.getElem_cons_succ, List.getElem_cons_zero, List.setIfInBounds_toArray, List.set_cons_succ, List.set_cons_zero]
    refine wpAny_ready (rs := [19]) (by kernel_rfl) (by simp) ?_
    refine AllReady.cons rfl (fun K hK => ?_) AllReady.nil
    (go_simp; go_at_call 56; refine (pick_any R _ _ _ (HS.out.2.1.dr ?_) (by omega) (by omega) (by omega)).mono ?_; (first | exact Dr.refl _ | exact (Dr.refl _).one | exact (Dr.refl _).one.one); rintro e wn ⟨x4, rfl, hx0_4, hx1, _, hrd, hch⟩; have hx1_4 := hx1 (by omega); clear hx1; have HS := Lib.hid (HS.out.picked (by first | exact Dr.refl _ | exact (Dr.refl _).one | exact (Dr.refl _).one.one) hrd hch); clear hrd hch)
    try go_simp
    try (refine hK _ _ ?_)
    try clear hK
    refine wpAny_take (i := 20) (v := ?_) rfl (by kernel_rfl) (by kernel_rfl) (by kernel_rfl) (fun _ _ _ h => h) (Or.inl ⟨by rfl, ?_⟩) ?_
    rotate_left 1
    · intro w
      go_simp
      try with_reducible rfl
    simp only [Act.put, List.getElem_toArray, List.getElem_cons_succ, List.getElem_cons_zero, List.setIfInBounds_toArray, List.set_cons_succ, List.set_cons_zero]
    refine wpAny_take (i := 21) (v := ?_) rfl (by kernel_rfl) (by kernel_rfl) (by kernel_rfl) (fun _ _ _ h => h) (Or.inl ⟨by rfl, ?_⟩) ?_
    rotate_left 1
    · intro w
      go_simp
      try with_reducible rfl
    simp only [Act.put, List.getElem_toArray, List.getElem_cons_succ, List.getElem_cons_zero, List.setIfInBounds_toArray, List.set_cons_succ, List.set_cons_zero]
    refine wpAny_take (i := 22) (v := ?_) rfl (by kernel_rfl) (by kernel_rfl) (by kernel_rfl) (fun _ _ _ h => h) (Or.inl ⟨by rfl, ?_⟩) ?_
    rotate_left 1
    · intro w
      go_simp
      try with_reducible rfl
    simp only [Act.put, List.getElem_toArray, List.getElem_cons_succ, List.getElem_cons_zero, List.setIfInBounds_toArray, List.set_cons_succ, List.set_cons_zero]
    refine wpAny_take (i := 23) (v := ?_) rfl (by kernel_rfl) (by kernel_rfl) (by kernel_rfl) (fun _ _ _ h => h) (Or.inl ⟨by rfl, ?_⟩) ?_
    rotate_left 1
    · intro w
      go_simp
      try with_reducible rfl
    simp only [Act.put, List.getElem_toArray, List.getElem_cons_succ, List.getElem_cons_zero, List.setIfInBounds_toArray, List.set_cons_succ, List.set_cons_zero]
    refine wpAny_take (i := 24) (v := ?_) rfl (by kernel_rfl) (by kernel_rfl) (by kernel_rfl) (fun _ _ _ h => h) (Or.inl ⟨by rfl, ?_⟩) ?_
    rotate_left 1
    · intro w
      go_simp
      try with_reducible rfl
    simp only [Act.put, List.getElem_toArray, List.getElem_cons_succ, List.getElem_cons_zero, List.setIfInBounds_toArray, List.set_cons_succ, List.set_cons_zero]
    refine wpAny_take (i := 25) (v := ?_) rfl (by kernel_rfl) (by kernel_rfl) (by kernel_rfl) (fun _ _ _ h => h) (Or.inl ⟨by rfl, ?_⟩) ?_
    rotate_left 1
    · intro w
      go_simp
      try with_reducible rfl
    simp only [Act.put, List.getElem_toArray, List.getElem_cons_succ, List.getElem_cons_zero, List.setIfInBounds_toArray, List.set_cons_succ, List.set_cons_zero]
    refine wpAny_done (by kernel_rfl) ?_ _
    go_wp2
    go_ret3
    obtain ⟨g1, g2, g3, g4, g5⟩ := HS.out
    exact ⟨_, d, _, _, rfl, g1.top.widen g5 (Nat.le_refl _), HD.out, g2.more (by omega), g3⟩

end Go.Proofs.Ytclffncimaigfaa
