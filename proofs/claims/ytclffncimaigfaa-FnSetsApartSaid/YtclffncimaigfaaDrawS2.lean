/- What DrawToSet and DrawSetsApart hand back. Conditions: as each theorem says. -/
import Derived.Test.YtclffncimaigfaaDrawS
namespace Go.Proofs.Ytclffncimaigfaa
set_option linter.unusedVariables false
set_option linter.unusedSimpArgs false
open Go.RowKit Go.Deep

set_option maxHeartbeats 1000000 in
theorem drawToSet_any (v : Value) (n : Nat) (w : World) (h : BIn w v n) : Calls Try.prog 25 #[v] w (DrewSS w) := by
  go_enter Try.func25, Try.ntmps25
  go_wp2_with fail
  refine (open_any v n w h).mono ?_
  rintro e w1 ⟨rfl, hrd, hb⟩
  have hl := hrd.lt
  have HL := Lib.hid hl
  have HB := Lib.hid hb
  clear hl hb h
  go_wp2_with fail
  refine (sets_any _ 0 _ hrd (by omega)).mono ?_
  clear hrd
  rintro e w2 ⟨vd, d, a, b, rfl, hM, hd, hrd, hch⟩
  have HM := Lib.hid hM
  have HD := Lib.hid hd
  have HB2 : Hid (Below w.heap.size w w2) := HB.out.trans (hch.below HB.out.size (Nat.le_refl _))
  clear hM hd hch
  go_wp2_with fail
  refine (pick_any _ _ _ _ hrd (by omega) (by omega) (by omega)).mono ?_
  clear hrd
  rintro e w3 ⟨x, rfl, hx0, hx1, _, hrd, hch⟩
  have hx1 := hx1 (by omega)
  have HM3 := Lib.hid (HM.out.chg hch (Or.inr HL.out))
  have HB3 : Hid (Below w.heap.size w w3) := HB2.out.trans (hch.below HB2.out.size (Nat.le_refl _))
  clear hch HM HB2 hrd
  go_wp2
  go_ret3
  exact ⟨vd, d, x, a, rfl, HM3.out.top.widen (Nat.zero_le _) (Nat.le_refl _), HD.out, HB3.out⟩
set_option maxHeartbeats 1000000 in
theorem drawSetsApart_any (v : Value) (n : Nat) (w : World) (h : BIn w v n) : Calls Try.prog 28 #[v] w (DrewSS w) := by
  go_enter Try.func28, Try.ntmps28
  go_wp2_with fail
  refine (open_any v n w h).mono ?_
  rintro e w1 ⟨rfl, hrd, hb⟩
  have hl := hrd.lt
  have HL := Lib.hid hl
  have HB := Lib.hid hb
  clear hl hb h
  go_wp2_with fail
  refine (sets_any _ 0 _ hrd (by omega)).mono ?_
  clear hrd
  rintro e w2 ⟨vd, d, a, b, rfl, hM, hd, hrd, hch⟩
  have HM := Lib.hid hM
  have HD := Lib.hid hd
  have HB2 : Hid (Below w.heap.size w w2) := HB.out.trans (hch.below HB.out.size (Nat.le_refl _))
  clear hM hd hch
  go_wp2
  go_ret3
  exact ⟨vd, d, a, b, rfl, HM.out.top.widen (Nat.zero_le _) (Nat.le_refl _), HD.out, HB2.out⟩

end Go.Proofs.Ytclffncimaigfaa
