/- What the drawing functions of chapters 5 and 6 hand back. Conditions: as each theorem says. -/
import Derived.Test.YtapllhnlngnobaaDrawV
namespace Go.Proofs.Ytapllhnlngnobaa
set_option linter.unusedVariables false
set_option linter.unusedSimpArgs false
open Go.RowKit Go.Deep

def DrewM (w : World) (e : Ending) (w' : World) : Prop := ∃ v d, e = .returned v ∧ MMem 0 w'.heap.size w' v d ∧ Dn d ∧ Below w.heap.size w w'
def DrewMI (w : World) (e : Ending) (w' : World) : Prop :=
  ∃ v u d f, e = .returned (.tuple #[v, u]) ∧ MMem 0 w'.heap.size w' v d ∧ IMem 0 w'.heap.size w' u f ∧ Dn d ∧ VBd f ∧ f.length ≤ 7 ∧ Below w.heap.size w w'
def DrewII (w : World) (e : Ending) (w' : World) : Prop :=
  ∃ v u f g, e = .returned (.tuple #[v, u]) ∧ IMem 0 w'.heap.size w' v f ∧ IMem 0 w'.heap.size w' u g ∧ VBd f ∧ f.length ≤ 7 ∧ VBd g ∧ g.length ≤ 7 ∧ Below w.heap.size w w'
def DrewMII (w : World) (e : Ending) (w' : World) : Prop :=
  ∃ v u t d f g, e = .returned (.tuple #[v, u, t]) ∧ MMem 0 w'.heap.size w' v d ∧ IMem 0 w'.heap.size w' u f ∧ IMem 0 w'.heap.size w' t g ∧ Dn d ∧ VBd f ∧ f.length ≤ 7 ∧ VBd g ∧ g.length ≤ 7 ∧ Below w.heap.size w w'
def DrewMZ (w : World) (e : Ending) (w' : World) : Prop :=
  ∃ v d p, e = .returned (.tuple #[v, .int .i64 p]) ∧ MMem 0 w'.heap.size w' v d ∧ Dn d ∧ -1 ≤ p ∧ p ≤ 6 ∧ Below w.heap.size w w'
def DrewMZZ (w : World) (e : Ending) (w' : World) : Prop :=
  ∃ v d p q, e = .returned (.tuple #[v, .int .i64 p, .int .i64 q]) ∧ MMem 0 w'.heap.size w' v d ∧ Dn d ∧ -1 ≤ p ∧ p ≤ 6 ∧ -1 ≤ q ∧ q ≤ 6 ∧ Below w.heap.size w w'


set_option maxHeartbeats 1000000 in
theorem drawApartBy_any (v : Value) (n : Nat) (w : World) (h : BIn w v n) : Calls Try.prog 16 #[v] w (DrewII w) := by
  go_enter Try.func16, Try.ntmps16
  go_wp2_with fail
  refine (open_any v n w h).mono ?_
  rintro e w1 ⟨rfl, hrd, hb⟩
  have hl := hrd.lt
  have HL := Lib.hid hl
  have HB := Lib.hid hb
  clear hl hb h
  go_wp2_with fail
  refine (space_any _ _ _ _ _ hrd (by omega) (by omega) (by omega) (by omega) (by omega)).mono ?_
  clear hrd
  rintro e w2 ⟨vd, d, rfl, hM, hd, hrd, hch⟩
  have HM := Lib.hid hM
  have HD := Lib.hid hd
  have HB2 : Hid (Below w.heap.size w w2) := HB.out.trans (hch.below HB.out.size (Nat.le_refl _))
  clear hM hd hch
  go_wp2_with fail
  refine (values_any _ _ w1.heap.size w2.heap.size _ _ _ _ hrd (by omega) HM.out HD.out HL.out (by omega) (by omega)).mono ?_
  clear hrd
  rintro e w3 ⟨vf, f, rfl, hI, hfl, hV, hrd, hch⟩
  have HM3 := Lib.hid (HM.out.chg hch (Or.inr HL.out))
  have HI := Lib.hid hI
  have HV := Lib.hid hV
  have HB3 : Hid (Below w.heap.size w w3) := HB2.out.trans (hch.below HB2.out.size (Nat.le_refl _))
  clear hI hV hch
  go_wp2_with fail
  refine (values_any _ _ w1.heap.size w2.heap.size _ _ _ _ hrd (by omega) HM3.out HD.out HL.out (by omega) (by omega)).mono ?_
  clear hrd
  rintro e w4 ⟨vg, g, rfl, hJ, hgl, hVg, hrd, hch⟩
  have hR : w.heap.size + 1 ≤ w2.heap.size := by have := HL.out; have := HM.out; have h2 := HB2.out.size; have h3 := hrd.lt; obtain ⟨_, _, _, _, _, _, _, h4, _⟩ := HM.out.open; omega
  have HI4 := Lib.hid (HI.out.chg hch (Or.inr hR))
  have HJ := Lib.hid hJ
  have HVg := Lib.hid hVg
  have HB4 : Hid (Below w.heap.size w w4) := HB3.out.trans (hch.below HB3.out.size (Nat.le_refl _))
  clear hJ hVg hrd hch
  go_wp2
  go_ret2
  exact ⟨vf, vg, f, g, rfl, HI4.out.top.widen (Nat.zero_le _) (Nat.le_refl _), HJ.out.widen (Nat.zero_le _) (Nat.le_refl _), HV.out, hfl, HVg.out, hgl, HB4.out⟩

set_option maxHeartbeats 1000000 in
theorem drawTameOk_any (v : Value) (n : Nat) (w : World) (h : BIn w v n) : Calls Try.prog 21 #[v] w (DrewMI w) := by
  go_enter Try.func21, Try.ntmps21
  go_wp2_with fail
  refine (open_any v n w h).mono ?_
  rintro e w1 ⟨rfl, hrd, hb⟩
  have hl := hrd.lt
  have HL := Lib.hid hl
  have HB := Lib.hid hb
  clear hl hb h
  go_wp2_with fail
  refine (space_any _ _ _ _ _ hrd (by omega) (by omega) (by omega) (by omega) (by omega)).mono ?_
  clear hrd
  rintro e w2 ⟨vd, d, rfl, hM, hd, hrd, hch⟩
  have HM := Lib.hid hM
  have HD := Lib.hid hd
  have HB2 : Hid (Below w.heap.size w w2) := HB.out.trans (hch.below HB.out.size (Nat.le_refl _))
  clear hM hd hch
  go_wp2_with fail
  refine (values_any _ _ w1.heap.size w2.heap.size _ _ _ _ hrd (by omega) HM.out HD.out HL.out (by omega) (by omega)).mono ?_
  clear hrd
  rintro e w3 ⟨vf, f, rfl, hI, hfl, hV, hrd, hch⟩
  have HM3 := Lib.hid (HM.out.chg hch (Or.inr HL.out))
  have HI := Lib.hid hI
  have HV := Lib.hid hV
  have HB3 : Hid (Below w.heap.size w w3) := HB2.out.trans (hch.below HB2.out.size (Nat.le_refl _))
  clear hI hV hch
  go_wp2
  go_ret2
  exact ⟨vd, vf, d, f, rfl, HM3.out.top.widen (Nat.zero_le _) (Nat.le_refl _), HI.out.widen (Nat.zero_le _) (Nat.le_refl _), HD.out, HV.out, hfl, HB3.out⟩

theorem drawSteepestOf_any (v : Value) (n : Nat) (w : World) (h : BIn w v n) : Calls Try.prog 28 #[v] w (DrewMI w) := by
  have HP := Lib.hid (drawTameOk_any v n w h)
  clear h
  go_enter Try.func28, Try.ntmps28
  go_wp2_with fail
  refine HP.out.mono ?_
  rintro e w1 ⟨v1, v2, d, f, rfl, h1⟩
  have H1 := Lib.hid h1
  clear h1
  go_wp2
  go_ret2
  exact ⟨v1, v2, d, f, rfl, H1.out⟩

set_option maxHeartbeats 1000000 in
theorem drawLiftedOf_any (v : Value) (n : Nat) (w : World) (h : BIn w v n) : Calls Try.prog 42 #[v] w (DrewM w) := by
  go_enter Try.func42, Try.ntmps42
  go_wp2_with fail
  refine (open_any v n w h).mono ?_
  rintro e w1 ⟨rfl, hrd, hb⟩
  have hl := hrd.lt
  have HL := Lib.hid hl
  have HB := Lib.hid hb
  clear hl hb h
  go_wp2_with fail
  refine (space_any _ _ _ _ _ hrd (by omega) (by omega) (by omega) (by omega) (by omega)).mono ?_
  clear hrd
  rintro e w2 ⟨vd, d, rfl, hM, hd, hrd, hch⟩
  have HM := Lib.hid hM
  have HD := Lib.hid hd
  have HB2 : Hid (Below w.heap.size w w2) := HB.out.trans (hch.below HB.out.size (Nat.le_refl _))
  clear hM hd hch
  go_wp2
  go_ret
  exact ⟨vd, d, rfl, HM.out.widen (Nat.zero_le _) (Nat.le_refl _), HD.out, HB2.out⟩


set_option maxHeartbeats 1000000 in
theorem drawMiddleOf_any (v : Value) (n : Nat) (w : World) (h : BIn w v n) : Calls Try.prog 37 #[v] w (DrewMZZ w) := by
  go_enter Try.func37, Try.ntmps37
  go_wp2_with fail
  refine (open_any v n w h).mono ?_
  rintro e w1 ⟨rfl, hrd, hb⟩
  have hl := hrd.lt
  have HL := Lib.hid hl
  have HB := Lib.hid hb
  clear hl hb h
  go_wp2_with fail
  refine (space_any _ _ _ _ _ hrd (by omega) (by omega) (by omega) (by omega) (by omega)).mono ?_
  clear hrd
  rintro e w2 ⟨vd, d, rfl, hM, hd, hrd, hch⟩
  have HM := Lib.hid hM
  have HD := Lib.hid hd
  have HB2 : Hid (Below w.heap.size w w2) := HB.out.trans (hch.below HB.out.size (Nat.le_refl _))
  clear hM hd hch
  go_wp2_with fail
  refine (pick_any _ _ _ _ hrd (by omega) (by omega) (by omega)).mono ?_
  clear hrd
  rintro e w3 ⟨x, rfl, hx0, hx1, _, hrd, hch⟩
  have hx1 := hx1 (by omega)
  have HM3 := Lib.hid (HM.out.chg hch (Or.inr HL.out))
  have HB3 : Hid (Below w.heap.size w w3) := HB2.out.trans (hch.below HB2.out.size (Nat.le_refl _))
  clear hch HM HB2
  go_wp2_with fail
  refine (pick_any _ _ _ _ hrd (by omega) (by omega) (by omega)).mono ?_
  clear hrd
  rintro e w4 ⟨y, rfl, hy0, hy1, _, hrd, hch⟩
  have hy1 := hy1 (by omega)
  have HM4 := Lib.hid (HM3.out.chg hch (Or.inr HL.out))
  have HB4 : Hid (Below w.heap.size w w4) := HB3.out.trans (hch.below HB3.out.size (Nat.le_refl _))
  clear hch HM3 HB3 hrd
  go_wp2
  go_ret3
  exact ⟨vd, d, x, y, rfl, HM4.out.top.widen (Nat.zero_le _) (Nat.le_refl _), HD.out, by omega, by omega, by omega, by omega, HB4.out⟩

set_option maxHeartbeats 1000000 in
theorem drawFarthestFrom_any (v : Value) (n : Nat) (w : World) (h : BIn w v n) : Calls Try.prog 69 #[v] w (DrewMZ w) := by
  go_enter Try.func69, Try.ntmps69
  go_wp2_with fail
  refine (open_any v n w h).mono ?_
  rintro e w1 ⟨rfl, hrd, hb⟩
  have hl := hrd.lt
  have HL := Lib.hid hl
  have HB := Lib.hid hb
  clear hl hb h
  go_wp2_with fail
  refine (space_any _ _ _ _ _ hrd (by omega) (by omega) (by omega) (by omega) (by omega)).mono ?_
  clear hrd
  rintro e w2 ⟨vd, d, rfl, hM, hd, hrd, hch⟩
  have HM := Lib.hid hM
  have HD := Lib.hid hd
  have HB2 : Hid (Below w.heap.size w w2) := HB.out.trans (hch.below HB.out.size (Nat.le_refl _))
  clear hM hd hch
  go_wp2_with fail
  refine (pick_any _ _ _ _ hrd (by omega) (by omega) (by omega)).mono ?_
  clear hrd
  rintro e w3 ⟨x, rfl, hx0, hx1, _, hrd, hch⟩
  have hx1 := hx1 (by omega)
  have HM3 := Lib.hid (HM.out.chg hch (Or.inr HL.out))
  have HB3 : Hid (Below w.heap.size w w3) := HB2.out.trans (hch.below HB2.out.size (Nat.le_refl _))
  clear hch HM HB2
  go_wp2_with fail
  refine (pick_any _ _ _ _ hrd (by omega) (by omega) (by omega)).mono ?_
  clear hrd
  rintro e w4 ⟨y, rfl, hy0, hy1, _, hrd, hch⟩
  have hy1 := hy1 (by omega)
  have HM4 := Lib.hid (HM3.out.chg hch (Or.inr HL.out))
  have HB4 : Hid (Below w.heap.size w w4) := HB3.out.trans (hch.below HB3.out.size (Nat.le_refl _))
  clear hch HM3 HB3 hrd
  have hy2 : 0 ≤ y / 19 ∧ y / 19 ≤ 1 := by omega
  go_wp2
  go_ret2
  exact ⟨vd, d, x - y / 19, rfl, HM4.out.top.widen (Nat.zero_le _) (Nat.le_refl _), HD.out, by omega, by omega, HB4.out⟩

theorem drawDistancesFrom_any (v : Value) (n : Nat) (w : World) (h : BIn w v n) : Calls Try.prog 25 #[v] w (DrewMZ w) := by
  have HP := Lib.hid (drawFarthestFrom_any v n w h)
  clear h
  go_enter Try.func25, Try.ntmps25
  go_wp2_with fail
  refine HP.out.mono ?_
  rintro e w1 ⟨v1, d, p, rfl, h1⟩
  have H1 := Lib.hid h1
  clear h1
  go_wp2
  go_ret2
  exact ⟨v1, d, p, rfl, H1.out⟩

end Go.Proofs.Ytapllhnlngnobaa
