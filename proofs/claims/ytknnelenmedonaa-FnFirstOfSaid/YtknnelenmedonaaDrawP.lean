/- What the drawing functions of chapter 7 hand back. Conditions: as each theorem says. -/
import Derived.Test.YtknnelenmedonaaDrawO
namespace Go.Proofs.Ytknnelenmedonaa
set_option linter.unusedVariables false
set_option linter.unusedSimpArgs false
open Go.RowKit Go.Deep

def DrewI (w : World) (e : Ending) (w' : World) : Prop := ∃ v f, e = .returned v ∧ IMem 0 w'.heap.size w' v f ∧ f.length ≤ 7 ∧ Below w.heap.size w w'
def DrewN (w : World) (e : Ending) (w' : World) : Prop := ∃ v d, e = .returned v ∧ MMem 0 w'.heap.size w' v d ∧ d.length ≤ 6 ∧ Below w.heap.size w w'
def DrewNI (w : World) (e : Ending) (w' : World) : Prop := ∃ v u d f, e = .returned (.tuple #[v, u]) ∧ MMem 0 w'.heap.size w' v d ∧ IMem 0 w'.heap.size w' u f ∧ d.length ≤ 6 ∧ f.length ≤ 7 ∧ Below w.heap.size w w'
def DrewNN (w : World) (e : Ending) (w' : World) : Prop := ∃ v u d f, e = .returned (.tuple #[v, u]) ∧ MMem 0 w'.heap.size w' v d ∧ MMem 0 w'.heap.size w' u f ∧ d.length ≤ 6 ∧ f.length ≤ 6 ∧ Below w.heap.size w w'

set_option maxHeartbeats 1000000 in
theorem drawKeepingOf_any (v : Value) (n : Nat) (w : World) (h : BIn w v n) : Calls Try.prog 36 #[v] w (DrewN w) := by
  go_enter Try.func36, Try.ntmps36
  go_wp2_with fail
  refine (open_any v n w h).mono ?_
  rintro e w1 ⟨rfl, hrd, hb⟩
  have hl := hrd.lt
  have HL := Lib.hid hl
  have HB := Lib.hid hb
  clear hl hb h
  go_wp2_with fail
  refine (even_any _ 0 _ _ hrd (by omega) (by omega) (by omega)).mono ?_
  clear hrd
  rintro e w2 ⟨vd, d, rfl, hM, hd6, hrd, hch⟩
  have HM := Lib.hid hM
  have HB2 : Hid (Below w.heap.size w w2) := HB.out.trans (hch.below HB.out.size (Nat.le_refl _))
  have HR2 := Lib.hid hrd
  clear hM hch hrd
  go_wp2
  go_ret
  exact ⟨vd, d, rfl, HM.out.widen (Nat.zero_le _) (Nat.le_refl _), hd6, HB2.out⟩
set_option maxHeartbeats 1000000 in
theorem drawFirstOf_any (v : Value) (n : Nat) (w : World) (h : BIn w v n) : Calls Try.prog 44 #[v] w (DrewN w) := by
  go_enter Try.func44, Try.ntmps44
  go_wp2_with fail
  refine (open_any v n w h).mono ?_
  rintro e w1 ⟨rfl, hrd, hb⟩
  have hl := hrd.lt
  have HL := Lib.hid hl
  have HB := Lib.hid hb
  clear hl hb h
  go_wp2_with fail
  refine (even_any _ 0 _ _ hrd (by omega) (by omega) (by omega)).mono ?_
  clear hrd
  rintro e w2 ⟨vd, d, rfl, hM, hd6, hrd, hch⟩
  have HM := Lib.hid hM
  have HB2 : Hid (Below w.heap.size w w2) := HB.out.trans (hch.below HB.out.size (Nat.le_refl _))
  have HR2 := Lib.hid hrd
  clear hM hch hrd
  go_wp2
  go_ret
  exact ⟨vd, d, rfl, HM.out.widen (Nat.zero_le _) (Nat.le_refl _), hd6, HB2.out⟩
set_option maxHeartbeats 1000000 in
theorem drawPlacesOf_any (v : Value) (n : Nat) (w : World) (h : BIn w v n) : Calls Try.prog 48 #[v] w (DrewN w) := by
  go_enter Try.func48, Try.ntmps48
  go_wp2_with fail
  refine (open_any v n w h).mono ?_
  rintro e w1 ⟨rfl, hrd, hb⟩
  have hl := hrd.lt
  have HL := Lib.hid hl
  have HB := Lib.hid hb
  clear hl hb h
  go_wp2_with fail
  refine (even_any _ 0 _ _ hrd (by omega) (by omega) (by omega)).mono ?_
  clear hrd
  rintro e w2 ⟨vd, d, rfl, hM, hd6, hrd, hch⟩
  have HM := Lib.hid hM
  have HB2 : Hid (Below w.heap.size w w2) := HB.out.trans (hch.below HB.out.size (Nat.le_refl _))
  have HR2 := Lib.hid hrd
  clear hM hch hrd
  go_wp2
  go_ret
  exact ⟨vd, d, rfl, HM.out.widen (Nat.zero_le _) (Nat.le_refl _), hd6, HB2.out⟩

set_option maxHeartbeats 1000000 in
theorem drawOrdered_any (v : Value) (n : Nat) (w : World) (h : BIn w v n) : Calls Try.prog 29 #[v] w (DrewNI w) := by
  go_enter Try.func29, Try.ntmps29
  go_wp2_with fail
  refine (open_any v n w h).mono ?_
  rintro e w1 ⟨rfl, hrd, hb⟩
  have hl := hrd.lt
  have HL := Lib.hid hl
  have HB := Lib.hid hb
  clear hl hb h
  go_wp2_with fail
  refine (space_any _ 0 _ _ _ hrd (by omega) (by omega) (by omega) (by omega) (by omega)).mono ?_
  clear hrd
  rintro e w2 ⟨vd, d, rfl, hM, hd, hrd, hch⟩
  have hd6 := hd.six
  obtain ⟨db, dc, _, _, rfl, -⟩ := id hM.open
  have HM := Lib.hid hM
  have HB2 : Hid (Below w.heap.size w w2) := HB.out.trans (hch.below HB.out.size (Nat.le_refl _))
  clear hM hch hd
  go_wp2_with fail
  refine (pick_any _ _ 14 _ hrd (by omega) (by omega) (by omega)).mono ?_
  clear hrd
  rintro e w3 ⟨x, rfl, hx0, hx1, _, hrd, hch⟩
  have hx1 := hx1 (by omega)
  have HM3 := Lib.hid (HM.out.chg hch (Or.inr HL.out))
  have HB3 : Hid (Below w.heap.size w w3) := HB2.out.trans (hch.below HB2.out.size (Nat.le_refl _))
  have hq : 0 ≤ x / 13 ∧ x / 13 ≤ 1 := by omega
  obtain ⟨m, hm⟩ : ∃ m : Nat, (d.length : Int) + x / 13 = (m : Int) := ⟨((d.length : Int) + x / 13).toNat, by omega⟩
  have hm7 : m ≤ 7 := by omega
  have HR3 := Lib.hid hrd
  clear hch HM HB2 hrd
  go_wp2_with fail
  refine (order_any _ _ m w3 HR3.out (by omega) hm7).mono ?_
  rintro e w4 ⟨vf, f, rfl, hI, hfl, hrd, hch⟩
  have HM4 := Lib.hid (HM3.out.chg hch (Or.inr HL.out))
  have HI4 := Lib.hid hI
  have HFL : Hid (f.length ≤ 7) := by show _ ≤ _; omega
  have HB4 : Hid (Below w.heap.size w w4) := HB3.out.trans (hch.below HB3.out.size (Nat.le_refl _))
  clear hch HM3 HB3 hrd hI hfl
  go_wp2
  go_ret2
  exact ⟨_, vf, d, f, rfl, HM4.out.top.widen (Nat.zero_le _) (Nat.le_refl _), HI4.out.widen (Nat.zero_le _) (Nat.le_refl _), hd6, HFL.out, HB4.out⟩

set_option maxHeartbeats 1000000 in
theorem drawOrderOk_any (v : Value) (n : Nat) (w : World) (h : BIn w v n) : Calls Try.prog 19 #[v] w (DrewI w) := by
  go_enter Try.func19, Try.ntmps19
  go_wp2_with fail
  refine (open_any v n w h).mono ?_
  rintro e w1 ⟨rfl, hrd, hb⟩
  have hl := hrd.lt
  have HL := Lib.hid hl
  have HB := Lib.hid hb
  clear hl hb h
  go_wp2_with fail
  refine (pick_any _ 0 8 _ hrd (by omega) (by omega) (by omega)).mono ?_
  clear hrd
  rintro e w2 ⟨x, rfl, hx0, hx1, _, hrd, hch⟩
  have hx1 := hx1 (by omega)
  obtain ⟨m, rfl⟩ : ∃ m : Nat, x = (m : Int) := ⟨x.toNat, by omega⟩
  have HB2 : Hid (Below w.heap.size w w2) := HB.out.trans (hch.below HB.out.size (Nat.le_refl _))
  have hlt := hrd.lt
  clear hch
  go_wp2_with fail
  refine (order_any _ _ m w2 hrd (by omega) (by omega)).mono ?_
  clear hrd
  rintro e w3 ⟨vf, f, rfl, hI, hfl, hrd, hch⟩
  obtain ⟨fb, fc, rfl, -⟩ := id hI.open
  have hf7 : f.length ≤ 7 := by omega
  have HS3 : Hid (InO w.heap.size (0 + 1 + 8) w2 w3 (.slice (some ⟨fb, 0, none⟩) f.length fc) f) := ⟨hI, hrd, hch, hlt⟩
  clear hI hrd hch hfl
  by_cases h0 : 0 < f.length
  · have hfp : (0 : Int) < (f.length : Int) := by omega
    have HP := Lib.hid <| pick_any _ _ 3 w3 HS3.out.2.1 (by omega) (by omega) (by omega)
    go_wp2_with fail
    refine HP.out.mono ?_
    rintro e w4 ⟨y, rfl, hy0, hy1, _, hrd, hch⟩
    have HS4 := Lib.hid (HS3.out.picked hrd hch)
    clear hrd hch HP HS3
    by_cases hy : y = 0
    · have hyb : (y == 0) = true := by simpa using hy
      clear hy hy0 hy1
      have HP := Lib.hid <| pick_any _ _ 8 w4 HS4.out.2.1 (by omega) (by omega) (by omega)
      go_wp2_with fail
      refine HP.out.mono ?_
      rintro e w5 ⟨z, rfl, hz0, hz1, _, hrd, hch⟩
      have hz1 := hz1 (by omega)
      have hs5 := HS4.out.picked hrd hch
      have c1 := hs5.1.cellAt h0
      have f1 := hs5.1.frozenAt 0
      have HS5 := Lib.hid (hs5.stored (i := 0) (x := z - 1) h0)
      clear hrd hch HP HS4 hs5
      go_wp2
      go_ret
      obtain ⟨g1, g2, g3, g4⟩ := HS5.out
      exact ⟨_, _, rfl, by have := g1.widen (lo' := 0) (Nat.zero_le _) (Nat.le_refl _); exact this, by rw [List.length_set]; exact hf7, HB2.out.trans (g3.below HB2.out.size (Nat.le_refl _))⟩
    · have hyb : (y == 0) = false := by simpa using hy
      clear hy hy0 hy1
      go_wp2
      go_ret
      obtain ⟨g1, g2, g3, g4⟩ := HS4.out
      exact ⟨_, _, rfl, g1.widen (Nat.zero_le _) (Nat.le_refl _), hf7, HB2.out.trans (g3.below HB2.out.size (Nat.le_refl _))⟩
  · have hfp : ¬ (0 : Int) < (f.length : Int) := by omega
    clear h0
    go_wp2
    go_ret
    obtain ⟨g1, g2, g3, g4⟩ := HS3.out
    exact ⟨_, _, rfl, g1.widen (Nat.zero_le _) (Nat.le_refl _), hf7, HB2.out.trans (g3.below HB2.out.size (Nat.le_refl _))⟩

set_option maxHeartbeats 1000000 in
theorem drawSameSpace_any (v : Value) (n : Nat) (w : World) (h : BIn w v n) : Calls Try.prog 40 #[v] w (DrewNN w) := by
  go_enter Try.func40, Try.ntmps40
  go_wp2_with fail
  refine (open_any v n w h).mono ?_
  rintro e w1 ⟨rfl, hrd, hb⟩
  have hl := hrd.lt
  have HL := Lib.hid hl
  have HB := Lib.hid hb
  clear hl hb h
  go_wp2_with fail
  refine (even_any _ 0 _ _ hrd (by omega) (by omega) (by omega)).mono ?_
  clear hrd
  rintro e w2 ⟨vd, d, rfl, hM, hd6, hrd, hch⟩
  have HM := Lib.hid hM
  have HB2 : Hid (Below w.heap.size w w2) := HB.out.trans (hch.below HB.out.size (Nat.le_refl _))
  have HR2 := Lib.hid hrd
  clear hM hch hrd
  obtain ⟨db, dc, _, _, rfl, -⟩ := id HM.out.open
  have cs := specSpaceOk_any _ _ _ _ w2 HM.out
  by_cases hS : Space d
  · rw [decP_yes hS] at cs
    have HCS := Lib.hid <| cs
    have HSP := Lib.hid hS
    clear cs hS
    go_wp2_with fail
    refine HCS.out.mono ?_
    rintro e wz ⟨rfl, hdz⟩
    have hr := HR2.out.dr hdz
    have HMz := Lib.hid (HM.out.dr hdz)
    have HBz : Hid (Below w.heap.size w wz) := HB2.out.trans (hdz.below _)
    clear hdz HM HB2 HR2 HCS
    go_wp2_with fail
    refine (pick_any _ _ 3 _ hr (by omega) (by omega) (by omega)).mono ?_
    clear hr
    rintro e w3 ⟨x, rfl, hx0, hx1, _, hrd, hch⟩
    have hx1 := hx1 (by omega)
    have HM3 := Lib.hid (HMz.out.chg hch (Or.inr HL.out))
    have HB3 : Hid (Below w.heap.size w w3) := HBz.out.trans (hch.below HBz.out.size (Nat.le_refl _))
    have HR3 := Lib.hid hrd
    clear hch hrd HMz HBz
    by_cases hx : 0 < x
    · go_wp2_with fail
      refine (order_any _ _ d.length w3 HR3.out (by omega) (by omega)).mono ?_
      rintro e w4 ⟨vf, f, rfl, hI, hfl, hrd, hch⟩
      have HM4 := Lib.hid (HM3.out.chg hch (Or.inr HL.out))
      have HI4 := Lib.hid hI
      have HB4 : Hid (Below w.heap.size w w4) := HB3.out.trans (hch.below HB3.out.size (Nat.le_refl _))
      obtain ⟨fb, fc, rfl, -⟩ := id hI.open
      clear hch HM3 HB3 hrd hI hfl
      go_wp2_with fail
      refine (specOrdered_mem _ _ _ _ _ _ _ _ w4 HM4.out HI4.out).mono ?_
      rintro e w5 ⟨ve, rfl, hE, hb5⟩
      have HM5 := Lib.hid (HM4.out.fresh hb5)
      have HE5 := Lib.hid hE
      have HB5 : Hid (Below w.heap.size w w5) := HB4.out.trans (hb5.mono HB4.out.size)
      have he6 := (odV_small d f).1
      clear hE hb5 HM4 HI4
      go_wp2
      go_ret2
      exact ⟨_, ve, d, odV d f, rfl, HM5.out.top.widen (Nat.zero_le _) (Nat.le_refl _), HE5.out.widen (Nat.zero_le _) (Nat.le_refl _), hd6, he6, HB5.out⟩
    · have hxb : ¬ 0 < x := hx
      go_wp2_with fail
      refine (even_any _ _ 14 _ HR3.out (by omega) (by omega) (by omega)).mono ?_
      rintro e w5 ⟨ve, e2, rfl, hE, he6, hrd, hch⟩
      have HM5 := Lib.hid (HM3.out.chg hch (Or.inr HL.out))
      have HE5 := Lib.hid hE
      have HB5 : Hid (Below w.heap.size w w5) := HB3.out.trans (hch.below HB3.out.size (Nat.le_refl _))
      clear hE hch hrd
      go_wp2
      go_ret2
      exact ⟨_, ve, d, e2, rfl, HM5.out.top.widen (Nat.zero_le _) (Nat.le_refl _), HE5.out.widen (Nat.zero_le _) (Nat.le_refl _), hd6, he6, HB5.out⟩
  · rw [decP_no hS] at cs
    have HCS := Lib.hid <| cs
    clear cs hS
    go_wp2_with fail
    refine HCS.out.mono ?_
    rintro e w3 ⟨rfl, hdz⟩
    have HR3 := Lib.hid (HR2.out.dr hdz)
    have HM3 := Lib.hid (HM.out.dr hdz)
    have HB3 : Hid (Below w.heap.size w w3) := HB2.out.trans (hdz.below _)
    clear hdz HM HB2 HR2 HCS
    go_wp2_with fail
    refine (even_any _ _ 14 _ HR3.out (by omega) (by omega) (by omega)).mono ?_
    rintro e w5 ⟨ve, e2, rfl, hE, he6, hrd, hch⟩
    have HM5 := Lib.hid (HM3.out.chg hch (Or.inr HL.out))
    have HE5 := Lib.hid hE
    have HB5 : Hid (Below w.heap.size w w5) := HB3.out.trans (hch.below HB3.out.size (Nat.le_refl _))
    clear hE hch hrd
    go_wp2
    go_ret2
    exact ⟨_, ve, d, e2, rfl, HM5.out.top.widen (Nat.zero_le _) (Nat.le_refl _), HE5.out.widen (Nat.zero_le _) (Nat.le_refl _), hd6, he6, HB5.out⟩

end Go.Proofs.Ytknnelenmedonaa
