/- What impl.RadiusOf returns. Conditions: as each theorem says. -/
import Derived.Test.YtknnelenmedonaaWidth
namespace Go.Proofs.Ytknnelenmedonaa
set_option linter.unusedVariables false
set_option linter.unusedSimpArgs false
open Go.RowKit Go.Deep

/-- The least of what is farthest. -/
def radF (d : List (List Int)) : Int := minN (farF d) 60 d.length

theorem rad_of {d : List (List Int)} (h : Space d) {q : Nat} (hq : q < d.length) (hl : ∀ j, j < d.length → farF d q ≤ farF d j) : farF d q = radF d := by
  have h1 : radF d ≤ farF d q := minN_le hq
  have h2 : farF d q ≤ radF d := le_minN (farF_bd h hq).2 hl
  omega
theorem rad_le {d : List (List Int)} {k : Nat} (hk : k < d.length) : radF d ≤ farF d k := minN_le hk

/-- What RadiusOf leaves where there is a space. -/
def RadP (d : List (List Int)) (w : World) (e : Ending) (w' : World) : Prop := ∃ q : Nat, e = .returned (.tuple #[.int .i64 (radF d), .int .i64 q, .bool true]) ∧ q < d.length ∧ Dr w w'

set_option maxRecDepth 100000 in
set_option maxHeartbeats 2000000 in
theorem implRadiusOf_any (lo hi : Nat) (v : Value) (d : List (List Int)) (w : World) (hd : MMem lo hi w v d) (hS : Space d) :
    Calls Try.prog 31 #[v] w (RadP d w) := by
  have cs := isSpace_any lo hi v d w hd
  rw [decP_yes hS] at cs
  obtain ⟨b, cap, BB, CC, rfl, hO⟩ := hd.space hS
  have hsix := hS.six
  have hone := hS.one
  have HCS := Lib.hid <| cs
  have HO := Lib.hid <| hO
  have HSP := Lib.hid hS
  clear cs hO hd hS
  go_enter Try.func31, Try.ntmps31
  go_wp2_with fail
  refine (HCS.out).mono ?_
  rintro e w1 ⟨rfl, hd_w1⟩
  have HW1 : Hid (Dr _ w1) := hd_w1
  clear hd_w1
  have H0 : Hid (∀ j, j < 0 → farF d 0 ≤ farF d j) := fun j hj => absurd hj (by omega)
  go_wp2
  go_loopw [5, 13] (fun qv kv wr => ∃ k q : Nat, k ≤ d.length ∧ q < d.length ∧ kv = .int .i64 k ∧ qv = .int .i64 q ∧ Hid (∀ j, j < k → farF d q ≤ farF d j) ∧ Hid (Dr w wr)) (fun _ kv _ => d.length - (intOf kv).toNat)
  case atStart => exact ⟨0, 0, Nat.zero_le _, hone, rfl, rfl, H0, HW1⟩
  case round =>
    clear HW1 H0
    obtain ⟨k, q, hk, hq, rfl, rfl, HL, HW1⟩ := hrel
    have hcall : ∀ (wr : World) (i : Nat), i < d.length → Dr w wr → Calls Try.prog 59 #[.slice (some ⟨BB i, 0, none⟩) d.length (CC i)] wr (Quiet (.int .i64 (farF d i)) wr) := fun wr i hi hw => by
      have call := slicesMax_any _ (row d i) wr ((HO.out.dr hw).rowI i hi) (by rw [HO.out.len i hi]; omega)
      rwa [farF_row HSP.out hi] at call
    have HCALL := Lib.hid <| hcall
    clear hcall
    have hqi : (q : Int) < (d.length : Int) := by omega
    have c2 := (HO.out.dr HW1.out).top q hq
    by_cases hklt : k < d.length
    · have c1 := (HO.out.dr HW1.out).top k hklt
      have hki : (k : Int) < (d.length : Int) := by omega
      have HCX : Hid (∀ (m i : Nat), i < d.length → Calls Try.prog 59 #[.slice (some ⟨BB i, 0, none⟩) d.length (CC i)] (wr.drewN m) (Quiet (.int .i64 (farF d i)) (wr.drewN m))) := fun m i hi => HCALL.out _ i hi (HW1.out.more m)
      by_cases hl : farF d k < farF d q
      · have HL2 : Hid (∀ j, j < k + 1 → farF d k ≤ farF d j) := fun j hj => by
          by_cases e : j < k
          · have := HL.out j e; omega
          · have : j = k := by omega
            subst this; omega
        go_wp2_with fail
        go_quiet ((go_at_call 59; exact quiet_in (HCX.out _ _ (by assumption))))
        clear c1 c2 hl
        go_wp2
        go_roundw
        case rel => exact ⟨k + 1, k, by omega, by omega, by go_num, rfl, HL2, HW1.out.more _⟩
        case measure => simp [intOf]; omega
      · have hl' : decide (farF d k < farF d q) = false := by simpa using hl
        have HL2 : Hid (∀ j, j < k + 1 → farF d q ≤ farF d j) := fun j hj => by
          by_cases e : j < k
          · exact HL.out j e
          · have : j = k := by omega
            subst this; omega
        go_wp2_with fail
        go_quiet ((go_at_call 59; exact quiet_in (HCX.out _ _ (by assumption))))
        clear c1 c2 hl hl'
        go_wp2
        go_roundw
        case rel => exact ⟨k + 1, q, by omega, by omega, by go_num, rfl, HL2, HW1.out.more _⟩
        case measure => simp [intOf]; omega
    · have hke : k = d.length := by omega
      subst hke
      have HE := Lib.hid (rad_of HSP.out hq HL.out)
      go_wp2_with fail
      refine (HCALL.out _ q hq HW1.out).mono ?_
      rintro e w2 ⟨rfl, hd_w2⟩
      have HW2 : Hid (Dr _ w2) := HW1.out.trans hd_w2
      clear hd_w2 HW1
      go_wp2
      go_ret3
      exact ⟨q, by rw [HE.out]; rfl, hq, HW2.out⟩

end Go.Proofs.Ytknnelenmedonaa
