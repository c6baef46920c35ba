/- What impl.FarthestFrom returns. Conditions: as the theorem says. -/
import Derived.Test.YtknnelenmedonaaFar
namespace Go.Proofs.Ytknnelenmedonaa
set_option linter.unusedVariables false
set_option linter.unusedSimpArgs false
open Go.RowKit Go.Deep

set_option maxHeartbeats 1000000 in
theorem implFarthestFrom_in (lo hi : Nat) (v : Value) (d : List (List Int)) (q : Nat) (w : World) (hd : MMem lo hi w v d) (hS : Space d) (hq : q < d.length) :
    Calls Try.prog 49 #[v, .int .i64 q] w (Quiet (.int .i64 (farF d q)) w) := by
  have cp := hasPoint_any lo hi v d q w hd
  rw [decP_yes ⟨hS, by omega, by omega⟩] at cp
  obtain ⟨b, cap, BB, CC, rfl, hO⟩ := hd.space hS
  have hone := hS.one
  have hsix := hS.six
  have HCP := Lib.hid <| cp
  have HO := Lib.hid <| hO
  have HSP := Lib.hid hS
  have hqi : (q : Int) < (d.length : Int) := by omega
  clear cp hO hS hd
  go_enter Try.func49, Try.ntmps49
  go_wp2_with fail
  refine (HCP.out).mono ?_
  rintro e w1 ⟨rfl, hd_w1⟩
  have HW1 : Hid (Dr _ w1) := hd_w1
  clear hd_w1
  have HO1 := Lib.hid (HO.out.dr HW1.out)
  have c1 := HO1.out.top q hq
  have call := slicesMax_any _ (row d q) w1 (HO1.out.rowI q hq) (by rw [HO1.out.len q hq]; omega)
  rw [farF_row HSP.out hq] at call
  have HM := Lib.hid <| call
  clear call
  go_wp2_with fail
  refine (HM.out).mono ?_
  rintro e w2 ⟨rfl, hd_w2⟩
  have HW2 : Hid (Dr _ w2) := HW1.out.trans hd_w2
  clear hd_w2 HW1
  go_wp2
  go_ret
  exact ⟨rfl, HW2.out⟩

end Go.Proofs.Ytknnelenmedonaa
