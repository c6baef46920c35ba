/- What ordersOf and l7Orders return. Conditions: as each theorem says. -/
import Derived.Test.YtknnelenmedonaaOrdW
namespace Go.Proofs.Ytknnelenmedonaa
set_option linter.unusedVariables false
set_option linter.unusedSimpArgs false
open Go.RowKit Go.Deep

theorem MMem.oneEmpty (w : World) :
    MMem w.heap.size (w.heap.size + 2) ((w.alloc (.cells #[] 3)).alloc (.cells #[.slice (some ⟨w.heap.size, 0, none⟩) 0 0] 22)) (.slice (some ⟨w.heap.size + 1, 0, none⟩) 1 1) [[]] := by
  have h1 := (IMem.empty w).alloc (.cells #[.slice (some ⟨w.heap.size, 0, none⟩) 0 0] 22)
  have e1 : (w.alloc (.cells #[] 3)).heap.size = w.heap.size + 1 := by simp
  have h3 := heap_alloc_new (w.alloc (.cells #[] 3)) (.cells #[.slice (some ⟨w.heap.size, 0, none⟩) 0 0] 22)
  rw [e1] at h3
  refine ⟨w.heap.size + 1, 1, _, fun i => .slice (some ⟨w.heap.size + i, 0, none⟩) 0 0, rfl, by omega, by omega, Nat.le_refl _, by rw [maxLen_val]; decide, h3, rfl, fun i hi => ?_, fun i j hi hj hij => ?_⟩
  · match i, hi with
    | 0, _ => exact ⟨rfl, h1.widen (Nat.le_refl _) (by omega)⟩
  · simp at hi hj; omega
theorem ordK_one (n : Nat) : ordK n 0 = [[]] := rfl
theorem ordK_next (n k : Nat) : ordK n (k + 1) = extL (ordK n k) n (ordK n k).length := rfl
theorem extX_no {l : List Int} {x : Nat} (h : (x : Int) ∈ l) : extX l (x + 1) = extX l x := by simp [extX, h]
theorem extX_yes {l : List Int} {x : Nat} (h : (x : Int) ∉ l) : extX l (x + 1) = extX l x ++ [l ++ [(x : Int)]] := by simp [extX, h]
theorem extN_len {L : List (List Int)} {n j x : Nat} (h5 : n ≤ 5) (hL : L.length ≤ 3125) (hj : j < L.length) (hx : x ≤ n) : (extL L n j ++ extX (row L j) x).length ≤ 20000 := by
  rw [List.length_append]
  have h1 := extL_len L n j
  have h2 := extX_len (row L j) x
  have h3 : j * n ≤ 3125 * 5 := Nat.mul_le_mul (by omega) h5
  omega
theorem row_cells {lo hi b cap m : Nat} {w : World} {f : List Int} (h : IMem lo hi w (.slice (some ⟨b, 0, none⟩) m cap) f) (hm : f.length = m) (o : Obj) : ∀ i, i < m → (w.alloc o).cell? ⟨b, 0 + i, none⟩ = some (.int .i64 (iat f i)) := fun i hi => by
  rw [Nat.zero_add]
  exact (h.alloc o).cellAt (by omega)

set_option maxHeartbeats 2000000 in
theorem ordersOf_any (n : Nat) (w : World) (h5 : n ≤ 5) : Calls Try.prog 64 #[.int .i64 n] w (GivesM (ordK n n) w) := by
  have HM0 := Lib.hid (MMem.oneEmpty w)
  have hB0 : Below w.heap.size w ((w.alloc (.cells #[] 3)).alloc (.cells #[.slice (some ⟨w.heap.size, 0, none⟩) 0 0] 22)) := ((Below.refl _ _).alloc (Nat.le_refl _) _).alloc (by simp) _
  have HB0 := Lib.hid hB0
  clear hB0
  go_enter Try.func64, Try.ntmps64
  go_wp2
  go_loopw [3, 11] (fun ov kv wr => ∃ k : Nat, k ≤ n ∧ kv = .int .i64 k ∧ Hid (MMem w.heap.size wr.heap.size wr ov (ordK n k)) ∧ Hid (Below w.heap.size w wr)) (fun _ kv _ => n - (intOf kv).toNat)
  case atStart => exact ⟨0, Nat.zero_le _, rfl, HM0.out.top, HB0.out⟩
  case round =>
    clear HM0 HB0
    obtain ⟨k, hk, rfl, HM, HB⟩ := hrel
    by_cases hklt : k < n
    · obtain ⟨wo, rfl⟩ : ∃ wo : World, wo = wr := ⟨_, rfl⟩
      have HLB := Lib.hid (ordK_bound (n := n) (k := k) h5 (by omega))
      have HRL : Hid (∀ j, j < (ordK n k).length → (row (ordK n k) j).length ≤ 5) := fun j hj => by
        have := ordK_len (row_mem hj)
        omega
      have hEq := ordK_next n k
      have HEQ := Lib.hid hEq
      clear hEq
      generalize ordK n k = L at *
      obtain ⟨ob, oc, BB, CC, rfl, _, _, _, _, hcap, hcell, hrow, -⟩ := id HM.out.open
      rw [maxLen_val] at hcap
      have hlb := HLB.out
      have HC := Lib.hid hcell
      have HR := Lib.hid fun i hi => (hrow i hi).2.2.2.2.2.2
      clear hcell hrow
      have hs := HB.out.size
      have HN0 : Hid (MMem wo.heap.size (wo.alloc (.cells #[] 22)).heap.size (wo.alloc (.cells #[] 22)) (.slice (some ⟨wo.heap.size, 0, none⟩) 0 0) (extL L n 0)) := (MMem.empty wo).widen (Nat.le_refl _) (by simp)
      have HW0 : Hid (Below wo.heap.size wo (wo.alloc (.cells #[] 22))) := (Below.refl _ _).alloc (Nat.le_refl _) _
      go_wp2
      go_loopw [4, 16] (fun nv jv wr => ∃ j : Nat, j ≤ L.length ∧ jv = .int .i64 j ∧ Hid (MMem wo.heap.size wr.heap.size wr nv (extL L n j)) ∧ Hid (Below wo.heap.size wo wr)) (fun _ jv _ => L.length - (intOf jv).toNat)
      case atStart => exact ⟨0, Nat.zero_le _, rfl, HN0, HW0⟩
      case round =>
        clear HN0 HW0
        obtain ⟨j, hj, rfl, HN, HW⟩ := hrel
        by_cases hjlt : j < L.length
        · have c1 := (HW.out.cell (p := ⟨ob, j, none⟩) (World.block_lt_of_cell? wo _ (HC.out j hjlt))).trans (HC.out j hjlt)
          have hn := HN.out
          rw [← List.append_nil (extL L n j)] at hn
          have HN0 := Lib.hid hn
          clear HN hn
          go_wp2
          clear c1
          go_loopw [4, 21] (fun nv xv wr => ∃ x : Nat, x ≤ n ∧ xv = .int .i64 x ∧ Hid (MMem wo.heap.size wr.heap.size wr nv (extL L n j ++ extX (row L j) x)) ∧ Hid (Below wo.heap.size wo wr)) (fun _ xv _ => n - (intOf xv).toNat)
          case atStart => exact ⟨0, Nat.zero_le _, rfl, HN0, HW⟩
          case round =>
            clear HN0 HW
            obtain ⟨x, hx, rfl, HN, HW⟩ := hrel
            by_cases hxlt : x < n
            · have hI := (HR.out j hjlt).fresh HW.out
              have cs := slicesContains_any _ _ (x : Int) wr hI.inn
              have HI := Lib.hid hI
              have hs2 := HW.out.size
              clear hI
              by_cases hin : (x : Int) ∈ row L j
              · rw [decP_yes hin] at cs
                have HCS := Lib.hid <| cs
                rw [← extX_no hin] at HN
                clear cs hin
                go_wp2_with fail
                refine HCS.out.mono ?_
                rintro e w3 ⟨rfl, hd3⟩
                have HN2 := Lib.hid (HN.out.dr hd3).top
                have HW2 : Hid (Below wo.heap.size wo w3) := HW.out.trans (hd3.below _)
                clear hd3 HN HW HCS HI
                go_wp2
                go_roundw
                case rel => exact ⟨x + 1, by omega, by go_num, HN2, HW2⟩
                case measure => simp [intOf]; omega
              · rw [decP_no hin] at cs
                have HCS := Lib.hid <| cs
                have HX := Lib.hid (extX_yes hin)
                have hll := extN_len h5 hlb hjlt (show x ≤ n by omega)
                clear cs hin
                go_wp2_with fail
                refine HCS.out.mono ?_
                rintro e w3 ⟨rfl, hd3⟩
                have HN2 := Lib.hid (HN.out.dr hd3).top
                have HW2 : Hid (Below wo.heap.size wo w3) := HW.out.trans (hd3.below _)
                have HI2 := Lib.hid (HI.out.dr hd3)
                clear hd3 HN HW HCS HI hs2
                have hs3 := HW2.out.size
                have hrl := HRL.out j hjlt
                go_wp2_with (first
                  | (at_builtin; refine wp_app _ rfl _ _ rfl w3.heap.size (w3.heap.size + 1) _ [] rfl (IMem.empty _) (BB j) 0 (row L j).length _ (row L j) rfl rfl (row_cells HI2.out rfl _) (by simp; omega) (by simp) ?_; intro v4 w4 hI4 hB4 _; rw [List.nil_append] at hI4; have HI4 := Lib.hid hI4; have HB4 := Lib.hid (((Below.refl w3.heap.size w3).alloc (Nat.le_refl _) _).trans hB4); have hs4 := HB4.out.size; clear hI4 hB4)
                  | (at_builtin; refine wp_app _ rfl _ _ rfl w3.heap.size _ _ _ rfl (HI4.out.alloc _) w4.heap.size 0 1 1 [(x : Int)] rfl rfl one_cell (by omega) (by simp; omega) ?_; intro v5 w5 hI5 hB5 _; obtain ⟨rb, rc, rfl, -⟩ := id hI5.open; simp only [List.length_append, List.length_cons, List.length_nil, Nat.zero_add] at hI5; have HI5 := Lib.hid hI5; have HB5 := Lib.hid ((HB4.out.alloc hs4 _).trans hB5); have hs5 := HB5.out.size; have HN5 := Lib.hid (HN2.out.fresh HB5.out); clear hI5 hB5 HI4 HB4 hs4)
                  | (at_builtin; refine wp_appM _ rfl _ _ rfl wo.heap.size w3.heap.size _ _ _ _ (row L j ++ [(x : Int)]) rfl (HN5.out.alloc _) (HI5.out.alloc _) hs3 w5.heap.size 1 rfl new_cell (by omega) (by simp; omega) ?_; intro v6 w6 hI6 hB6; rw [List.append_assoc, ← HX.out] at hI6; have HN6 := Lib.hid hI6; have HW6 := Lib.hid (((below_chain HW2.out HB5.out).alloc (by omega) _).trans hB6); clear hI6 hB6 HI5 HB5 HN5 hs5))
                go_wp2
                go_roundw
                case rel => exact ⟨x + 1, by omega, by go_num, HN6, HW6⟩
                case measure => simp [intOf]; omega
            · have hxe : x = n := by omega
              subst hxe
              go_wp2
              go_roundw
              case rel => exact ⟨j + 1, by omega, by go_num, HN, HW⟩
              case measure => simp [intOf]; omega
        · have hje : j = L.length := by omega
          subst hje
          rw [← HEQ.out] at HN
          have HN3 := Lib.hid (HN.out.widen hs (Nat.le_refl _))
          go_wp2
          go_roundw
          case rel => exact ⟨k + 1, by omega, by go_num, HN3, below_chain HB.out HW.out⟩
          case measure => simp [intOf]; omega
    · have hke : k = n := by omega
      subst hke
      go_wp2
      go_ret
      exact givesM_of (Below.refl _ _) HM.out HB.out

end Go.Proofs.Ytknnelenmedonaa
