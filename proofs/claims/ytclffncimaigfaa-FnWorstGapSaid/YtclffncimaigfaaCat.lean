/- What spec.CaterpillarOf hands back for the legs and the spine that are drawn. Conditions: as each theorem says. -/
import Derived.Test.YtclffncimaigfaaDrawS
import Derived.Test.YtclffncimaigfaaFar
namespace Go.Proofs.Ytclffncimaigfaa
set_option linter.unusedVariables false
set_option linter.unusedSimpArgs false
open Go.RowKit Go.Deep

theorem new_cell {w : World} {u : Value} {t : TypeId} : (w.alloc (.cells #[u] t)).cell? ⟨w.heap.size, 0, none⟩ = some u := by
  rw [cell_of_row _ _ 0 #[u] t (0, 0) (heap_alloc_new _ _)]
  rfl
/-- What CaterpillarOf leaves: rows, and whether they are a space. -/
def CatP (w : World) (e : Ending) (w' : World) : Prop :=
  ∃ v d ok, e = .returned (.tuple #[v, .bool ok]) ∧ MMem w.heap.size w'.heap.size w' v d ∧ (ok = true → Space d) ∧ Below w.heap.size w w'

set_option maxRecDepth 100000 in
set_option maxHeartbeats 4000000 in
theorem cat_any (lo hi lo' hi' : Nat) (v u : Value) (s l : List Int) (w : World) (hs : IMem lo hi w v s) (hl : IMem lo' hi' w u l) (h2 : 2 ≤ l.length) (h6 : l.length ≤ 6) (h3 : s.length + 1 = l.length)
    (hlb : ∀ i, i < l.length → 1 ≤ iat l i ∧ iat l i ≤ 5) (hsb : ∀ i, i < s.length → 0 ≤ iat s i ∧ iat s i ≤ 4) : Calls Try.prog 80 #[v, u] w (CatP w) := by
  obtain ⟨sb, sc, rfl, -⟩ := id hs.open
  obtain ⟨lb, lc, rfl, -⟩ := id hl.open
  have HSM := Lib.hid hs
  have HLM := Lib.hid hl
  have HSB := Lib.hid hsb
  have HLB := Lib.hid hlb
  have HL : Hid (2 ≤ (l.length : Int) ∧ (l.length : Int) ≤ 6) := ⟨by omega, by omega⟩
  have hne : ((s.length : Int) != (l.length : Int) - 1) = false := by simp; omega
  have HN3 := Lib.hid h3
  have HA : Hid (Below w.heap.size w (w.alloc (.cells #[] 37))) := (Below.refl _ _).alloc (Nat.le_refl _) _
  have HE : Hid (MMem w.heap.size (w.alloc (.cells #[] 37)).heap.size (w.alloc (.cells #[] 37)) (.slice (some ⟨w.heap.size, 0, none⟩) 0 0) []) := (MMem.empty w).widen (Nat.le_refl _) (by simp)
  clear hs hl hlb hsb h3
  go_enter Try.func80, Try.ntmps80
  go_wp2_with fail
  refine (l1In_yes _ _ _ _ HL.out.1 HL.out.2).mono ?_
  rintro e w1 ⟨rfl, hd1⟩
  have HB1 : Hid (Below w.heap.size w w1) := HA.out.trans (hd1.below _)
  have HE1 := Lib.hid (HE.out.dr hd1)
  clear hd1 HE HA
  go_wp2
  go_loopw [7] (fun kv wr => ∃ k : Nat, k ≤ l.length ∧ kv = .int .i64 k ∧ Hid (MMem w.heap.size wr.heap.size wr (.slice (some ⟨w.heap.size, 0, none⟩) 0 0) []) ∧ Hid (Below w.heap.size w wr)) (fun kv _ => l.length - (intOf kv).toNat)
  case atStart => exact ⟨0, Nat.zero_le _, rfl, HE1.out.top, HB1⟩
  case round =>
    clear HE1 HB1 hne
    obtain ⟨k, hk, rfl, HE1, HB1⟩ := hrel
    by_cases hkl : k < l.length
    · have hki : (k : Int) < (l.length : Int) := by omega
      have c1 := (HLM.out.fresh HB1.out).cellAt hkl
      have b1 := HLB.out k hkl
      go_wp2_with fail
      refine (l1In_yes (iat l k) 1 60 _ (by omega) (by omega)).mono ?_
      rintro e w2 ⟨rfl, hd2⟩
      have HB2 : Hid (Below w.heap.size w w2) := HB1.out.trans (hd2.below _)
      have HE2 := Lib.hid ((HE1.out.dr hd2).top)
      clear hd2 HE1 HB1 c1
      by_cases hk0 : 0 < k
      · have hk0i : (0 : Int) < (k : Int) := by omega
        have hks : k - 1 < s.length := by have := HN3.out; omega
        have hksi : (k : Int) - 1 < (s.length : Int) := by omega
        have c2 := (HSM.out.fresh HB2.out).cellAt hks
        have b2 := HSB.out (k - 1) hks
        go_wp2_with fail
        refine (l1In_yes (iat s (k - 1)) 0 60 _ (by omega) (by omega)).mono ?_
        rintro e w3 ⟨rfl, hd3⟩
        have HB3 : Hid (Below w.heap.size w w3) := HB2.out.trans (hd3.below _)
        have HE3 := Lib.hid ((HE2.out.dr hd3).top)
        clear hd3 HE2 HB2 c2
        go_wp2
        go_roundw
        case rel => exact ⟨k + 1, by omega, by go_num, HE3, HB3⟩
        case measure => simp [intOf]; omega
      · have hkz : k = 0 := by omega
        subst hkz
        go_wp2
        go_roundw
        case rel => exact ⟨1, by omega, by go_num, HE2, HB2⟩
        case measure => simp [intOf]; omega
    · have hke : k = l.length := by omega
      clear hke
      have HE0 : Hid (∃ D : List (List Int), D.length = 0 ∧ MMem w.heap.size wr.heap.size wr (.slice (some ⟨w.heap.size, 0, none⟩) 0 0) D) := ⟨[], rfl, HE1.out⟩
      clear HE1
      go_wp2
      go_loopw [6, 8] (fun ov kv wr => ∃ k : Nat, k ≤ l.length ∧ kv = .int .i64 k ∧ Hid (∃ D : List (List Int), D.length = k ∧ MMem w.heap.size wr.heap.size wr ov D) ∧ Hid (Below w.heap.size w wr)) (fun _ kv _ => l.length - (intOf kv).toNat)
      case atStart => exact ⟨0, Nat.zero_le _, rfl, HE0, HB1⟩
      case round =>
        clear HE0 HB1 hk hkl
        obtain ⟨k, hk, rfl, HI1, HB⟩ := hrel
        by_cases hklt : k < l.length
        · obtain ⟨wo, rfl⟩ : ∃ wo : World, wo = wr := ⟨_, rfl⟩
          have HR0 : Hid (IMem wo.heap.size (wo.alloc (.cells #[] 3)).heap.size (wo.alloc (.cells #[] 3)) (.slice (some ⟨wo.heap.size, 0, none⟩) 0 0) []) := (IMem.empty wo).widen (Nat.le_refl _) (by simp)
          have HF0 : Hid (([] : List Int).length = 0) := rfl
          have HBW0 : Hid (Below wo.heap.size wo (wo.alloc (.cells #[] 3))) := (Below.refl _ _).alloc (Nat.le_refl _) _
          have hki : (k : Int) < (l.length : Int) := by omega
          go_wp2
          go_loopw [9, 10] (fun rv jv wr => ∃ (j : Nat) (f : List Int), j ≤ l.length ∧ jv = .int .i64 j ∧ Hid (f.length = j) ∧ Hid (IMem wo.heap.size wr.heap.size wr rv f) ∧ Hid (Below wo.heap.size wo wr)) (fun _ jv _ => l.length - (intOf jv).toNat)
          case atStart => exact ⟨0, [], Nat.zero_le _, rfl, HF0, HR0, HBW0⟩
          case round =>
            clear HR0 HBW0 HF0
            obtain ⟨j, f, hj, rfl, HFL, HR, HBW⟩ := hrel
            by_cases hjlt : j < l.length
            · have hji : (j : Int) < (l.length : Int) := by omega
              by_cases h1 : k < j
              · have h1i : (k : Int) < (j : Int) := by omega
                have h1n : decide (j < k) = false := by simp; omega
                have h1m : decide ((j : Int) < (k : Int)) = false := by simp; omega
                have h1e : ((k : Int) != (j : Int)) = true := by simpa using (show ¬ (k : Int) = j by omega)
                go_wp2
                go_loopw [11, 12] (fun nv mv wr2 => ∃ (m : Nat) (x : Int), m ≤ j ∧ nv = .int .i64 x ∧ mv = .int .i64 m ∧ 0 ≤ x ∧ x ≤ 4 * (m : Int) ∧ wr2 = wr) (fun _ mv _ => j - (intOf mv).toNat)
                case atStart => exact ⟨_, 0, by omega, rfl, rfl, by omega, by omega, by first | rfl | trivial⟩
                case round =>
                  obtain ⟨m, x, hmQ, rfl, rfl, hx0, hx1, rfl⟩ := hrel
                  by_cases hml : m < j
                  · have hmi : (m : Int) < (j : Int) := by omega
                    have hms : m < s.length := by have := HN3.out; omega
                    have hmsi : (m : Int) < (s.length : Int) := by omega
                    have c1 := (HSM.out.fresh (below_chain HB.out HBW.out)).cellAt hms
                    have b1 := HSB.out m hms
                    go_wp2
                    go_roundw
                    case rel => exact ⟨m + 1, _, by omega, rfl, by go_num, by omega, by omega, by first | rfl | trivial⟩
                    case measure => simp [intOf]; omega
                  · have hmq : ¬ (m : Int) < (j : Int) := by omega
                    have c1 := (HLM.out.fresh (below_chain HB.out HBW.out)).cellAt hklt
                    have c2 := (HLM.out.fresh (below_chain HB.out HBW.out)).cellAt hjlt
                    have b1 := HLB.out k hklt
                    have b2 := HLB.out j hjlt
                    go_wp2_with fail
                    go_quiet (fail)
                    clear c1 c2
                    have hsz := HBW.out.size
                    go_wp2_with (at_builtin; refine wp_app _ rfl _ _ rfl wo.heap.size _ _ _ rfl ((HR.out.drewN nq).alloc _) wr.heap.size 0 1 1 [x + iat l k + iat l j] rfl rfl one_cell (by have := HFL.out; omega) (by simp; omega) ?_; intro v2 w2 hI2 hB2 _; have HR2 := Lib.hid hI2; have HBW2 : Hid (Below wo.heap.size wo w2) := (((below_drewN HBW.out nq).alloc hsz _).trans hB2); clear hI2 hB2 HR HBW)
                    go_roundw
                    case rel => exact ⟨j + 1, _, by omega, by go_num, by show _ = _; rw [List.length_append, HFL.out]; rfl, HR2, HBW2⟩
                    case measure => simp [intOf]; omega
              · by_cases h2 : j < k
                · have h1i : (j : Int) < (k : Int) := by omega
                  have h1n : decide (k < j) = false := by simp; omega
                  have h1m : decide ((k : Int) < (j : Int)) = false := by simp; omega
                  have h1e : ((k : Int) != (j : Int)) = true := by simpa using (show ¬ (k : Int) = j by omega)
                  go_wp2
                  go_loopw [11, 12] (fun nv mv wr2 => ∃ (m : Nat) (x : Int), m ≤ k ∧ nv = .int .i64 x ∧ mv = .int .i64 m ∧ 0 ≤ x ∧ x ≤ 4 * (m : Int) ∧ wr2 = wr) (fun _ mv _ => k - (intOf mv).toNat)
                  case atStart => exact ⟨_, 0, by omega, rfl, rfl, by omega, by omega, by first | rfl | trivial⟩
                  case round =>
                    obtain ⟨m, x, hmQ, rfl, rfl, hx0, hx1, rfl⟩ := hrel
                    by_cases hml : m < k
                    · have hmi : (m : Int) < (k : Int) := by omega
                      have hms : m < s.length := by have := HN3.out; omega
                      have hmsi : (m : Int) < (s.length : Int) := by omega
                      have c1 := (HSM.out.fresh (below_chain HB.out HBW.out)).cellAt hms
                      have b1 := HSB.out m hms
                      go_wp2
                      go_roundw
                      case rel => exact ⟨m + 1, _, by omega, rfl, by go_num, by omega, by omega, by first | rfl | trivial⟩
                      case measure => simp [intOf]; omega
                    · have hmq : ¬ (m : Int) < (k : Int) := by omega
                      have c1 := (HLM.out.fresh (below_chain HB.out HBW.out)).cellAt hklt
                      have c2 := (HLM.out.fresh (below_chain HB.out HBW.out)).cellAt hjlt
                      have b1 := HLB.out k hklt
                      have b2 := HLB.out j hjlt
                      go_wp2_with fail
                      go_quiet (fail)
                      clear c1 c2
                      have hsz := HBW.out.size
                      go_wp2_with (at_builtin; refine wp_app _ rfl _ _ rfl wo.heap.size _ _ _ rfl ((HR.out.drewN nq).alloc _) wr.heap.size 0 1 1 [x + iat l k + iat l j] rfl rfl one_cell (by have := HFL.out; omega) (by simp; omega) ?_; intro v2 w2 hI2 hB2 _; have HR2 := Lib.hid hI2; have HBW2 : Hid (Below wo.heap.size wo w2) := (((below_drewN HBW.out nq).alloc hsz _).trans hB2); clear hI2 hB2 HR HBW)
                      go_roundw
                      case rel => exact ⟨j + 1, _, by omega, by go_num, by show _ = _; rw [List.length_append, HFL.out]; rfl, HR2, HBW2⟩
                      case measure => simp [intOf]; omega
                · have hkj : k = j := by omega
                  subst hkj
                  have h1n : decide (k < k) = false := by simp
                  have h1m : decide ((k : Int) < (k : Int)) = false := by simp
                  have h1e : ((k : Int) != (k : Int)) = false := by simp
                  go_wp2
                  go_loopw [11, 12] (fun nv mv wr2 => ∃ (m : Nat) (x : Int), m ≤ k ∧ nv = .int .i64 x ∧ mv = .int .i64 m ∧ 0 ≤ x ∧ x ≤ 4 * (m : Int) ∧ wr2 = wr) (fun _ mv _ => k - (intOf mv).toNat)
                  case atStart => exact ⟨_, 0, by omega, rfl, rfl, by omega, by omega, by first | rfl | trivial⟩
                  case round =>
                    obtain ⟨m, x, hmQ, rfl, rfl, hx0, hx1, rfl⟩ := hrel
                    by_cases hml : m < k
                    · have hmi : (m : Int) < (k : Int) := by omega
                      have hms : m < s.length := by have := HN3.out; omega
                      have hmsi : (m : Int) < (s.length : Int) := by omega
                      have c1 := (HSM.out.fresh (below_chain HB.out HBW.out)).cellAt hms
                      have b1 := HSB.out m hms
                      go_wp2
                      go_roundw
                      case rel => exact ⟨m + 1, _, by omega, rfl, by go_num, by omega, by omega, by first | rfl | trivial⟩
                      case measure => simp [intOf]; omega
                    · have hmq : ¬ (m : Int) < (k : Int) := by omega
                      have hsz := HBW.out.size
                      go_wp2_with (at_builtin; refine wp_app _ rfl _ _ rfl wo.heap.size _ _ _ rfl (HR.out.alloc _) wr.heap.size 0 1 1 [x] rfl rfl one_cell (by have := HFL.out; omega) (by simp; omega) ?_; intro v2 w2 hI2 hB2 _; have HR2 := Lib.hid hI2; have HBW2 : Hid (Below wo.heap.size wo w2) := ((HBW.out.alloc hsz _).trans hB2); clear hI2 hB2 HR HBW)
                      go_roundw
                      case rel => exact ⟨k + 1, _, by omega, by go_num, by show _ = _; rw [List.length_append, HFL.out]; rfl, HR2, HBW2⟩
                      case measure => simp [intOf]; omega
            · have hje : l.length = j := by omega
              have hjn : ¬ (j : Int) < (l.length : Int) := by omega
              have hs := HB.out.size
              have hs2 := HBW.out.size
              obtain ⟨rb, rc, rfl, -⟩ := id HR.out.open
              obtain ⟨D, hDl, hD⟩ := HI1.out
              have HM2 := Lib.hid (hD.fresh HBW.out)
              have HDL := Lib.hid hDl
              have hfl : f.length ≤ 6 := by have := HFL.out; omega
              clear hje hD HI1 hDl
              go_wp2_with (at_builtin; refine wp_appM _ rfl _ _ rfl w.heap.size wo.heap.size _ _ _ _ f rfl (HM2.out.alloc _) (HR.out.alloc _) hs wr.heap.size 1 rfl new_cell (by have := HDL.out; omega) (by simp; omega) ?_; intro v' w' hI' hB'; have HI5 : Hid (∃ D : List (List Int), D.length = k + 1 ∧ MMem w.heap.size w'.heap.size w' v' D) := ⟨_, (by rw [List.length_append, HDL.out]; rfl), hI'⟩; have HB5 := Lib.hid (((below_chain HB.out HBW.out).alloc (by omega) _).trans hB'); clear hI' hB' HR HBW HM2 HB)
              go_wp2
              go_roundw
              case rel => exact ⟨k + 1, by omega, by go_num, HI5, HB5⟩
              case measure => simp [intOf]; omega
        · obtain ⟨D, hDl, hD⟩ := HI1.out
          have cs := specSpaceOk_any _ _ _ D _ hD
          obtain ⟨gb, gc, _, _, rfl, -⟩ := id hD.open
          have HD := Lib.hid hD
          by_cases hS : Space D
          · rw [decP_yes hS] at cs
            have HCS := Lib.hid <| cs
            have HSP := Lib.hid hS
            clear cs hS hD hDl HI1
            go_wp2_with fail
            refine HCS.out.mono ?_
            rintro e w9 ⟨rfl, hd9⟩
            have HD9 := Lib.hid (HD.out.dr hd9).top
            have HB9 : Hid (Below w.heap.size w w9) := HB.out.trans (hd9.below _)
            clear hd9 HD HB HCS
            go_wp2
            go_ret2
            exact ⟨_, D, true, rfl, HD9.out, fun _ => HSP.out, HB9.out⟩
          · rw [decP_no hS] at cs
            have HCS := Lib.hid <| cs
            clear cs hS hD hDl HI1
            go_wp2_with fail
            refine HCS.out.mono ?_
            rintro e w9 ⟨rfl, hd9⟩
            have HB9 : Hid (Below w.heap.size w w9) := HB.out.trans (hd9.below _)
            clear hd9 HD HB HCS
            have hs9 := HB9.out.size
            go_wp2
            go_ret2
            exact ⟨_, [], false, rfl, (MMem.empty w9).widen hs9 (by simp), fun h => absurd h (by decide), HB9.out.alloc hs9 _⟩

end Go.Proofs.Ytclffncimaigfaa
