/- What impl.areFar, impl.isSpace, spec.SpaceOk, impl.hasPoint and impl.areValues return, each a contract. Conditions: as each theorem says. -/
import Derived.Test.YtclffncimaigfaaSpace
import Derived.IntWalk
namespace Go.Proofs.Ytclffncimaigfaa
set_option linter.unusedVariables false
set_option linter.unusedSimpArgs false
open Go.RowKit Go.Deep

set_option maxHeartbeats 1000000 in
theorem areFar_any (lo hi : Nat) (v : Value) (d : List (List Int)) (w : World) (h : MMem lo hi w v d) :
    Calls Try.prog 75 #[v] w (Quiet (.bool (decP (Far d))) w) := by
  obtain ⟨b, cap, BB, CC, rfl, _, _, _, hm1, hm2, hc, hr, hcc, _⟩ := h.open
  rw [maxLen_val] at hm2
  have HC := Lib.hid hc
  have HCC := Lib.hid hcc
  clear hc hcc hr h
  by_cases h6 : 1 ≤ d.length ∧ d.length ≤ 6
  · obtain ⟨h1, h6⟩ := h6
    go_enter Try.func75, Try.ntmps75
    go_wp2
    go_loopw [19] (fun i wr => ∃ k : Nat, k ≤ d.length ∧ i = .int .i64 k ∧ Hid (Dr w wr) ∧ Hid (∀ j, j < k → (row d j).length = d.length)) (fun i _ => d.length - (intOf i).toNat)
    case atStart => exact ⟨0, Nat.zero_le _, rfl, Dr.refl _, fun j hj => absurd hj (by omega)⟩
    case round =>
      obtain ⟨k, hk, rfl, HW, HJ⟩ := hrel
      by_cases hlt : k < d.length
      · have c1 := (HW.out.cell _).trans (HC.out k hlt)
        by_cases he : (row d k).length = d.length
        · have heb : (((row d k).length : Int) != (d.length : Int)) = false := by rw [he]; simp
          have HJ2 : Hid (∀ j, j < k + 1 → (row d j).length = d.length) := by
            intro j hj
            by_cases e : j < k
            · exact HJ.out j e
            · have : j = k := by omega
              subst this; exact he
          clear he
          go_wp2
          go_roundw
          case rel => exact ⟨k + 1, by omega, by go_num, HW, HJ2⟩
          case measure => simp [intOf]; omega
        · have heb : (((row d k).length : Int) != (d.length : Int)) = true := by simpa using fun e => he (by omega)
          have HN := Lib.hid (decP_no (p := Far d) fun hf => he (hf.sq k hlt))
          clear he
          go_wp2
          go_ret
          exact ⟨by rw [HN.out]; rfl, HW.out⟩
      · have hke : k = d.length := by omega
        have HSQ : Hid (∀ j, j < d.length → (row d j).length = d.length) := fun j hj => HJ.out j (by omega)
        clear hke HJ
        go_wp2
        go_loopw [31] (fun i wr => ∃ k : Nat, k ≤ d.length ∧ i = .int .i64 k ∧ Hid (Dr w wr) ∧ Hid (∀ j m, j < k → m < d.length → Ent d j m)) (fun i _ => d.length - (intOf i).toNat)
        case atStart => exact ⟨0, Nat.zero_le _, rfl, HW, fun j m hj => absurd hj (by omega)⟩
        case round =>
          clear HW
          obtain ⟨i, hi, rfl, HW, HJ⟩ := hrel
          by_cases hilt : i < d.length
          · have c1 := (HW.out.cell _).trans (HC.out i hilt)
            have hli : (row d i).length = d.length := HSQ.out i hilt
            rw [hli] at c1
            have HLI := Lib.hid hli
            clear hli
            go_wp2
            clear c1
            go_loopw [38] (fun jv wr => ∃ j : Nat, j ≤ d.length ∧ jv = .int .i64 j ∧ Hid (Dr w wr) ∧ Hid (∀ m, m < j → Ent d i m)) (fun jv _ => d.length - (intOf jv).toNat)
            case atStart => exact ⟨0, Nat.zero_le _, rfl, HW, fun m hm => absurd hm (by omega)⟩
            case round =>
              clear HW
              obtain ⟨j, hj, rfl, HW, HM⟩ := hrel
              by_cases hjlt : j < d.length
              · have c2 := (HW.out.cell _).trans (HC.out j hjlt)
                have lj : (i : Int) < ((row d j).length : Int) := by rw [HSQ.out j hjlt]; omega
                have c3 := (HW.out.cell _).trans (HCC.out i hilt j (by rw [HLI.out]; exact hjlt))
                have c4 := (HW.out.cell _).trans (HCC.out j hjlt i (by omega))
                by_cases e2 : at2 d i j = at2 d j i
                · have hb2 : (at2 d i j != at2 d j i) = false := by rw [e2]; simp
                  by_cases e0 : at2 d i j < 0
                  · have HN := Lib.hid (decP_no (p := Far d) fun hf => by have := (hf.ent i j hilt hjlt).1; omega)
                    clear e2
                    go_wp2
                    go_ret
                    exact ⟨by rw [HN.out]; rfl, HW.out⟩
                  · by_cases e1 : 60 < at2 d i j
                    · have HN := Lib.hid (decP_no (p := Far d) fun hf => by have := (hf.ent i j hilt hjlt).2.1; omega)
                      clear e2
                      go_wp2
                      go_ret
                      exact ⟨by rw [HN.out]; rfl, HW.out⟩
                    · by_cases e3 : (at2 d i j = 0 ↔ i = j)
                      · have hb3 : ((at2 d i j == 0) == ((i : Int) == (j : Int))) = true := by
                          by_cases hij : i = j
                          · subst hij; simp [e3.2 rfl]
                          · have h0 : at2 d i j ≠ 0 := fun h => hij (e3.1 h)
                            have : ((i : Int) == (j : Int)) = false := by simpa using fun h => hij (by omega)
                            simp [this, h0]
                        have HM2 : Hid (∀ m, m < j + 1 → Ent d i m) := by
                          intro m hm
                          by_cases e : m < j
                          · exact HM.out m e
                          · have : m = j := by omega
                            subst this; exact ⟨by omega, by omega, e2, e3⟩
                        clear e2 e3
                        go_wp2
                        go_roundw
                        case rel => exact ⟨j + 1, by omega, by go_num, HW, HM2⟩
                        case measure => simp [intOf]; omega
                      · have hb3 : ((at2 d i j == 0) == ((i : Int) == (j : Int))) = false := by
                          by_cases hij : i = j
                          · subst hij
                            have : at2 d i i ≠ 0 := fun h => e3 ⟨fun _ => rfl, fun _ => h⟩
                            simp [this]
                          · have h0 : at2 d i j = 0 := by
                              by_cases h0 : at2 d i j = 0
                              · exact h0
                              · exact absurd ⟨fun h => absurd h h0, fun h => absurd h hij⟩ e3
                            have : ((i : Int) == (j : Int)) = false := by simpa using fun h => hij (by omega)
                            simp [this, h0]
                        have HN := Lib.hid (decP_no (p := Far d) fun hf => e3 (hf.ent i j hilt hjlt).2.2.2)
                        clear e2 e3
                        go_wp2
                        go_ret
                        exact ⟨by rw [HN.out]; rfl, HW.out⟩
                · have hb2 : (at2 d i j != at2 d j i) = true := by simpa using e2
                  have HN := Lib.hid (decP_no (p := Far d) fun hf => e2 (hf.ent i j hilt hjlt).2.2.1)
                  clear e2
                  go_wp2
                  go_ret
                  exact ⟨by rw [HN.out]; rfl, HW.out⟩
              · have HJ2 : Hid (∀ j m, j < i + 1 → m < d.length → Ent d j m) := by
                  intro p m hp hm
                  by_cases e : p < i
                  · exact HJ.out p m e hm
                  · have : p = i := by omega
                    subst this; exact HM.out m (by omega)
                go_wp2
                go_roundw
                case rel => exact ⟨i + 1, by omega, by go_num, HW, HJ2⟩
                case measure => simp [intOf]; omega
          · have HY := Lib.hid (decP_yes (p := Far d) ⟨by omega, by omega, HSQ.out, fun p q hp hq => HJ.out p q (by omega) hq⟩)
            go_wp2
            go_ret
            exact ⟨by rw [HY.out]; rfl, HW.out⟩
  · have HN := Lib.hid (decP_no (p := Far d) fun hf => h6 ⟨hf.one, hf.six⟩)
    by_cases h1 : 1 ≤ d.length
    · have h7 : 6 < d.length := by omega
      clear h6
      go_enter Try.func75, Try.ntmps75
      go_wp2
      go_ret
      exact ⟨by rw [HN.out]; rfl, Dr.refl _⟩
    · have h7 : (d.length : Int) < 1 := by omega
      clear h6
      go_enter Try.func75, Try.ntmps75
      go_wp2
      go_ret
      exact ⟨by rw [HN.out]; rfl, Dr.refl _⟩

end Go.Proofs.Ytclffncimaigfaa
