/- What l1In, spec.FarOk, spec.SpaceOk, impl.areFar, impl.isSpace, impl.hasPoint and impl.areValues return, each a contract. Conditions: as each theorem says. -/
import Derived.Test.YtclffncimaigfaaVal
namespace Go.Proofs.Ytclffncimaigfaa
set_option linter.unusedVariables false
set_option linter.unusedSimpArgs false
open Go.RowKit Go.Deep

/-- A statement as a Bool. -/
noncomputable def decP (p : Prop) : Bool := @decide p (Classical.propDecidable p)
theorem decP_yes {p : Prop} (h : p) : decP p = true := by simp [decP, h]
theorem decP_no {p : Prop} (h : ¬ p) : decP p = false := by simp [decP, h]
theorem decP_iff {p : Prop} : decP p = true ↔ p := by simp [decP]
theorem decP_not {p : Prop} : decP p = false ↔ ¬ p := by simp [decP]
theorem decP_congr {p q : Prop} (h : p ↔ q) : decP p = decP q := by
  by_cases hp : p
  · rw [decP_yes hp, decP_yes (h.1 hp)]
  · rw [decP_no hp, decP_no (fun hq => hp (h.2 hq))]

/-- What FarOk asks of one pair. -/
def Ent (d : List (List Int)) (i j : Nat) : Prop := 0 ≤ at2 d i j ∧ at2 d i j ≤ 60 ∧ at2 d i j = at2 d j i ∧ (at2 d i j = 0 ↔ i = j)
structure Far (d : List (List Int)) : Prop where
  one : 1 ≤ d.length
  six : d.length ≤ 6
  sq : ∀ i, i < d.length → (row d i).length = d.length
  ent : ∀ i j, i < d.length → j < d.length → Ent d i j
structure Space (d : List (List Int)) : Prop extends Far d where
  tri : ∀ i j k, i < d.length → j < d.length → k < d.length → at2 d i k ≤ at2 d i j + at2 d j k

/-- n lies in a range. -/
def inB (n lo hi : Int) : Bool := decide (lo ≤ n) && decide (n ≤ hi)
theorem inB_yes {n lo hi : Int} (h1 : lo ≤ n) (h2 : n ≤ hi) : inB n lo hi = true := by simp [inB, h1, h2]
theorem inB_no {n lo hi : Int} (h : ¬ (lo ≤ n ∧ n ≤ hi)) : inB n lo hi = false := by simpa [inB] using h
theorem inB_iff {n lo hi : Int} : inB n lo hi = true ↔ lo ≤ n ∧ n ≤ hi := by simp [inB]

set_option maxHeartbeats 400000 in
theorem l1In_any (n lo hi : Int) (w : World) :
    Calls Try.prog 48 #[.int .i64 n, .int .i64 lo, .int .i64 hi] w (Quiet (.bool (inB n lo hi)) w) := by
  by_cases h1 : lo ≤ n
  · by_cases h2 : n ≤ hi
    · have HN := Lib.hid (inB_yes h1 h2)
      go_enter Try.func48, Try.ntmps48
      go_wp2
      go_ret
      exact ⟨by rw [HN.out]; rfl, Dr.refl _⟩
    · have HN := Lib.hid (inB_no (n := n) (lo := lo) (hi := hi) (fun h => h2 h.2))
      go_enter Try.func48, Try.ntmps48
      go_wp2
      go_ret
      exact ⟨by rw [HN.out]; rfl, Dr.refl _⟩
  · have HN := Lib.hid (inB_no (n := n) (lo := lo) (hi := hi) (fun h => h1 h.1))
    go_enter Try.func48, Try.ntmps48
    go_wp2
    go_ret
    exact ⟨by rw [HN.out]; rfl, Dr.refl _⟩

theorem l1In_yes (n lo hi : Int) (w : World) (h1 : lo ≤ n) (h2 : n ≤ hi) :
    Calls Try.prog 48 #[.int .i64 n, .int .i64 lo, .int .i64 hi] w (Quiet (.bool true) w) := by
  have := l1In_any n lo hi w
  rwa [inB_yes h1 h2] at this
theorem l1In_no (n lo hi : Int) (w : World) (h : ¬ (lo ≤ n ∧ n ≤ hi)) :
    Calls Try.prog 48 #[.int .i64 n, .int .i64 lo, .int .i64 hi] w (Quiet (.bool false) w) := by
  have := l1In_any n lo hi w
  rwa [inB_no h] at this

set_option maxHeartbeats 1000000 in
theorem specFarOk_any (lo hi : Nat) (v : Value) (d : List (List Int)) (w : World) (h : MMem lo hi w v d) :
    Calls Try.prog 57 #[v] w (Quiet (.bool (decP (Far d))) w) := by
  obtain ⟨b, cap, BB, CC, rfl, _, _, _, hm1, hm2, hc, hr, hcc, _⟩ := h.open
  rw [maxLen_val] at hm2
  have HC := Lib.hid hc
  have HCC := Lib.hid hcc
  clear hc hcc hr h
  go_enter Try.func57, Try.ntmps57
  go_wp2
  go_loopw [3] (fun i wr => ∃ k : Nat, k ≤ d.length ∧ i = .int .i64 k ∧ Hid (Dr w wr) ∧ Hid (∀ j, j < k → (row d j).length = d.length)) (fun i _ => d.length - (intOf i).toNat)
  case atStart => exact ⟨0, Nat.zero_le _, rfl, Dr.refl _, fun j hj => absurd hj (by omega)⟩
  case round =>
    obtain ⟨k, hk, rfl, HW, HJ⟩ := hrel
    by_cases hlt : k < d.length
    · have c1 := (HW.out.cell _).trans (HC.out k hlt)
      by_cases he : (row d k).length = d.length
      · have heb : (((row d k).length : Int) != (d.length : Int)) = false := by rw [he]; simp
        have HJ2 : Hid (∀ j, j < k + 1 → (row d j).length = d.length) := by
          intro j hj
          by_cases e : j < k
          · exact HJ.out j e
          · have : j = k := by omega
            subst this; exact he
        clear he
        go_wp2
        go_roundw
        case rel => exact ⟨k + 1, by omega, by go_num, HW, HJ2⟩
        case measure => simp [intOf]; omega
      · have heb : (((row d k).length : Int) != (d.length : Int)) = true := by simpa using fun e => he (by omega)
        have HN := Lib.hid (decP_no (p := Far d) fun hf => he (hf.sq k hlt))
        clear he
        go_wp2
        go_ret
        exact ⟨by rw [HN.out]; rfl, HW.out⟩
    · have hke : k = d.length := by omega
      have HSQ : Hid (∀ j, j < d.length → (row d j).length = d.length) := fun j hj => HJ.out j (by omega)
      clear hke HJ
      by_cases h6 : 1 ≤ d.length ∧ d.length ≤ 6
      · have HL : Hid (Calls Try.prog 48 #[.int .i64 d.length, .int .i64 1, .int .i64 6] wr (Quiet (.bool true) wr)) := l1In_yes _ _ _ _ (by omega) (by omega)
        go_wp2_with fail
        refine HL.out.mono ?_
        rintro e w1 ⟨rfl, hd1⟩
        have HW1 : Hid (Dr w w1) := HW.out.trans hd1
        clear HW hd1 HL
        go_wp2
        go_loopw [4] (fun i wr => ∃ k : Nat, k ≤ d.length ∧ i = .int .i64 k ∧ Hid (Dr w wr) ∧ Hid (∀ j m, j < k → m < d.length → Ent d j m)) (fun i _ => d.length - (intOf i).toNat)
        case atStart => exact ⟨0, Nat.zero_le _, rfl, HW1, fun j m hj => absurd hj (by omega)⟩
        case round =>
          clear HW1
          obtain ⟨i, hi, rfl, HW, HJ⟩ := hrel
          by_cases hilt : i < d.length
          · go_wp2
            go_loopw [5] (fun jv wr => ∃ j : Nat, j ≤ d.length ∧ jv = .int .i64 j ∧ Hid (Dr w wr) ∧ Hid (∀ m, m < j → Ent d i m)) (fun jv _ => d.length - (intOf jv).toNat)
            case atStart => exact ⟨0, Nat.zero_le _, rfl, HW, fun m hm => absurd hm (by omega)⟩
            case round =>
              clear HW
              obtain ⟨j, hj, rfl, HW, HM⟩ := hrel
              by_cases hjlt : j < d.length
              · have c1 := (HW.out.cell _).trans (HC.out i hilt)
                have c2 := (HW.out.cell _).trans (HC.out j hjlt)
                have li : (j : Int) < ((row d i).length : Int) := by rw [HSQ.out i hilt]; omega
                have lj : (i : Int) < ((row d j).length : Int) := by rw [HSQ.out j hjlt]; omega
                have c3 := (HW.out.cell _).trans (HCC.out i hilt j (by omega))
                have c4 := (HW.out.cell _).trans (HCC.out j hjlt i (by omega))
                by_cases e1 : 0 ≤ at2 d i j ∧ at2 d i j ≤ 60
                · have HL : Hid (∀ m, Calls Try.prog 48 #[.int .i64 (at2 d i j), .int .i64 0, .int .i64 60] (wr.drewN m) (Quiet (.bool true) (wr.drewN m))) := fun m => l1In_yes _ _ _ _ (by omega) (by omega)
                  by_cases e2 : at2 d i j = at2 d j i
                  · have hb2 : (at2 d i j != at2 d j i) = false := by rw [e2]; simp
                    by_cases e3 : (at2 d i j = 0 ↔ i = j)
                    · have hb3 : (((i : Int) == (j : Int)) == (at2 d i j == 0)) = true := by
                        by_cases hij : i = j
                        · subst hij; simp [e3.2 rfl]
                        · have h0 : at2 d i j ≠ 0 := fun h => hij (e3.1 h)
                          have : ((i : Int) == (j : Int)) = false := by simpa using fun h => hij (by omega)
                          simp [this, h0]
                      have HM2 : Hid (∀ m, m < j + 1 → Ent d i m) := by
                        intro m hm
                        by_cases e : m < j
                        · exact HM.out m e
                        · have : m = j := by omega
                          subst this; exact ⟨e1.1, e1.2, e2, e3⟩
                      clear e1 e2 e3
                      go_wp2_with fail
                      go_quiet ((go_at_call 48; exact quiet_in (HL.out _)))
                      go_wp2
                      go_roundw
                      case rel => exact ⟨j + 1, by omega, by go_num, HW.out.more _, HM2⟩
                      case measure => simp [intOf]; omega
                    · have hb3 : (((i : Int) == (j : Int)) == (at2 d i j == 0)) = false := by
                        by_cases hij : i = j
                        · subst hij
                          have : at2 d i i ≠ 0 := fun h => e3 ⟨fun _ => rfl, fun _ => h⟩
                          simp [this]
                        · have h0 : at2 d i j = 0 := by
                            by_cases h0 : at2 d i j = 0
                            · exact h0
                            · exact absurd ⟨fun h => absurd h h0, fun h => absurd h hij⟩ e3
                          have : ((i : Int) == (j : Int)) = false := by simpa using fun h => hij (by omega)
                          simp [this, h0]
                      have HN := Lib.hid (decP_no (p := Far d) fun hf => e3 (hf.ent i j hilt hjlt).2.2.2)
                      clear e1 e2 e3
                      go_wp2_with fail
                      go_quiet ((go_at_call 48; exact quiet_in (HL.out _)))
                      go_wp2
                      go_ret
                      exact ⟨by rw [HN.out]; rfl, HW.out.more _⟩
                  · have hb2 : (at2 d i j != at2 d j i) = true := by simpa using e2
                    have HN := Lib.hid (decP_no (p := Far d) fun hf => e2 (hf.ent i j hilt hjlt).2.2.1)
                    clear e1 e2
                    go_wp2_with fail
                    go_quiet ((go_at_call 48; exact quiet_in (HL.out _)))
                    go_wp2
                    go_ret
                    exact ⟨by rw [HN.out]; rfl, HW.out.more _⟩
                · have HL : Hid (∀ m, Calls Try.prog 48 #[.int .i64 (at2 d i j), .int .i64 0, .int .i64 60] (wr.drewN m) (Quiet (.bool false) (wr.drewN m))) := fun m => l1In_no _ _ _ _ e1
                  have HN := Lib.hid (decP_no (p := Far d) fun hf => e1 ⟨(hf.ent i j hilt hjlt).1, (hf.ent i j hilt hjlt).2.1⟩)
                  clear e1
                  go_wp2_with fail
                  go_quiet ((go_at_call 48; exact quiet_in (HL.out _)))
                  go_wp2
                  go_ret
                  exact ⟨by rw [HN.out]; rfl, HW.out.more _⟩
              · have HJ2 : Hid (∀ j m, j < i + 1 → m < d.length → Ent d j m) := by
                  intro p m hp hm
                  by_cases e : p < i
                  · exact HJ.out p m e hm
                  · have : p = i := by omega
                    subst this; exact HM.out m (by omega)
                go_wp2
                go_roundw
                case rel => exact ⟨i + 1, by omega, by go_num, HW, HJ2⟩
                case measure => simp [intOf]; omega
          · have HY := Lib.hid (decP_yes (p := Far d) ⟨by omega, by omega, HSQ.out, fun p q hp hq => HJ.out p q (by omega) hq⟩)
            go_wp2
            go_ret
            exact ⟨by rw [HY.out]; rfl, HW.out⟩
      · have HL : Hid (Calls Try.prog 48 #[.int .i64 d.length, .int .i64 1, .int .i64 6] wr (Quiet (.bool false) wr)) := l1In_no _ _ _ _ (by omega)
        have HN := Lib.hid (decP_no (p := Far d) fun hf => h6 ⟨hf.one, hf.six⟩)
        clear h6
        go_wp2_with fail
        refine HL.out.mono ?_
        rintro e w1 ⟨rfl, hd1⟩
        have HW1 : Hid (Dr w w1) := HW.out.trans hd1
        clear HW hd1 HL
        go_wp2
        go_ret
        exact ⟨by rw [HN.out]; rfl, HW1.out⟩

end Go.Proofs.Ytclffncimaigfaa
