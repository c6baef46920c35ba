/- What slices.Contains, isOrder, OrderOk, ordered, Ordered, ordersOf and l7Orders return. Conditions: as each theorem says. -/
import Derived.Test.YtknnelenmedonaaOrds
namespace Go.Proofs.Ytknnelenmedonaa
set_option linter.unusedVariables false
set_option linter.unusedSimpArgs false
open Go.RowKit Go.Deep

def IdxP (zs : List Int) (x : Int) (w : World) (e : Ending) (w' : World) : Prop := ∃ r : Int, e = .returned (.int .i64 r) ∧ (0 ≤ r ↔ x ∈ zs) ∧ Dr w w'
set_option maxHeartbeats 400000 in
theorem slicesIndex_any (v : Value) (zs : List Int) (x : Int) (w : World) (h : IIn w v zs) : Calls Try.prog 79 #[v, .int .i64 x] w (IdxP zs x w) := by
  obtain ⟨ao, cap, rfl, hm, hc⟩ := h
  rw [maxLen_val] at hm
  have HC := Lib.hid hc
  clear hc
  go_enter Try.func79, Try.ntmps79
  go_wp2
  go_loopw [8] (fun i wr => ∃ k : Nat, k ≤ zs.length ∧ i = .int .i64 k ∧ Hid (Dr w wr) ∧ Hid (∀ j, j < k → iat zs j ≠ x)) (fun i _ => zs.length - (intOf i).toNat)
  case atStart => exact ⟨0, Nat.zero_le _, rfl, Dr.refl _, fun j hj => absurd hj (by omega)⟩
  case round =>
    obtain ⟨k, hk, rfl, HW, HJ⟩ := hrel
    by_cases hlt : k < zs.length
    · obtain ⟨b, off, rfl, _, hcell0⟩ := HC.out k hlt
      have hcell := (HW.out.cell _).trans hcell0
      clear hcell0
      by_cases he : x = iat zs k
      · have heb : (x == iat zs k) = true := by simpa using he
        have HY : Hid (x ∈ zs) := mem_iat.2 ⟨k, hlt, he.symm⟩
        clear he
        go_wp2
        go_ret
        exact ⟨k, rfl, ⟨fun _ => HY.out, fun _ => by omega⟩, HW.out⟩
      · have heb : (x == iat zs k) = false := by simpa using he
        have HJ2 : Hid (∀ j, j < k + 1 → iat zs j ≠ x) := by
          intro j hj
          by_cases e : j < k
          · exact HJ.out j e
          · have : j = k := by omega
            subst this; exact fun h => he h.symm
        clear he
        go_wp2
        go_roundw
        case rel => exact ⟨k + 1, by omega, by go_num, HW, HJ2⟩
        case measure => simp [intOf]; omega
    · have hke : k = zs.length := by omega
      have HN : Hid (x ∉ zs) := fun h => by
        obtain ⟨i, hi, e⟩ := mem_iat.1 h
        exact HJ.out i (by omega) e
      go_wp2
      go_ret
      exact ⟨-1, rfl, ⟨fun h => absurd h (by decide), fun h => absurd h HN.out⟩, HW.out⟩

set_option maxHeartbeats 400000 in
theorem slicesContains_any (v : Value) (zs : List Int) (x : Int) (w : World) (h : IIn w v zs) : Calls Try.prog 70 #[v, .int .i64 x] w (Quiet (.bool (decP (x ∈ zs))) w) := by
  have hc := slicesIndex_any v zs x w h
  obtain ⟨ao, cap, rfl, _⟩ := h
  have HC := Lib.hid <| hc
  clear hc
  by_cases hx : x ∈ zs
  · have HY := Lib.hid <| decP_yes hx
    have HX := Lib.hid hx
    clear hx
    go_enter Try.func70, Try.ntmps70
    go_wp2_with fail
    refine HC.out.mono ?_
    rintro e w1 ⟨r, rfl, hr, hd⟩
    have hr1 : 0 ≤ r := hr.2 HX.out
    have HD := Lib.hid hd
    clear hr hd
    go_wp2
    go_ret
    exact ⟨by rw [HY.out]; rfl, HD.out⟩
  · have HY := Lib.hid <| decP_no hx
    have HX := Lib.hid hx
    clear hx
    go_enter Try.func70, Try.ntmps70
    go_wp2_with fail
    refine HC.out.mono ?_
    rintro e w1 ⟨r, rfl, hr, hd⟩
    have hr1 : r < 0 := by
      by_cases h : 0 ≤ r
      · exact absurd (hr.1 h) HX.out
      · omega
    have hr2 : decide (0 ≤ r) = false := by simpa using hr1
    have HD := Lib.hid hd
    clear hr hd
    go_wp2
    go_ret
    exact ⟨by rw [HY.out]; rfl, HD.out⟩

theorem IMem.take {lo hi b cap m : Nat} {w : World} {zs : List Int} (h : IMem lo hi w (.slice (some ⟨b, 0, none⟩) m cap) zs) {k : Nat} (hk : k ≤ zs.length) : IIn w (.slice (some ⟨b, 0, none⟩) k cap) (zs.take k) := by
  obtain ⟨b', cap', hv, k1, k2, k3, h3, h4, hc, hf⟩ := h.open
  injection hv with e1 e2 e3
  injection e1 with e1
  injection e1 with e1
  subst e1 e2 e3
  have hl : (zs.take k).length = k := by rw [List.length_take]; omega
  refine ⟨_, cap, by rw [hl], by rw [hl]; omega, fun i hi => ⟨b, 0, rfl, k3, ?_⟩⟩
  rw [hl] at hi
  rw [Nat.zero_add, hc i (by omega)]
  simp [iat, hi]
theorem mem_take {zs : List Int} {x : Int} {k : Nat} (hk : k ≤ zs.length) : x ∈ zs.take k ↔ ∃ i, i < k ∧ iat zs i = x := by
  rw [mem_iat]
  have hl : (zs.take k).length = k := by rw [List.length_take]; omega
  constructor
  · rintro ⟨i, hi, e⟩
    rw [hl] at hi
    exact ⟨i, hi, by simpa [iat, hi] using e⟩
  · rintro ⟨i, hi, e⟩
    exact ⟨i, by omega, by simpa [iat, hi] using e⟩

/-- What the loops have looked at. -/
def OrdTo (o : List Int) (k : Nat) : Prop := ∀ i, i < k → (0 ≤ iat o i ∧ iat o i < o.length) ∧ ∀ j, j < i → iat o j ≠ iat o i
theorem OrdTo.step {o : List Int} {k : Nat} (h : OrdTo o k) (h1 : ¬ iat o k < 0) (h2 : ¬ (o.length : Int) ≤ iat o k) (h3 : ∀ j, j < k → iat o j ≠ iat o k) : OrdTo o (k + 1) := by
  intro i hi
  by_cases e : i < k
  · exact h i e
  · have : i = k := by omega
    subst this
    exact ⟨by omega, h3⟩
theorem ord_of {o : List Int} (h : OrdTo o o.length) : OrdP o ↔ 1 ≤ o.length ∧ o.length ≤ 6 :=
  ⟨fun h => ⟨h.one, h.six⟩, fun hl => ⟨hl.1, hl.2, fun i hi => (h i hi).1, fun i j hj hi => (h i hi).2 j hj⟩⟩

set_option maxHeartbeats 1000000 in
theorem isOrder_any (lo hi : Nat) (v : Value) (o : List Int) (w : World) (ho : IMem lo hi w v o) : Calls Try.prog 51 #[v] w (Quiet (.bool (decP (OrdP o))) w) := by
  obtain ⟨b, cap, rfl, k1, k2, k3, hm1, hm2, hc, _⟩ := id ho.open
  rw [maxLen_val] at hm2
  have HM := Lib.hid ho
  have HC := Lib.hid hc
  clear hc ho
  go_enter Try.func51, Try.ntmps51
  go_wp2
  go_loopw [7] (fun i wr => ∃ k : Nat, k ≤ o.length ∧ i = .int .i64 k ∧ Hid (Dr w wr) ∧ Hid (OrdTo o k)) (fun i _ => o.length - (intOf i).toNat)
  case atStart => exact ⟨0, Nat.zero_le _, rfl, Dr.refl _, fun j hj => absurd hj (by omega)⟩
  case round =>
    obtain ⟨k, hk, rfl, HW, HJ⟩ := hrel
    by_cases hlt : k < o.length
    · have hcell := (HW.out.cell _).trans (HC.out k hlt)
      by_cases h1 : iat o k < 0
      · have HN := Lib.hid <| decP_no (p := OrdP o) fun h => by have := h.bd k hlt; omega
        go_wp2
        go_ret
        exact ⟨by rw [HN.out]; rfl, HW.out⟩
      · by_cases h2 : (o.length : Int) ≤ iat o k
        · have HN := Lib.hid <| decP_no (p := OrdP o) fun h => by have := h.bd k hlt; omega
          go_wp2
          go_ret
          exact ⟨by rw [HN.out]; rfl, HW.out⟩
        · have h2' : iat o k < (o.length : Int) := by omega
          have cs := slicesContains_any _ _ (iat o k) wr ((HM.out.dr HW.out).take (show k ≤ o.length by omega))
          by_cases h3 : iat o k ∈ o.take k
          · rw [decP_yes h3] at cs
            have HCS := Lib.hid <| cs
            have HN := Lib.hid <| decP_no (p := OrdP o) fun h => by
              obtain ⟨i, hi, e⟩ := (mem_take (by omega)).1 h3
              exact h.ne k i hi hlt e
            clear cs h3
            go_wp2_with fail
            refine (HCS.out).mono ?_
            rintro e w1 ⟨rfl, hd_w1⟩
            have HW1 : Hid (Dr _ w1) := HW.out.trans hd_w1
            clear hd_w1 HW
            go_wp2
            go_ret
            exact ⟨by rw [HN.out]; rfl, HW1.out⟩
          · rw [decP_no h3] at cs
            have HCS := Lib.hid <| cs
            have HJ2 : Hid (OrdTo o (k + 1)) := HJ.out.step h1 h2 fun j hj e => h3 ((mem_take (by omega)).2 ⟨j, hj, e⟩)
            clear cs h3
            go_wp2_with fail
            refine (HCS.out).mono ?_
            rintro e w1 ⟨rfl, hd_w1⟩
            have HW1 : Hid (Dr _ w1) := HW.out.trans hd_w1
            clear hd_w1 HW
            go_wp2
            go_roundw
            case rel => exact ⟨k + 1, by omega, by go_num, HW1, HJ2⟩
            case measure => simp [intOf]; omega
    · have hke : k = o.length := by omega
      subst hke
      by_cases h6 : 1 ≤ o.length ∧ o.length ≤ 6
      · have HY := Lib.hid <| decP_yes ((ord_of HJ.out).2 h6)
        obtain ⟨ha, hb⟩ := h6
        have hb' : decide ((o.length : Int) ≤ 6) = true := by simp; omega
        go_wp2
        go_ret
        exact ⟨by rw [HY.out]; rfl, HW.out⟩
      · have HN := Lib.hid <| decP_no (p := OrdP o) fun h => h6 ((ord_of HJ.out).1 h)
        by_cases ha : 1 ≤ o.length
        · have hb : 6 < o.length := by omega
          have hb' : decide ((o.length : Int) ≤ 6) = false := by simp; omega
          go_wp2
          go_ret
          exact ⟨by rw [HN.out]; rfl, HW.out⟩
        · have hb : decide (1 ≤ (o.length : Int)) = false := by simp; omega
          go_wp2
          go_ret
          exact ⟨by rw [HN.out]; rfl, HW.out⟩

set_option maxHeartbeats 400000 in
theorem implOrderOk_any (lo hi : Nat) (v : Value) (o : List Int) (w : World) (ho : IMem lo hi w v o) : Calls Try.prog 17 #[v] w (Quiet (.bool (decP (OrdP o))) w) := by
  have HC := Lib.hid <| isOrder_any lo hi v o w ho
  obtain ⟨b, cap, rfl, _⟩ := ho.open
  clear ho
  go_enter Try.func17, Try.ntmps17
  go_wp2_with fail
  refine (HC.out).mono ?_
  rintro e w1 ⟨rfl, hd_w1⟩
  have HW1 : Hid (Dr _ w1) := hd_w1
  clear hd_w1
  go_wp2
  go_ret
  exact ⟨rfl, HW1.out⟩

set_option maxHeartbeats 1000000 in
theorem specOrderOk_any (lo hi : Nat) (v : Value) (o : List Int) (w : World) (ho : IMem lo hi w v o) : Calls Try.prog 15 #[v] w (Quiet (.bool (decP (OrdP o))) w) := by
  obtain ⟨b, cap, rfl, k1, k2, k3, hm1, hm2, hc, _⟩ := id ho.open
  rw [maxLen_val] at hm2
  have HC := Lib.hid hc
  clear hc ho
  go_enter Try.func15, Try.ntmps15
  go_wp2
  go_loopw [3] (fun i wr => ∃ k : Nat, k ≤ o.length ∧ i = .int .i64 k ∧ Hid (Dr w wr) ∧ Hid (OrdTo o k)) (fun i _ => o.length - (intOf i).toNat)
  case atStart => exact ⟨0, Nat.zero_le _, rfl, Dr.refl _, fun j hj => absurd hj (by omega)⟩
  case round =>
    obtain ⟨k, hk, rfl, HW, HJ⟩ := hrel
    by_cases hlt : k < o.length
    · have hcell := (HW.out.cell _).trans (HC.out k hlt)
      by_cases h1 : 0 ≤ iat o k ∧ iat o k ≤ (o.length : Int) - 1
      · have HB := Lib.hid <| h1
        clear h1
        go_wp2_with fail
        refine (l1In_yes _ _ _ _ HB.out.1 HB.out.2).mono ?_
        rintro e w1 ⟨rfl, hd_w1⟩
        have HW1 : Hid (Dr _ w1) := HW.out.trans hd_w1
        clear hd_w1 HW
        clear hcell
        have HL0 : Hid (∀ i, i < 0 → iat o i ≠ iat o k) := fun i hi => absurd hi (by omega)
        go_wp2
        go_loopw [4] (fun jv wr => ∃ j : Nat, j ≤ k ∧ jv = .int .i64 j ∧ Hid (Dr w wr) ∧ Hid (∀ i, i < j → iat o i ≠ iat o k)) (fun jv _ => k - (intOf jv).toNat)
        case atStart => exact ⟨0, Nat.zero_le _, rfl, HW1, HL0⟩
        case round =>
          clear HW1 HL0
          obtain ⟨j, hj, rfl, HW1, HL⟩ := hrel
          by_cases hjlt : j < k
          · have c1 := (HW1.out.cell _).trans (HC.out k hlt)
            have c2 := (HW1.out.cell _).trans (HC.out j (by omega))
            have l1 : (j : Int) < (o.length : Int) := by omega
            have l2 : (k : Int) < (o.length : Int) := by omega
            by_cases he : iat o j = iat o k
            · have heb : (iat o j == iat o k) = true := by simpa using he
              have HN := Lib.hid <| decP_no (p := OrdP o) fun h => h.ne k j hjlt hlt he
              clear he
              go_wp2_with fail
              go_quiet (fail)
              go_wp2
              go_ret
              exact ⟨by rw [HN.out]; rfl, HW1.out.more _⟩
            · have heb : (iat o j == iat o k) = false := by simpa using he
              have HL2 : Hid (∀ i, i < j + 1 → iat o i ≠ iat o k) := all_step HL.out he
              clear he
              go_wp2_with fail
              go_quiet (fail)
              go_wp2
              go_roundw
              case rel => exact ⟨j + 1, by omega, by go_num, HW1.out.more _, HL2⟩
              case measure => simp [intOf]; omega
          · have hje : j = k := by omega
            subst hje
            have HJ2 : Hid (OrdTo o (j + 1)) := HJ.out.step (by have := HB.out.1; omega) (by have := HB.out.2; omega) HL.out
            go_wp2
            go_roundw
            case rel => exact ⟨j + 1, by omega, by go_num, HW1, HJ2⟩
            case measure => simp [intOf]; omega
      · have HB := Lib.hid <| h1
        have HN := Lib.hid <| decP_no (p := OrdP o) fun h => by have := h.bd k hlt; omega
        clear h1
        go_wp2_with fail
        refine (l1In_no _ _ _ _ HB.out).mono ?_
        rintro e w1 ⟨rfl, hd_w1⟩
        have HW1 : Hid (Dr _ w1) := HW.out.trans hd_w1
        clear hd_w1 HW
        go_wp2
        go_ret
        exact ⟨by rw [HN.out]; rfl, HW1.out⟩
    · have hke : k = o.length := by omega
      subst hke
      by_cases h6 : 1 ≤ o.length ∧ o.length ≤ 6
      · have HY := Lib.hid <| decP_yes ((ord_of HJ.out).2 h6)
        go_wp2_with fail
        refine (l1In_yes _ _ _ _ (by omega) (by omega)).mono ?_
        rintro e w1 ⟨rfl, hd_w1⟩
        have HW1 : Hid (Dr _ w1) := HW.out.trans hd_w1
        clear hd_w1 HW
        go_wp2
        go_ret
        exact ⟨by rw [HY.out]; rfl, HW1.out⟩
      · have HN := Lib.hid <| decP_no (p := OrdP o) fun h => h6 ((ord_of HJ.out).1 h)
        go_wp2_with fail
        refine (l1In_no _ _ _ _ (by omega)).mono ?_
        rintro e w1 ⟨rfl, hd_w1⟩
        have HW1 : Hid (Dr _ w1) := HW.out.trans hd_w1
        clear hd_w1 HW
        go_wp2
        go_ret
        exact ⟨by rw [HN.out]; rfl, HW1.out⟩

theorem new_cell {w : World} {u : Value} {t : TypeId} : (w.alloc (.cells #[u] t)).cell? ⟨w.heap.size, 0, none⟩ = some u := by
  rw [cell_of_row _ _ 0 #[u] t (0, 0) (heap_alloc_new _ _)]
  rfl

end Go.Proofs.Ytknnelenmedonaa
