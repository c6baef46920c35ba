/- What markIntS, markIntSS, heldIntS and heldIntSS do, each a contract. Conditions: as each theorem says. -/
import Derived.Test.YtknnelenmedonaaVal
namespace Go.Proofs.Ytknnelenmedonaa
set_option linter.unusedVariables false
set_option linter.unusedSimpArgs false
open Go.RowKit Go.Deep

/-- What a marking leaves. -/
def MarkedI (lo hi : Nat) (v : Value) (k : Int) (zs : List Int) (w : World) (e : Ending) (w' : World) : Prop :=
  e = .returned (.int .i64 (k + zs.length)) ∧ IVal lo hi w' v (marks k zs.length) ∧ Outside lo hi w w'

set_option maxHeartbeats 400000 in
theorem markIntS_any (lo hi : Nat) (v : Value) (zs : List Int) (k : Int) (w : World) (h : IVal lo hi w v zs) (hk0 : 0 ≤ k) (hk1 : k ≤ 1152921504606846976) (hs : zs.length ≤ 1152921504606846976) :
    Calls Try.prog 27 #[v, .int .i64 k] w (MarkedI lo hi v k zs w) := by
  rcases h with h | ⟨rfl, rfl⟩
  · obtain ⟨b, cap, rfl, hlo, hhi, _⟩ := h.open
    have HI := Lib.hid h
    clear h
    go_enter Try.func27, Try.ntmps27
    go_wp2
    go_loopw [1, 5] (fun kv i wr => ∃ j : Nat, j ≤ zs.length ∧ i = .int .i64 j ∧ kv = .int .i64 (k + j) ∧ Hid (IMem lo hi wr (.slice (some ⟨b, 0, none⟩) zs.length cap) (markTo k j zs)) ∧ Hid (Outside lo hi w wr))
      (fun _ i _ => zs.length - (intOf i).toNat)
    case atStart => exact ⟨0, Nat.zero_le _, rfl, by simp, by rw [markTo_zero]; exact HI.out, Outside.refl _ _ _⟩
    case round =>
      obtain ⟨j, hj, rfl, rfl, HM, HO⟩ := hrel
      by_cases hlt : j < zs.length
      · obtain ⟨b', cap', hv, _, _, _, _, _, hc, hf⟩ := HM.out.open
        injection hv with e1 e2 e3
        injection e1 with e1
        injection e1 with e1
        subst e1
        clear e2 e3
        have hfz := hf j
        have hcc := hc j (by rw [markTo_length]; exact hlt)
        have HM2 : Hid (IMem lo hi (wr.setCell ⟨b, j, none⟩ (.int .i64 (k + j))) (.slice (some ⟨b, 0, none⟩) zs.length cap) (markTo k (j + 1) zs)) :=
          HM.out.set (by rw [markTo_length, markTo_length]) j (by rw [iat_markTo hlt, if_pos (by omega)]) (fun i hi hij => by
            rw [markTo_length] at hi
            rw [iat_markTo hi, iat_markTo hi]
            by_cases e : i < j
            · rw [if_pos e, if_pos (by omega)]
            · rw [if_neg e, if_neg (by omega)])
        have HO2 : Hid (Outside lo hi w (wr.setCell ⟨b, j, none⟩ (.int .i64 (k + j)))) := HO.out.setCell (p := ⟨b, j, none⟩) hlo hhi _
        clear hc hf HM HO HI
        go_wp2
        go_roundw
        case rel => exact ⟨j + 1, by omega, by go_num, by go_num, HM2, HO2⟩
        case measure => simp [intOf]; omega
      · have hje : j = zs.length := by omega
        subst hje
        go_wp2
        go_ret
        exact ⟨rfl, .inl (by rw [← markTo_all]; have := HM.out; rw [← markTo_length k zs.length zs] at this; simpa [markTo_length] using this), HO.out⟩
  · go_enter Try.func27, Try.ntmps27
    go_wp2
    go_loopw [1, 5] (fun kv i wr => i = .int .i64 0 ∧ kv = .int .i64 k ∧ wr = w) (fun _ i _ => 0)
    case atStart => exact ⟨rfl, rfl, rfl⟩
    case round =>
      obtain ⟨rfl, rfl, rfl⟩ := hrel
      go_wp2
      go_ret
      exact ⟨by simp, .inr ⟨rfl, by simp [marks]⟩, Outside.refl _ _ _⟩

/-- What a look at the marks leaves: all stand. -/
theorem heldIntS_any (v : Value) (n : Nat) (k : Int) (w : World) (h : IIn w v (marks k n)) (hk0 : 0 ≤ k) (hk1 : k ≤ 1152921504606846976) (hs : n ≤ 1152921504606846976) :
    Calls Try.prog 39 #[v, .int .i64 k] w (Quiet (.int .i64 (k + n)) w) := by
  obtain ⟨ao, cap, rfl, hm, hc⟩ := h
  rw [marks_length] at *
  have HC := Lib.hid hc
  clear hc
  go_enter Try.func39, Try.ntmps39
  go_wp2
  go_loopw [1, 5] (fun kv i wr => ∃ j : Nat, j ≤ n ∧ i = .int .i64 j ∧ kv = .int .i64 (k + j) ∧ Hid (Dr w wr)) (fun _ i _ => n - (intOf i).toNat)
  case atStart => exact ⟨0, Nat.zero_le _, rfl, by simp, Dr.refl _⟩
  case round =>
    obtain ⟨j, hj, rfl, rfl, HW⟩ := hrel
    by_cases hlt : j < n
    · obtain ⟨g, off, rfl, _, hcell0⟩ := HC.out j hlt
      rw [iat_marks hlt] at hcell0
      have hcell := (HW.out.cell _).trans hcell0
      clear hcell0
      go_wp2
      go_roundw
      case rel => exact ⟨j + 1, by omega, by go_num, by go_num, HW⟩
      case measure => simp [intOf]; omega
    · have hje : j = n := by omega
      subst hje
      go_wp2
      go_ret
      exact ⟨rfl, HW.out⟩

def MarkedM (lo hi : Nat) (v : Value) (k : Int) (d : List (List Int)) (w : World) (e : Ending) (w' : World) : Prop :=
  e = .returned (.int .i64 (k + (tot d d.length : Int))) ∧ MVal lo hi w' v (marks2 k d) ∧ Outside lo hi w w'

set_option maxHeartbeats 400000 in
theorem markIntSS_any (lo hi : Nat) (v : Value) (d : List (List Int)) (k : Int) (w : World) (h : MVal lo hi w v d) (hk0 : 0 ≤ k) (hk1 : k ≤ 1152921504606847) (hs : d.length ≤ 1073741824) (ht : tot d d.length ≤ 1152921504606846) :
    Calls Try.prog 26 #[v, .int .i64 k] w (MarkedM lo hi v k d w) := by
  rcases h with h | ⟨rfl, rfl⟩
  · obtain ⟨b, cap, _, _, rfl, hlo, hhi, _⟩ := h.open
    have HI := Lib.hid h
    have HT := Lib.hid ht
    clear h ht
    go_enter Try.func26, Try.ntmps26
    go_wp2
    go_loopw [1, 5] (fun kv i wr => ∃ j : Nat, j ≤ d.length ∧ i = .int .i64 j ∧ kv = .int .i64 (k + (tot d j : Int)) ∧ Hid (MMem lo hi wr (.slice (some ⟨b, 0, none⟩) d.length cap) (marks2To k j d)) ∧ Hid (Outside lo hi w wr))
      (fun _ i _ => d.length - (intOf i).toNat)
    case atStart => exact ⟨0, Nat.zero_le _, rfl, by simp [tot], by rw [marks2To_zero]; exact HI.out, Outside.refl _ _ _⟩
    case round =>
      obtain ⟨j, hj, rfl, rfl, HM, HO⟩ := hrel
      by_cases hlt : j < d.length
      · obtain ⟨b', cap', g, u, hv, hcell, g1, g2, g3, hI, hset⟩ := HM.out.rowset (i := j) (by rw [marks2To_length]; exact hlt)
        injection hv with e1 e2 e3
        injection e1 with e1
        injection e1 with e1
        subst e1 e3
        clear e2
        rw [row_marks2To hlt, if_neg (Nat.lt_irrefl _)] at hI
        obtain ⟨ub, uc, rfl, _⟩ := id hI.open
        have hts : tot d (j + 1) ≤ tot d d.length := tot_le (by omega)
        have ht2 := HT.out
        have htj : tot d (j + 1) = tot d j + (row d j).length := rfl
        have HI2 := Lib.hid hI
        have HS := Lib.hid hset
        have HJ := Lib.hid htj
        rw [htj] at hts
        clear hI hset HI htj
        go_wp2_with fail
        refine (markIntS_any g (g + 1) _ _ _ _ (.inl HI2.out) (by omega) (by omega) (by omega)).mono ?_
        rintro e w1 ⟨rfl, hm, ho⟩
        have hm' : IMem g (g + 1) w1 (.slice (some ⟨ub, 0, none⟩) (row d j).length uc) (marks (k + (tot d j : Int)) (row d j).length) := by
          rcases hm with hm | ⟨hm, _⟩
          · exact hm
          · cases hm
        have HM2 : Hid (MMem lo hi w1 (.slice (some ⟨b, 0, none⟩) d.length cap) (marks2To k (j + 1) d)) := by
          have := HS.out w1 (marks2To k (j + 1) d) ho (by rw [row_marks2To hlt, if_pos (by omega)]; exact hm') (by rw [marks2To_length, marks2To_length]) (fun i hi hij => by
            rw [marks2To_length] at hi
            rw [row_marks2To hi, row_marks2To hi]
            by_cases e : i < j
            · rw [if_pos e, if_pos (by omega)]
            · rw [if_neg e, if_neg (by omega)])
          exact this
        have HO2 : Hid (Outside lo hi w w1) := HO.out.trans (ho.widen g1 (by omega))
        clear hm ho hm' HM HO HS HI2
        go_wp2
        go_roundw
        case rel => exact ⟨j + 1, by omega, by go_num, by rw [HJ.out]; simp only [Int.natCast_add, Int.add_assoc], HM2, HO2⟩
        case measure => simp [intOf]; omega
      · have hje : j = d.length := by omega
        subst hje
        go_wp2
        go_ret
        exact ⟨rfl, .inl (by rw [← marks2To_all]; exact HM.out), HO.out⟩
  · go_enter Try.func26, Try.ntmps26
    go_wp2
    go_loopw [1, 5] (fun kv i wr => i = .int .i64 0 ∧ kv = .int .i64 k ∧ wr = w) (fun _ i _ => 0)
    case atStart => exact ⟨rfl, rfl, rfl⟩
    case round =>
      obtain ⟨rfl, rfl, rfl⟩ := hrel
      go_wp2
      go_ret
      exact ⟨by simp [tot], .inr ⟨rfl, by simp [marks2]⟩, Outside.refl _ _ _⟩

set_option maxHeartbeats 400000 in
theorem heldIntSS_any (v : Value) (d : List (List Int)) (k : Int) (w : World) (h : MIn w v (marks2 k d)) (hk0 : 0 ≤ k) (hk1 : k ≤ 1073741824) (hs : d.length ≤ 1073741824) (ht : tot d d.length ≤ 1152921504606846) :
    Calls Try.prog 28 #[v, .int .i64 k] w (Quiet (.int .i64 (k + (tot d d.length : Int))) w) := by
  obtain ⟨ao, cap, rfl, hm, hc⟩ := h
  rw [marks2_length] at *
  have HC := Lib.hid hc
  have HT := Lib.hid ht
  clear hc ht
  go_enter Try.func28, Try.ntmps28
  go_wp2
  go_loopw [1, 5] (fun kv i wr => ∃ j : Nat, j ≤ d.length ∧ i = .int .i64 j ∧ kv = .int .i64 (k + (tot d j : Int)) ∧ Hid (Dr w wr)) (fun _ i _ => d.length - (intOf i).toNat)
  case atStart => exact ⟨0, Nat.zero_le _, rfl, by simp [tot], Dr.refl _⟩
  case round =>
    obtain ⟨j, hj, rfl, rfl, HW⟩ := hrel
    by_cases hlt : j < d.length
    · obtain ⟨g, off, u, rfl, _, hcell0, hu⟩ := HC.out j hlt
      rw [row_marks2 hlt] at hu
      have hcell := (HW.out.cell _).trans hcell0
      have HU := Lib.hid (hu.dr HW.out)
      obtain ⟨uo, uc, rfl, hu2⟩ := id hu
      rw [marks_length] at hcell
      have hts : tot d (j + 1) ≤ tot d d.length := tot_le (by omega)
      have ht2 := HT.out
      have htj : tot d (j + 1) = tot d j + (row d j).length := rfl
      have HJ := Lib.hid htj
      rw [htj] at hts
      clear hcell0 hu hu2 htj
      go_wp2_with fail
      refine (heldIntS_any _ (row d j).length _ _ (by have := HU.out; rw [marks_length] at this; exact this) (by omega) (by omega) (by omega)).mono ?_
      rintro e w1 ⟨rfl, hd⟩
      have HW2 : Hid (Dr w w1) := HW.out.trans hd
      clear hd HW HU
      go_wp2
      go_roundw
      case rel => exact ⟨j + 1, by omega, by go_num, by rw [HJ.out]; simp only [Int.natCast_add, Int.add_assoc], HW2⟩
      case measure => simp [intOf]; omega
    · have hje : j = d.length := by omega
      subst hje
      go_wp2
      go_ret
      exact ⟨rfl, HW.out⟩

end Go.Proofs.Ytknnelenmedonaa
