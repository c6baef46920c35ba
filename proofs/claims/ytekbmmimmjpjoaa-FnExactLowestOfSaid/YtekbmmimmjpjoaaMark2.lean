/- What markIntSS and heldIntSS do, each a contract. Conditions: as each theorem says. -/
import Derived.Test.YtekbmmimmjpjoaaMark
namespace Go.Proofs.Ytekbmmimmjpjoaa
set_option linter.unusedVariables false
set_option linter.unusedSimpArgs false
open Go.RowKit Go.Deep

/-- How many numbers stand in the first n rows. -/
def tot (d : List (List Int)) : Nat → Nat
  | 0 => 0
  | n + 1 => tot d n + (row d n).length
/-- The rows from the first on marked by the numbers from k on. -/
def marks2 (k : Int) (d : List (List Int)) : List (List Int) := (List.range d.length).map fun i : Nat => marks (k + (tot d i : Int)) (row d i).length
def marks2To (k : Int) (j : Nat) (d : List (List Int)) : List (List Int) := (List.range d.length).map fun i : Nat => if i < j then marks (k + (tot d i : Int)) (row d i).length else row d i
theorem marks2_length (k : Int) (d : List (List Int)) : (marks2 k d).length = d.length := by simp [marks2]
theorem marks2To_length (k : Int) (j : Nat) (d : List (List Int)) : (marks2To k j d).length = d.length := by simp [marks2To]
theorem row_marks2 {k : Int} {d : List (List Int)} {i : Nat} (h : i < d.length) : row (marks2 k d) i = marks (k + (tot d i : Int)) (row d i).length := by simp [marks2, row, h]
theorem row_marks2To {k : Int} {j : Nat} {d : List (List Int)} {i : Nat} (h : i < d.length) : row (marks2To k j d) i = if i < j then marks (k + (tot d i : Int)) (row d i).length else row d i := by
  simp [marks2To, row, h]
theorem marks2To_zero (k : Int) (d : List (List Int)) : marks2To k 0 d = d := ext_row (marks2To_length _ _ _) fun i hi => by
  rw [marks2To_length] at hi
  rw [row_marks2To hi, if_neg (by omega)]
theorem marks2To_all (k : Int) (d : List (List Int)) : marks2To k d.length d = marks2 k d := ext_row (by rw [marks2To_length, marks2_length]) fun i hi => by
  rw [marks2To_length] at hi
  rw [row_marks2To hi, if_pos hi, row_marks2 hi]

/-- A row may be written anew. -/
theorem MMem.rowset {lo hi : Nat} {w : World} {v : Value} {d : List (List Int)} (h : MMem lo hi w v d) {i : Nat} (hi' : i < d.length) :
    ∃ b cap g u, v = .slice (some ⟨b, 0, none⟩) d.length cap ∧ w.cell? ⟨b, i, none⟩ = some u ∧ lo ≤ g ∧ g < hi ∧ g ≠ b ∧ IMem g (g + 1) w u (row d i) ∧
      ∀ w' e, Outside g (g + 1) w w' → IMem g (g + 1) w' u (row e i) → e.length = d.length → (∀ j, j < d.length → j ≠ i → row e j = row d j) → MMem lo hi w' v e := by
  obtain ⟨b, cap, cur, V, rfl, k1, k2, h3, h4, h5, h6, h7, h8⟩ := h
  obtain ⟨g, cp, cr, hv, q1, q2, q3, q4, q5, q6, q7⟩ := (h7 i hi').2
  have hne : g ≠ b := by
    intro e
    rw [e, h5] at q5
    injection q5 with q5
    injection q5 with _ q5
    exact absurd q5 (by decide)
  refine ⟨b, cap, g, V i, rfl, by rw [cell_of_row w b i cur _ (0, 0) h5]; exact (h7 i hi').1, q1, q2, hne, ⟨g, cp, cr, hv, Nat.le_refl _, Nat.lt_succ_self _, q3, q4, q5, q6, q7⟩, ?_⟩
  intro w' e ho hI hl hother
  refine ⟨b, cap, cur, V, by rw [hl], k1, k2, by omega, h4, (ho.block b (by omega)).trans h5, h6, fun j hj => ?_, fun j j' hj hj' => h8 j j' (by omega) (by omega)⟩
  rw [hl] at hj
  refine ⟨(h7 j hj).1, ?_⟩
  by_cases hji : j = i
  · subst hji
    exact hI.widen q1 (by omega)
  · rw [hother j hj hji]
    obtain ⟨g', cp', cr', hv', q1', q2', q3', q4', q5', q6', q7'⟩ := (h7 j hj).2
    have hgg : g' ≠ g := by
      have := h8 j i hj hi' hji
      rw [hv', hv] at this
      simpa [Value.ownBlock] using this
    exact ⟨g', cp', cr', hv', q1', q2', q3', q4', (ho.block g' (by omega)).trans q5', q6', q7'⟩

def MarkedM (lo hi : Nat) (v : Value) (k : Int) (d : List (List Int)) (w : World) (e : Ending) (w' : World) : Prop :=
  e = .returned (.int .i64 (k + (tot d d.length : Int))) ∧ MVal lo hi w' v (marks2 k d) ∧ Outside lo hi w w'

theorem tot_le {d : List (List Int)} {j n : Nat} (h : j ≤ n) : tot d j ≤ tot d n := by
  induction n with
  | zero => have : j = 0 := by omega
            subst this; exact Nat.le_refl _
  | succ n ih =>
    by_cases e : j = n + 1
    · subst e; exact Nat.le_refl _
    · exact Nat.le_trans (ih (by omega)) (Nat.le_add_right _ _)

set_option maxHeartbeats 400000 in
theorem markIntSS_any (lo hi : Nat) (v : Value) (d : List (List Int)) (k : Int) (w : World) (h : MVal lo hi w v d) (hk0 : 0 ≤ k) (hk1 : k ≤ 1073741824) (hs : d.length ≤ 1073741824) (ht : tot d d.length ≤ 1152921504606846) :
    Calls Try.prog 27 #[v, .int .i64 k] w (MarkedM lo hi v k d w) := by
  rcases h with h | ⟨rfl, rfl⟩
  · obtain ⟨b, cap, _, _, rfl, hlo, hhi, _⟩ := h.open
    have HI := Lib.hid h
    have HT := Lib.hid ht
    clear h ht
    go_enter Try.func27, Try.ntmps27
    go_wp2
    go_loopw [1, 5] (fun kv i wr => ∃ j : Nat, j ≤ d.length ∧ i = .int .i64 j ∧ kv = .int .i64 (k + (tot d j : Int)) ∧ Hid (MMem lo hi wr (.slice (some ⟨b, 0, none⟩) d.length cap) (marks2To k j d)) ∧ Hid (Outside lo hi w wr))
      (fun _ i _ => d.length - (intOf i).toNat)
    case atStart => exact ⟨0, Nat.zero_le _, rfl, by simp [tot], by rw [marks2To_zero]; exact HI.out, Outside.refl _ _ _⟩
    case round =>
      obtain ⟨j, hj, rfl, rfl, HM, HO⟩ := hrel
      by_cases hlt : j < d.length
      · obtain ⟨b', cap', g, u, hv, hcell, g1, g2, g3, hI, hset⟩ := HM.out.rowset (i := j) (by rw [marks2To_length]; exact hlt)
        injection hv with e1 e2 e3
        injection e1 with e1
        injection e1 with e1
        subst e1 e3
        clear e2
        rw [row_marks2To hlt, if_neg (Nat.lt_irrefl _)] at hI
        obtain ⟨ub, uc, rfl, _⟩ := id hI.open
        have hts : tot d (j + 1) ≤ tot d d.length := tot_le (by omega)
        have ht2 := HT.out
        have htj : tot d (j + 1) = tot d j + (row d j).length := rfl
        have HI2 := Lib.hid hI
        have HS := Lib.hid hset
        have HJ := Lib.hid htj
        rw [htj] at hts
        clear hI hset HI htj
        go_wp2_with fail
        refine (markIntS_any g (g + 1) _ _ _ _ (.inl HI2.out) (by omega) (by omega) (by omega)).mono ?_
        rintro e w1 ⟨rfl, hm, ho⟩
        have hm' : IMem g (g + 1) w1 (.slice (some ⟨ub, 0, none⟩) (row d j).length uc) (marks (k + (tot d j : Int)) (row d j).length) := by
          rcases hm with hm | ⟨hm, _⟩
          · exact hm
          · cases hm
        have HM2 : Hid (MMem lo hi w1 (.slice (some ⟨b, 0, none⟩) d.length cap) (marks2To k (j + 1) d)) := by
          have := HS.out w1 (marks2To k (j + 1) d) ho (by rw [row_marks2To hlt, if_pos (by omega)]; exact hm') (by rw [marks2To_length, marks2To_length]) (fun i hi hij => by
            rw [marks2To_length] at hi
            rw [row_marks2To hi, row_marks2To hi]
            by_cases e : i < j
            · rw [if_pos e, if_pos (by omega)]
            · rw [if_neg e, if_neg (by omega)])
          exact this
        have HO2 : Hid (Outside lo hi w w1) := HO.out.trans (ho.widen g1 (by omega))
        clear hm ho hm' HM HO HS HI2
        go_wp2
        go_roundw
        case rel => exact ⟨j + 1, by omega, by go_num, by rw [HJ.out]; simp only [Int.natCast_add, Int.add_assoc], HM2, HO2⟩
        case measure => simp [intOf]; omega
      · have hje : j = d.length := by omega
        subst hje
        go_wp2
        go_ret
        exact ⟨rfl, .inl (by rw [← marks2To_all]; exact HM.out), HO.out⟩
  · go_enter Try.func27, Try.ntmps27
    go_wp2
    go_loopw [1, 5] (fun kv i wr => i = .int .i64 0 ∧ kv = .int .i64 k ∧ wr = w) (fun _ i _ => 0)
    case atStart => exact ⟨rfl, rfl, rfl⟩
    case round =>
      obtain ⟨rfl, rfl, rfl⟩ := hrel
      go_wp2
      go_ret
      exact ⟨by simp [tot], .inr ⟨rfl, by simp [marks2]⟩, Outside.refl _ _ _⟩

set_option maxHeartbeats 400000 in
theorem heldIntSS_any (v : Value) (d : List (List Int)) (k : Int) (w : World) (h : MIn w v (marks2 k d)) (hk0 : 0 ≤ k) (hk1 : k ≤ 1073741824) (hs : d.length ≤ 1073741824) (ht : tot d d.length ≤ 1152921504606846) :
    Calls Try.prog 46 #[v, .int .i64 k] w (Quiet (.int .i64 (k + (tot d d.length : Int))) w) := by
  obtain ⟨ao, cap, rfl, hm, hc⟩ := h
  rw [marks2_length] at *
  have HC := Lib.hid hc
  have HT := Lib.hid ht
  clear hc ht
  go_enter Try.func46, Try.ntmps46
  go_wp2
  go_loopw [1, 5] (fun kv i wr => ∃ j : Nat, j ≤ d.length ∧ i = .int .i64 j ∧ kv = .int .i64 (k + (tot d j : Int)) ∧ Hid (Dr w wr)) (fun _ i _ => d.length - (intOf i).toNat)
  case atStart => exact ⟨0, Nat.zero_le _, rfl, by simp [tot], Dr.refl _⟩
  case round =>
    obtain ⟨j, hj, rfl, rfl, HW⟩ := hrel
    by_cases hlt : j < d.length
    · obtain ⟨g, off, u, rfl, _, hcell0, hu⟩ := HC.out j hlt
      rw [row_marks2 hlt] at hu
      have hcell := (HW.out.cell _).trans hcell0
      have HU := Lib.hid (hu.dr HW.out)
      obtain ⟨uo, uc, rfl, hu2⟩ := id hu
      rw [marks_length] at hcell
      have hts : tot d (j + 1) ≤ tot d d.length := tot_le (by omega)
      have ht2 := HT.out
      have htj : tot d (j + 1) = tot d j + (row d j).length := rfl
      have HJ := Lib.hid htj
      rw [htj] at hts
      clear hcell0 hu hu2 htj
      go_wp2_with fail
      refine (heldIntS_any _ (row d j).length _ _ (by have := HU.out; rw [marks_length] at this; exact this) (by omega) (by omega) (by omega)).mono ?_
      rintro e w1 ⟨rfl, hd⟩
      have HW2 : Hid (Dr w w1) := HW.out.trans hd
      clear hd HW HU
      go_wp2
      go_roundw
      case rel => exact ⟨j + 1, by omega, by go_num, by rw [HJ.out]; simp only [Int.natCast_add, Int.add_assoc], HW2⟩
      case measure => simp [intOf]; omega
    · have hje : j = d.length := by omega
      subst hje
      go_wp2
      go_ret
      exact ⟨rfl, HW.out⟩

end Go.Proofs.Ytekbmmimmjpjoaa
