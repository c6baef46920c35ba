/- What markIntS, markIntSS, heldIntS and heldIntSS do, each a contract. Conditions: as each theorem says. -/
import Derived.Test.YtekbmmimmjpjoaaHelp2
namespace Go.Proofs.Ytekbmmimmjpjoaa
set_option linter.unusedVariables false
set_option linter.unusedSimpArgs false
open Go.RowKit Go.Deep

theorem IMem.set {lo hi b n cap : Nat} {w : World} {zs ys : List Int} {x : Int} (h : IMem lo hi w (.slice (some ⟨b, 0, none⟩) n cap) zs) (hl : ys.length = zs.length) (i : Nat) (hx : iat ys i = x)
    (hj : ∀ j, j < zs.length → j ≠ i → iat ys j = iat zs j) : IMem lo hi (w.setCell ⟨b, i, none⟩ (.int .i64 x)) (.slice (some ⟨b, 0, none⟩) n cap) ys := by
  obtain ⟨b', cap', cur, hv, h1, h2, h3, h4, h5, h6, h7⟩ := h
  injection hv with e1 e2 e3
  injection e1 with e1
  injection e1 with e1
  subst e1 e2 e3
  refine ⟨b, cap, cur.setIfInBounds i (.int .i64 x), by rw [hl], h1, h2, by omega, h4, ?_, by simpa using h6, fun j hj' => ?_⟩
  · simp [World.setCell, Array.getElem?_modify, h5]
  · rw [Array.getElem?_setIfInBounds]
    by_cases e : i = j
    · subst e
      rw [if_pos rfl, if_pos (by omega), hx]
    · rw [if_neg e, h7 j (by omega), hj j (by omega) (by omega)]

/-- The numbers from k on, n of them. -/
def marks (k : Int) (n : Nat) : List Int := (List.range n).map fun i : Nat => k + (i : Int)
theorem marks_length (k : Int) (n : Nat) : (marks k n).length = n := by simp [marks]
theorem iat_marks {k : Int} {n i : Nat} (h : i < n) : iat (marks k n) i = k + i := by simp [marks, iat, h]
def markTo (k : Int) (j : Nat) (zs : List Int) : List Int := (List.range zs.length).map fun i : Nat => if i < j then k + (i : Int) else iat zs i
theorem markTo_length (k : Int) (j : Nat) (zs : List Int) : (markTo k j zs).length = zs.length := by simp [markTo]
theorem iat_markTo {k : Int} {j : Nat} {zs : List Int} {i : Nat} (h : i < zs.length) : iat (markTo k j zs) i = if i < j then k + (i : Int) else iat zs i := by simp [markTo, iat, h]
theorem markTo_zero (k : Int) (zs : List Int) : markTo k 0 zs = zs := ext_iat (markTo_length _ _ _) fun i hi => by
  rw [markTo_length] at hi
  rw [iat_markTo hi, if_neg (by omega)]
theorem markTo_all (k : Int) (zs : List Int) : markTo k zs.length zs = marks k zs.length := ext_iat (by simp [markTo, marks]) fun i hi => by
  rw [markTo_length] at hi
  rw [iat_markTo hi, if_pos hi, iat_marks hi]

/-- A row of the call's own, or nil. -/
def IVal (lo hi : Nat) (w : World) (v : Value) (zs : List Int) : Prop := IMem lo hi w v zs ∨ (v = .slice none 0 0 ∧ zs = [])
def MVal (lo hi : Nat) (w : World) (v : Value) (d : List (List Int)) : Prop := MMem lo hi w v d ∨ (v = .slice none 0 0 ∧ d = [])
theorem IVal.inn {lo hi : Nat} {w : World} {v : Value} {zs : List Int} (h : IVal lo hi w v zs) : IIn w v zs := by
  rcases h with h | ⟨rfl, rfl⟩
  · exact h.inn
  · exact IIn.nil _
theorem MVal.inn {lo hi : Nat} {w : World} {v : Value} {d : List (List Int)} (h : MVal lo hi w v d) : MIn w v d := by
  rcases h with h | ⟨rfl, rfl⟩
  · exact h.inn
  · exact MIn.nil _

/-- What a marking leaves. -/
def MarkedI (lo hi : Nat) (v : Value) (k : Int) (zs : List Int) (w : World) (e : Ending) (w' : World) : Prop :=
  e = .returned (.int .i64 (k + zs.length)) ∧ IVal lo hi w' v (marks k zs.length) ∧ Outside lo hi w w'

set_option maxHeartbeats 400000 in
theorem markIntS_any (lo hi : Nat) (v : Value) (zs : List Int) (k : Int) (w : World) (h : IVal lo hi w v zs) (hk0 : 0 ≤ k) (hk1 : k ≤ 1152921504606846976) (hs : zs.length ≤ 1152921504606846976) :
    Calls Try.prog 28 #[v, .int .i64 k] w (MarkedI lo hi v k zs w) := by
  rcases h with h | ⟨rfl, rfl⟩
  · obtain ⟨b, cap, rfl, hlo, hhi, _⟩ := h.open
    have HI := Lib.hid h
    clear h
    go_enter Try.func28, Try.ntmps28
    go_wp2
    go_loopw [1, 5] (fun kv i wr => ∃ j : Nat, j ≤ zs.length ∧ i = .int .i64 j ∧ kv = .int .i64 (k + j) ∧ Hid (IMem lo hi wr (.slice (some ⟨b, 0, none⟩) zs.length cap) (markTo k j zs)) ∧ Hid (Outside lo hi w wr))
      (fun _ i _ => zs.length - (intOf i).toNat)
    case atStart => exact ⟨0, Nat.zero_le _, rfl, by simp, by rw [markTo_zero]; exact HI.out, Outside.refl _ _ _⟩
    case round =>
      obtain ⟨j, hj, rfl, rfl, HM, HO⟩ := hrel
      by_cases hlt : j < zs.length
      · obtain ⟨b', cap', hv, _, _, _, _, _, hc, hf⟩ := HM.out.open
        injection hv with e1 e2 e3
        injection e1 with e1
        injection e1 with e1
        subst e1
        clear e2 e3
        have hfz := hf j
        have hcc := hc j (by rw [markTo_length]; exact hlt)
        have HM2 : Hid (IMem lo hi (wr.setCell ⟨b, j, none⟩ (.int .i64 (k + j))) (.slice (some ⟨b, 0, none⟩) zs.length cap) (markTo k (j + 1) zs)) :=
          HM.out.set (by rw [markTo_length, markTo_length]) j (by rw [iat_markTo hlt, if_pos (by omega)]) (fun i hi hij => by
            rw [markTo_length] at hi
            rw [iat_markTo hi, iat_markTo hi]
            by_cases e : i < j
            · rw [if_pos e, if_pos (by omega)]
            · rw [if_neg e, if_neg (by omega)])
        have HO2 : Hid (Outside lo hi w (wr.setCell ⟨b, j, none⟩ (.int .i64 (k + j)))) := HO.out.setCell (p := ⟨b, j, none⟩) hlo hhi _
        clear hc hf HM HO HI
        go_wp2
        go_roundw
        case rel => exact ⟨j + 1, by omega, by go_num, by go_num, HM2, HO2⟩
        case measure => simp [intOf]; omega
      · have hje : j = zs.length := by omega
        subst hje
        go_wp2
        go_ret
        exact ⟨rfl, .inl (by rw [← markTo_all]; have := HM.out; rw [← markTo_length k zs.length zs] at this; simpa [markTo_length] using this), HO.out⟩
  · go_enter Try.func28, Try.ntmps28
    go_wp2
    go_loopw [1, 5] (fun kv i wr => i = .int .i64 0 ∧ kv = .int .i64 k ∧ wr = w) (fun _ i _ => 0)
    case atStart => exact ⟨rfl, rfl, rfl⟩
    case round =>
      obtain ⟨rfl, rfl, rfl⟩ := hrel
      go_wp2
      go_ret
      exact ⟨by simp, .inr ⟨rfl, by simp [marks]⟩, Outside.refl _ _ _⟩

/-- What a look at the marks leaves: all stand. -/
theorem heldIntS_any (v : Value) (n : Nat) (k : Int) (w : World) (h : IIn w v (marks k n)) (hk0 : 0 ≤ k) (hk1 : k ≤ 1152921504606846976) (hs : n ≤ 1152921504606846976) :
    Calls Try.prog 29 #[v, .int .i64 k] w (Quiet (.int .i64 (k + n)) w) := by
  obtain ⟨ao, cap, rfl, hm, hc⟩ := h
  rw [marks_length] at *
  have HC := Lib.hid hc
  clear hc
  go_enter Try.func29, Try.ntmps29
  go_wp2
  go_loopw [1, 5] (fun kv i wr => ∃ j : Nat, j ≤ n ∧ i = .int .i64 j ∧ kv = .int .i64 (k + j) ∧ Hid (Dr w wr)) (fun _ i _ => n - (intOf i).toNat)
  case atStart => exact ⟨0, Nat.zero_le _, rfl, by simp, Dr.refl _⟩
  case round =>
    obtain ⟨j, hj, rfl, rfl, HW⟩ := hrel
    by_cases hlt : j < n
    · obtain ⟨g, off, rfl, _, hcell0⟩ := HC.out j hlt
      rw [iat_marks hlt] at hcell0
      have hcell := (HW.out.cell _).trans hcell0
      clear hcell0
      go_wp2
      go_roundw
      case rel => exact ⟨j + 1, by omega, by go_num, by go_num, HW⟩
      case measure => simp [intOf]; omega
    · have hje : j = n := by omega
      subst hje
      go_wp2
      go_ret
      exact ⟨rfl, HW.out⟩

end Go.Proofs.Ytekbmmimmjpjoaa
