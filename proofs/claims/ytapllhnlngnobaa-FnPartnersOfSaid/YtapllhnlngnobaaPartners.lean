/- What impl.PartnersOf and spec.PartnersOf return. Conditions: as each theorem says. -/
import Derived.Test.YtapllhnlngnobaaTBelow
namespace Go.Proofs.Ytapllhnlngnobaa
set_option linter.unusedVariables false
set_option linter.unusedSimpArgs false
open Go.RowKit Go.Deep

def prOne (d : List (List Int)) (f : List Int) (i k : Nat) : List (List Int) := if i ≤ k ∧ iat f i + iat f k = at2 d i k then [[(i : Int), (k : Int)]] else []
def prI (d : List (List Int)) (f : List Int) (i : Nat) : Nat → List (List Int)
  | 0 => []
  | k + 1 => prI d f i k ++ prOne d f i k
def prA (d : List (List Int)) (f : List Int) : Nat → List (List Int)
  | 0 => []
  | i + 1 => prA d f i ++ prI d f i d.length
theorem prI_start (d : List (List Int)) (f : List Int) (i : Nat) {k : Nat} (h : k ≤ i) : prI d f i k = [] := by
  induction k with
  | zero => rfl
  | succ k ih =>
    simp only [prI, ih (by omega), prOne, List.nil_append]
    rw [if_neg (by omega)]
theorem prI_hit {d : List (List Int)} {f : List Int} {i k : Nat} (h : i ≤ k) (he : iat f i + iat f k = at2 d i k) : prI d f i (k + 1) = prI d f i k ++ [[(i : Int), (k : Int)]] := by
  simp only [prI, prOne]
  rw [if_pos ⟨h, he⟩]
theorem prI_miss {d : List (List Int)} {f : List Int} {i k : Nat} (he : iat f i + iat f k ≠ at2 d i k) : prI d f i (k + 1) = prI d f i k := by
  simp only [prI, prOne]
  rw [if_neg (fun h => he h.2), List.append_nil]
theorem prI_len (d : List (List Int)) (f : List Int) (i k : Nat) : (prI d f i k).length ≤ k := by
  induction k with
  | zero => exact Nat.le_refl _
  | succ k ih =>
    simp only [prI, prOne, List.length_append]
    split <;> simp <;> omega
theorem prA_len (d : List (List Int)) (f : List Int) (i : Nat) : (prA d f i).length ≤ i * d.length := by
  induction i with
  | zero => simp [prA]
  | succ i ih =>
    have := prI_len d f i d.length
    simp only [prA, List.length_append, Nat.succ_mul]
    omega
theorem prAll_len {d : List (List Int)} (f : List Int) (h : d.length ≤ 6) {i : Nat} (hi : i ≤ d.length) (k : Nat) (hk : k ≤ d.length) : (prA d f i ++ prI d f i k).length ≤ 1000 := by
  have h1 := prA_len d f i
  have h2 := prI_len d f i k
  have h3 : i * d.length ≤ 6 * 6 := Nat.mul_le_mul (by omega) h
  rw [List.length_append]
  omega
noncomputable def prV (d : List (List Int)) (f : List Int) : List (List Int) := if decP (Cov d f) then prA d f d.length else []
theorem prV_yes {d : List (List Int)} {f : List Int} (h : Cov d f) : prV d f = prA d f d.length := by simp [prV, decP_yes h]
theorem prV_no {d : List (List Int)} {f : List Int} (h : ¬ Cov d f) : prV d f = [] := by simp [prV, decP_no h]
theorem prI_mem {d : List (List Int)} {f : List Int} {i k : Nat} {r : List Int} (h : r ∈ prI d f i k) : ∃ q, i ≤ q ∧ q < k ∧ iat f i + iat f q = at2 d i q ∧ r = [(i : Int), (q : Int)] := by
  induction k with
  | zero => simp [prI] at h
  | succ k ih =>
    simp only [prI, List.mem_append] at h
    rcases h with h | h
    · obtain ⟨q, h1, h2, h3⟩ := ih h
      exact ⟨q, h1, by omega, h3⟩
    · unfold prOne at h
      split at h
      · rename_i hc
        simp only [List.mem_singleton] at h
        exact ⟨k, hc.1, by omega, hc.2, h⟩
      · simp at h
theorem prA_mem {d : List (List Int)} {f : List Int} {n : Nat} {r : List Int} (h : r ∈ prA d f n) : ∃ p q, p < n ∧ p ≤ q ∧ q < d.length ∧ iat f p + iat f q = at2 d p q ∧ r = [(p : Int), (q : Int)] := by
  induction n with
  | zero => simp [prA] at h
  | succ n ih =>
    simp only [prA, List.mem_append] at h
    rcases h with h | h
    · obtain ⟨p, q, h1, h2⟩ := ih h
      exact ⟨p, q, by omega, h2⟩
    · obtain ⟨q, h1, h2, h3, h4⟩ := prI_mem h
      exact ⟨n, q, by omega, h1, h2, h3, h4⟩
theorem row_mem {d : List (List Int)} {i : Nat} (h : i < d.length) : row d i ∈ d := by
  have : row d i = d[i] := by simp [row, h]
  rw [this]; exact List.getElem_mem h
theorem prV_len (d : List (List Int)) (f : List Int) : (prV d f).length ≤ 1000 := by
  by_cases h : Cov d f
  · rw [prV_yes h]
    have h1 := prA_len d f d.length
    have h3 : d.length * d.length ≤ 6 * 6 := Nat.mul_le_mul h.sp.six h.sp.six
    omega
  · rw [prV_no h]; exact Nat.zero_le _
theorem prV_row {d : List (List Int)} {f : List Int} {i : Nat} (hi : i < (prV d f).length) : (row (prV d f) i).length ≤ 2 := by
  have hm := row_mem hi
  by_cases h : Cov d f
  · rw [prV_yes h] at hm ⊢
    obtain ⟨p, q, _, _, _, _, e⟩ := prA_mem hm
    rw [e]; exact Nat.le_refl _
  · rw [prV_no h] at hi; simp at hi
theorem prV_tot (d : List (List Int)) (f : List Int) : tot (prV d f) (prV d f).length ≤ 1152921504606846 := by
  have h1 := tot_bound (d := prV d f) (n := (prV d f).length) (B := 2) fun i hi => prV_row hi
  have := prV_len d f
  omega


set_option maxHeartbeats 2000000 in
theorem implPartnersOf_any (lo hi lo' hi' : Nat) (v u : Value) (d : List (List Int)) (f : List Int) (w : World) (hd : MMem lo hi w v d) (hf : IMem lo' hi' w u f) :
    Calls Try.prog 53 #[v, u] w (GivesM (prV d f) w) := by
  have cs := covers_any lo hi lo' hi' v u d f w hd hf
  obtain ⟨fb, fc, rfl, _⟩ := hf.open
  by_cases hC : Cov d f
  · rw [decP_yes hC] at cs
    obtain ⟨b, cap, BB, CC, rfl, hO⟩ := hd.space hC.sp
    have hsix := hC.sp.six
    have hl := hC.vals.len
    rw [hl] at cs hf ⊢
    have HCS := Lib.hid <| cs
    have HO := Lib.hid <| hO
    have HCV := Lib.hid <| hC
    have HV := Lib.hid <| prV_yes hC
    have HFI := Lib.hid <| hf
    clear cs hC hd hO hf
    have HL := Lib.hid hl
    clear hl
    go_enter Try.func53, Try.ntmps53
    go_wp2_with fail
    refine (HCS.out).mono ?_
    rintro e w1 ⟨rfl, hd_w1⟩
    have HW1 : Hid (Dr _ w1) := hd_w1
    clear hd_w1
    have HO1 : Hid (SOpen w1 b BB CC d) := HO.out.dr HW1.out
    have HF1 := Lib.hid (HFI.out.dr HW1.out)
    go_wp2
    go_loopw [5, 16] (fun ov iv wr => ∃ i : Nat, i ≤ d.length ∧ iv = .int .i64 i ∧ Hid (MMem w1.heap.size wr.heap.size wr ov (prA d f i)) ∧ Hid (Below w1.heap.size w1 wr)) (fun _ iv _ => d.length - (intOf iv).toNat)
    case atStart => exact ⟨0, Nat.zero_le _, rfl, (MMem.empty w1).top, (Below.refl _ _).alloc (Nat.le_refl _) _⟩
    case round =>
      obtain ⟨i, hi, rfl, HI0, HB0⟩ := hrel
      by_cases hilt : i < d.length
      · have c1 := ((HF1.out.fresh HB0.out).cellAt (i := i) (by rw [HL.out]; exact hilt))
        have hi0 := HI0.out
        rw [← List.append_nil (prA d f i), ← prI_start d f i (Nat.le_refl i)] at hi0
        have HI := Lib.hid hi0
        clear hi0
        have HB := HB0
        clear HI0 HB0
        have bi := HCV.out.vals.bd hilt
        go_wp2
        clear c1
        go_loopw [5, 8] (fun ov kv wr => ∃ k : Nat, i ≤ k ∧ k ≤ d.length ∧ kv = .int .i64 k ∧ Hid (MMem w1.heap.size wr.heap.size wr ov (prA d f i ++ prI d f i k)) ∧ Hid (Below w1.heap.size w1 wr)) (fun _ kv _ => d.length - (intOf kv).toNat)
        case atStart => exact ⟨i, Nat.le_refl _, hi, rfl, HI, HB⟩
        case round =>
          clear HI HB
          obtain ⟨k, hik, hk, rfl, HI, HB⟩ := hrel
          by_cases hklt : k < d.length
          · have c1 := ((HF1.out.fresh HB.out).cellAt (i := i) (by rw [HL.out]; exact hilt))
            have c2 := ((HF1.out.fresh HB.out).cellAt (i := k) (by rw [HL.out]; exact hklt))
            have c3 := (HO1.out.keep HB.out).top i hilt
            have c4 := (HO1.out.keep HB.out).cell i k hilt hklt
            have bk := HCV.out.vals.bd hklt
            have e1 : IntKind.i64.wrap (iat f i + iat f k) = iat f i + iat f k := IntWalk.i64_in _ (by omega)
            by_cases he : iat f i + iat f k = at2 d i k
            · have heb : (iat f i + iat f k == at2 d i k) = true := by simpa using he
              have HP := Lib.hid <| prI_hit hik he
              have hlen := prAll_len f hsix hi k hk
              have hs2 := HB.out.size
              clear he
              go_wp2_with fail
              go_quiet (fail)
              clear e1 c1 c2 c3 c4
              have HI2 := Lib.hid (HI.out.drewN nq)
              go_wp2_with (at_builtin; refine wp_appM _ rfl _ _ rfl w1.heap.size wr.heap.size _ _ _ _ [(i : Int), (k : Int)] rfl ((HI2.out.alloc _).alloc _) ((IMem.pair (wr.drewN nq) i k).alloc _) hs2 (wr.heap.size + 1) 1 rfl pair_cell (by omega) (by simp; omega) ?_; intro v' w' hI' hB')
              rw [List.append_assoc, ← HP.out] at hI'
              have HI3 : Hid (MMem w1.heap.size w'.heap.size w' v' (prA d f i ++ prI d f i (k + 1))) := hI'
              have HB3 : Hid (Below w1.heap.size w1 w') := ((((below_drewN HB.out nq).alloc (by simpa using hs2) _).alloc (by simp; omega) _).trans hB')
              clear hI' hB'
              go_wp2
              go_roundw
              case rel => exact ⟨k + 1, by omega, by omega, by go_num, HI3, HB3⟩
              case measure => simp [intOf]; omega
            · have heb : (iat f i + iat f k == at2 d i k) = false := by simpa using he
              have HP := Lib.hid <| prI_miss he
              clear he
              go_wp2_with fail
              go_quiet (fail)
              clear e1 c1 c2 c3 c4
              go_wp2
              go_roundw
              case rel => exact ⟨k + 1, by omega, by omega, by go_num, by rw [HP.out]; exact HI.out.drewN _, below_drewN HB.out _⟩
              case measure => simp [intOf]; omega
          · have hke : k = d.length := by omega
            subst hke
            go_wp2
            go_roundw
            case rel => exact ⟨i + 1, by omega, by go_num, HI, HB⟩
            case measure => simp [intOf]; omega
      · have hie : i = d.length := by omega
        subst hie
        go_wp2
        go_ret
        rw [HV.out]
        exact givesM_of (HW1.out.below _) HI0.out HB0.out
  · rw [decP_no hC] at cs
    have HCS := Lib.hid <| cs
    have HV := Lib.hid <| prV_no hC
    obtain ⟨b, cap, _, _, rfl, _⟩ := hd.open
    clear cs hC hd hf
    go_enter Try.func53, Try.ntmps53
    go_wp2_with fail
    refine (HCS.out).mono ?_
    rintro e w1 ⟨rfl, hd_w1⟩
    have HW1 : Hid (Dr _ w1) := hd_w1
    clear hd_w1
    go_wp2
    go_ret
    rw [HV.out]
    exact givesM_nil (HW1.out.below _)

set_option maxHeartbeats 2000000 in
theorem specPartnersOf_any (lo hi lo' hi' : Nat) (v u : Value) (d : List (List Int)) (f : List Int) (w : World) (hd : MMem lo hi w v d) (hf : IMem lo' hi' w u f) :
    Calls Try.prog 55 #[v, u] w (GivesM (prV d f) w) := by
  have cs : ∀ wx, Below w.heap.size w wx → Calls Try.prog 32 #[v, u] wx (Quiet (.bool (decP (Cov d f))) wx) := fun wx hb => specCoversOk_any lo hi lo' hi' v u d f wx (hd.fresh hb) (hf.fresh hb)
  obtain ⟨fb, fc, rfl, _⟩ := hf.open
  obtain ⟨b, cap, BB, CC, rfl, _, _, _, hm1, hm2, _⟩ := hd.open
  rw [maxLen_val] at hm2
  by_cases hC : Cov d f
  · rw [decP_yes hC] at cs
    obtain ⟨b', cap', BB, CC, hv, hO⟩ := hd.space hC.sp
    injection hv with e1 e2 e3
    injection e1 with e1
    injection e1 with e1
    subst e1 e3
    clear e2
    have hsix := hC.sp.six
    have hl := hC.vals.len
    rw [hl] at cs hf ⊢
    have HCS := Lib.hid <| cs
    have HO1 := Lib.hid <| hO
    have HCV := Lib.hid <| hC
    have HV := Lib.hid <| prV_yes hC
    have HF1 := Lib.hid <| hf
    clear cs hC hd hO hf
    have HL := Lib.hid hl
    clear hl
    go_enter Try.func55, Try.ntmps55
    go_wp2
    go_loopw [5, 6] (fun ov iv wr => ∃ i : Nat, i ≤ d.length ∧ iv = .int .i64 i ∧ Hid (MMem w.heap.size wr.heap.size wr ov (prA d f i)) ∧ Hid (Below w.heap.size w wr)) (fun _ iv _ => d.length - (intOf iv).toNat)
    case atStart => exact ⟨0, Nat.zero_le _, rfl, (MMem.empty w).top, (Below.refl _ _).alloc (Nat.le_refl _) _⟩
    case round =>
      obtain ⟨i, hi, rfl, HI0, HB0⟩ := hrel
      by_cases hilt : i < d.length
      · go_wp2_with fail
        refine (HCS.out _ HB0.out).mono ?_
        rintro e wc ⟨rfl, hd_wc⟩
        have HWC : Hid (Dr _ wc) := hd_wc
        clear hd_wc
        have HB : Hid (Below w.heap.size w wc) := HB0.out.trans (HWC.out.below _)
        have hi0 := (HI0.out.dr HWC.out).top
        rw [← List.append_nil (prA d f i), ← prI_start d f i (Nat.le_refl i)] at hi0
        have HI := Lib.hid hi0
        clear hi0
        clear HI0 HB0
        have bi := HCV.out.vals.bd hilt
        go_wp2
        go_loopw [5, 7] (fun ov kv wr => ∃ k : Nat, i ≤ k ∧ k ≤ d.length ∧ kv = .int .i64 k ∧ Hid (MMem w.heap.size wr.heap.size wr ov (prA d f i ++ prI d f i k)) ∧ Hid (Below w.heap.size w wr)) (fun _ kv _ => d.length - (intOf kv).toNat)
        case atStart => exact ⟨i, Nat.le_refl _, hi, rfl, HI, HB⟩
        case round =>
          clear HI HB
          obtain ⟨k, hik, hk, rfl, HI, HB⟩ := hrel
          by_cases hklt : k < d.length
          · have c1 := ((HF1.out.fresh HB.out).cellAt (i := i) (by rw [HL.out]; exact hilt))
            have c2 := ((HF1.out.fresh HB.out).cellAt (i := k) (by rw [HL.out]; exact hklt))
            have c3 := (HO1.out.keep HB.out).top i hilt
            have c4 := (HO1.out.keep HB.out).cell i k hilt hklt
            have bk := HCV.out.vals.bd hklt
            have e1 : IntKind.i64.wrap (iat f i + iat f k) = iat f i + iat f k := IntWalk.i64_in _ (by omega)
            by_cases he : iat f i + iat f k = at2 d i k
            · have heb : (iat f i + iat f k == at2 d i k) = true := by simpa using he
              have HP := Lib.hid <| prI_hit hik he
              have hlen := prAll_len f hsix hi k hk
              have hs2 := HB.out.size
              clear he
              go_wp2_with fail
              go_quiet (fail)
              clear e1 c1 c2 c3 c4
              have HI2 := Lib.hid (HI.out.drewN nq)
              go_wp2_with (at_builtin; refine wp_appM _ rfl _ _ rfl w.heap.size wr.heap.size _ _ _ _ [(i : Int), (k : Int)] rfl ((HI2.out.alloc _).alloc _) ((IMem.pair (wr.drewN nq) i k).alloc _) hs2 (wr.heap.size + 1) 1 rfl pair_cell (by omega) (by simp; omega) ?_; intro v' w' hI' hB')
              rw [List.append_assoc, ← HP.out] at hI'
              have HI3 : Hid (MMem w.heap.size w'.heap.size w' v' (prA d f i ++ prI d f i (k + 1))) := hI'
              have HB3 : Hid (Below w.heap.size w w') := ((((below_drewN HB.out nq).alloc (by simpa using hs2) _).alloc (by simp; omega) _).trans hB')
              clear hI' hB'
              go_wp2
              go_roundw
              case rel => exact ⟨k + 1, by omega, by omega, by go_num, HI3, HB3⟩
              case measure => simp [intOf]; omega
            · have heb : (iat f i + iat f k == at2 d i k) = false := by simpa using he
              have HP := Lib.hid <| prI_miss he
              clear he
              go_wp2_with fail
              go_quiet (fail)
              clear e1 c1 c2 c3 c4
              go_wp2
              go_roundw
              case rel => exact ⟨k + 1, by omega, by omega, by go_num, by rw [HP.out]; exact HI.out.drewN _, below_drewN HB.out _⟩
              case measure => simp [intOf]; omega
          · have hke : k = d.length := by omega
            subst hke
            go_wp2
            go_roundw
            case rel => exact ⟨i + 1, by omega, by go_num, HI, HB⟩
            case measure => simp [intOf]; omega
      · have hie : i = d.length := by omega
        subst hie
        go_wp2
        go_ret
        rw [HV.out]
        exact givesM_of (Below.refl _ _) HI0.out HB0.out
  · rw [decP_no hC] at cs
    have HCS := Lib.hid <| cs
    have HV := Lib.hid <| prV_no hC
    clear cs hC hd hf
    go_enter Try.func55, Try.ntmps55
    go_wp2
    go_loopw [5, 6] (fun ov kv wr => kv = .int .i64 0 ∧ ov = .slice (some ⟨w.heap.size, 0, none⟩) 0 0 ∧ wr = w.alloc (.cells #[] 23)) (fun _ kv _ => 0)
    case atStart => exact ⟨rfl, rfl, rfl⟩
    case round =>
      obtain ⟨rfl, rfl, rfl⟩ := hrel
      by_cases h0 : 0 < d.length
      · have hb : Hid (Below w.heap.size w (w.alloc (.cells #[] 23))) := (Below.refl _ _).alloc (Nat.le_refl _) _
        go_wp2_with fail
        refine (HCS.out _ hb.out).mono ?_
        rintro e w2 ⟨rfl, hd_w2⟩
        have HW2 : Hid (Dr _ w2) := hd_w2
        clear hd_w2
        go_wp2
        go_ret
        rw [HV.out]
        exact givesM_of (Below.refl _ _) ((MMem.empty w).dr HW2.out) (hb.out.trans (HW2.out.below _))
      · go_wp2
        go_ret
        rw [HV.out]
        exact givesM_empty (Below.refl _ _)

end Go.Proofs.Ytapllhnlngnobaa
