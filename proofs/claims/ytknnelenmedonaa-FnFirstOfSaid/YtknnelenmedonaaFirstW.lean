/- What copyRows and FirstOf return. Conditions: as each theorem says. -/
import Derived.Test.YtknnelenmedonaaKeepS
namespace Go.Proofs.Ytknnelenmedonaa
set_option linter.unusedVariables false
set_option linter.unusedSimpArgs false
open Go.RowKit Go.Deep

theorem genM_rows (d : List (List Int)) : genM (row d) d.length = d := ext_row (genM_length _ _) fun i hi => by
  rw [genM_length] at hi
  rw [row_genM hi]
set_option maxHeartbeats 1000000 in
theorem copyRows_any (lo hi : Nat) (v : Value) (d : List (List Int)) (w : World) (hd : MMem lo hi w v d) (h6 : d.length ≤ 6) (hr6 : ∀ i, i < d.length → (row d i).length ≤ 7) : Calls Try.prog 67 #[v] w (GivesM d w) := by
  obtain ⟨db, dc, BB, CC, rfl, _, _, _, _, hcap, hcell, hrow, -⟩ := id hd.open
  rw [maxLen_val] at hcap
  have HC := Lib.hid hcell
  have HR := Lib.hid fun i hi => (hrow i hi).2.2.2.2.2.2
  have HG := Lib.hid (genM_rows d)
  have H7 := Lib.hid hr6
  clear hcell hrow hd hr6
  go_enter Try.func67, Try.ntmps67
  go_wp2
  go_loopw [3, 9] (fun ov kv wr => ∃ k : Nat, k ≤ d.length ∧ kv = .int .i64 k ∧ Hid (MMem w.heap.size wr.heap.size wr ov (genM (row d) k)) ∧ Hid (Below w.heap.size w wr)) (fun _ kv _ => d.length - (intOf kv).toNat)
  case atStart => exact ⟨0, Nat.zero_le _, rfl, (MMem.empty w).widen (Nat.le_refl _) (by simp), (Below.refl _ _).alloc (Nat.le_refl _) _⟩
  case round =>
    obtain ⟨k, hk, rfl, HM, HB⟩ := hrel
    by_cases hlt : k < d.length
    · have c1 := (HB.out.cell (p := ⟨db, k, none⟩) (World.block_lt_of_cell? w _ (HC.out k hlt))).trans (HC.out k hlt)
      have HI2 := Lib.hid ((HR.out k hlt).fresh HB.out)
      have hrl := H7.out k hlt
      have hs := HB.out.size
      have hml : (genM (row d) k).length = k := genM_length _ _
      have HM2 := HM
      clear HM
      go_wp2_with (first
        | (at_builtin; refine wp_app _ rfl _ _ rfl wr.heap.size (wr.heap.size + 1) _ [] rfl (IMem.empty _) (BB k) 0 (row d k).length _ (row d k) rfl rfl (row_cells HI2.out rfl _) (by simp; omega) (by simp) ?_; intro v4 w4 hI4 hB4 _; rw [List.nil_append] at hI4; obtain ⟨rb, rc, rfl, -⟩ := id hI4.open; have HI4 := Lib.hid hI4; have HB4 := Lib.hid (((Below.refl wr.heap.size wr).alloc (Nat.le_refl _) _).trans hB4); have hs4 := HB4.out.size; have HM4 := Lib.hid (HM2.out.fresh HB4.out); clear hI4 hB4)
        | (at_builtin; refine wp_appM _ rfl _ _ rfl w.heap.size wr.heap.size _ _ _ _ (row d k) rfl (HM4.out.alloc _) (HI4.out.alloc _) hs w4.heap.size 1 rfl new_cell (by omega) (by simp; omega) ?_; intro v6 w6 hI6 hB6; rw [← genM_succ (row d) k] at hI6; have HM6 := Lib.hid hI6; have HB6 := Lib.hid (((below_chain HB.out HB4.out).alloc (by omega) _).trans hB6); clear hI6 hB6 HI4 HM4 hs4))
      clear c1
      go_wp2
      go_roundw
      case rel => exact ⟨k + 1, by omega, by go_num, HM6, HB6⟩
      case measure => simp [intOf]; omega
    · have hke : k = d.length := by omega
      subst hke
      rw [HG.out] at HM
      go_wp2
      go_ret
      exact givesM_of (Below.refl _ _) HM.out HB.out

/-- The first space up to the k-th order. -/
noncomputable def firstTo (d : List (List Int)) (L : List (List Int)) : Nat → List (List Int)
  | 0 => d
  | k + 1 => if decP (lexM (ordL d (row L k)) (firstTo d L k) < 0) then ordL d (row L k) else firstTo d L k
theorem firstTo_less {d L : List (List Int)} {k : Nat} (h : lexM (ordL d (row L k)) (firstTo d L k) < 0) : firstTo d L (k + 1) = ordL d (row L k) := by simp [firstTo, decP_yes h]
theorem firstTo_stay {d L : List (List Int)} {k : Nat} (h : ¬ lexM (ordL d (row L k)) (firstTo d L k) < 0) : firstTo d L (k + 1) = firstTo d L k := by simp [firstTo, decP_no h]
noncomputable def fiV (d : List (List Int)) : List (List Int) := if decP (KeOk d) then firstTo d (ordK d.length d.length) (ordK d.length d.length).length else []
theorem fiV_yes {d : List (List Int)} (h : KeOk d) : fiV d = firstTo d (ordK d.length d.length) (ordK d.length d.length).length := by simp [fiV, decP_yes h]
theorem fiV_no {d : List (List Int)} (h : ¬ KeOk d) : fiV d = [] := by simp [fiV, decP_no h]
theorem firstTo_space {d L : List (List Int)} (hS : Space d) (hL : ∀ o, o ∈ L → OrdP o ∧ o.length = d.length) : ∀ k, k ≤ L.length → Space (firstTo d L k) ∧ (firstTo d L k).length = d.length := by
  intro k
  induction k with
  | zero => intro _; exact ⟨hS, rfl⟩
  | succ k ih =>
    intro hk
    have h1 := ih (by omega)
    obtain ⟨o1, o2⟩ := hL _ (row_mem (show k < L.length by omega))
    unfold firstTo
    split
    · exact ⟨space_ordL hS o1 o2, by rw [ordL_length, o2]⟩
    · exact h1


set_option maxHeartbeats 1000000 in
theorem implFirstOf_any (lo hi : Nat) (v : Value) (d : List (List Int)) (w : World) (hd : MMem lo hi w v d) : Calls Try.prog 43 #[v] w (GivesM (fiV d) w) := by
  have cs := isSpace_any lo hi v d w hd
  obtain ⟨db, dc, _, _, rfl, -⟩ := id hd.open
  have HD := Lib.hid hd
  clear hd
  by_cases hS : Space d
  · rw [decP_yes hS] at cs
    have HCS := Lib.hid <| cs
    by_cases h5 : d.length ≤ 5
    · have hone := hS.one
      have hlen := (ordK_first hone h5).1
      have hbd := ordK_bound h5 h5
      have HOR : Hid (∀ o, o ∈ ordK d.length d.length → OrdP o ∧ o.length = d.length) := fun o ho => (ordK_ord hone (by omega)).1 ho
      have h5b : decide (5 < (d.length : Int)) = false := by simp; omega
      have HV := Lib.hid <| fiV_yes ⟨hS, h5⟩
      have HOD : Hid (∀ (lo hi : Nat) (w' : World) (x : Value) (o : List Int), OrdP o → o.length = d.length → IMem lo hi w' x o → Below w.heap.size w w' → Calls Try.prog 57 #[.slice (some ⟨db, 0, none⟩) d.length dc, x] w' (GivesM (ordL d o) w')) := fun lo hi w' x o h1 h2 h3 h4 =>
        ordered_any _ _ _ _ _ _ _ _ _ (HD.out.fresh h4) h3 hS h1 h2
      have HCP : Hid (∀ w', Dr w w' → Calls Try.prog 67 #[.slice (some ⟨db, 0, none⟩) d.length dc] w' (GivesM d w')) := fun w' h => copyRows_any _ _ _ _ _ (HD.out.dr h) hS.six (fun i hi => by rw [hS.sq i hi]; have := hS.six; omega)
      clear cs hS
      go_enter Try.func43, Try.ntmps43
      go_wp2_with fail
      refine (HCS.out).mono ?_
      rintro e w1 ⟨rfl, hd_w1⟩
      have HW1 : Hid (Dr _ w1) := hd_w1
      clear hd_w1
      go_wp2_with fail
      refine (HCP.out _ HW1.out).mono ?_
      rintro e w2 ⟨r2, rfl, hr2, hb2⟩
      have hsz : w1.heap.size = w.heap.size := by rw [HW1.out.heap]
      rw [hsz] at hr2
      have H2 : Hid (Below w.heap.size w w2) := (HW1.out.below w.heap.size).trans (by have := hb2; rw [hsz] at this; exact this)
      have HM2 := Lib.hid (hr2.mem hone)
      clear hb2 hr2 HW1 hsz
      go_wp2_with fail
      refine (ordersOf_any d.length w2 h5).mono ?_
      rintro e w3 ⟨r, rfl, hr, hb3⟩
      have hm := hr.mem hlen
      obtain ⟨g, cap, BB, CC, rfl, hc1, hc2, hst⟩ := hm.delst hb3
      have H3 := Lib.hid (below_chain H2.out hb3)
      have HM3 := Lib.hid ((HM2.out.fresh hb3).top)
      have HG := Lib.hid hst.gat
      have HRW := Lib.hid hst.rows
      rw [maxLen_val] at hc2
      clear hr hm hb3 hst HM2 H2
      generalize ordK d.length d.length = L at *
      go_wp2
      go_loopw [3, 21] (fun bv kv wr => ∃ k : Nat, k ≤ L.length ∧ kv = .int .i64 k ∧ Hid (MMem w.heap.size wr.heap.size wr bv (firstTo d L k)) ∧ Hid (Below w.heap.size w wr) ∧ Hid (GAt g BB CC L wr) ∧ Hid (RowsAt w2.heap.size w3.heap.size wr BB CC L)) (fun _ kv _ => L.length - (intOf kv).toNat)
      case atStart => exact ⟨0, Nat.zero_le _, rfl, HM3, H3, HG, HRW⟩
      case round =>
        clear H3 HG HRW HM3
        obtain ⟨k, hk, rfl, HM3, H3, HG, HRW⟩ := hrel
        by_cases hklt : k < L.length
        · have x1 := HG.out.cell hklt
          obtain ⟨o1, o2⟩ := HOR.out _ (row_mem hklt)
          have HO1 := Lib.hid <| HOD.out _ _ wr _ _ o1 o2 (HRW.out.row k hklt) H3.out
          have HO2 : Hid (OrdP (row L k) ∧ (row L k).length = d.length) := ⟨o1, o2⟩
          clear o1 o2
          go_wp2_with fail
          refine HO1.out.mono ?_
          rintro e w4 ⟨r4, rfl, hr4, hb4⟩
          have hm4 := hr4.mem (by rw [ordL_length, HO2.out.2]; exact hone)
          have H4 := Lib.hid (below_chain H3.out hb4)
          have HM4 := Lib.hid (HM3.out.fresh hb4)
          have HE4 := Lib.hid (hm4.widen H3.out.size (Nat.le_refl _))
          have HG4 := Lib.hid (HG.out.fresh hb4)
          have HR4 := Lib.hid (HRW.out.fresh hb4)
          obtain ⟨qb, qc, _, _, rfl, -⟩ := id hm4.open
          have hca := compareRows_any _ _ _ _ w4 HE4.out.inn HM4.out.inn
          clear hr4 hb4 H3 HG HRW HO1 x1 HM3 hm4
          by_cases hlt : lexM (ordL d (row L k)) (firstTo d L k) < 0
          · have HF := Lib.hid (firstTo_less hlt)
            have HCA := Lib.hid <| hca
            clear hca
            go_wp2_with fail
            refine HCA.out.mono ?_
            rintro e w5 ⟨rfl, hd5⟩
            have H5 : Hid (Below w.heap.size w w5) := H4.out.trans (hd5.below _)
            have HG5 := Lib.hid (HG4.out.fresh (hd5.below _))
            have HR5 := Lib.hid (HR4.out.fresh (hd5.below _))
            have hm5 := (HE4.out.dr hd5).top
            have HM5 : Hid (MMem w.heap.size w5.heap.size w5 (.slice (some ⟨qb, 0, none⟩) (ordL d (row L k)).length qc) (firstTo d L (k + 1))) := by
              show MMem _ _ _ _ _
              rw [HF.out]; exact hm5
            clear hd5 H4 HG4 HR4 HCA hm5 HE4 HM4 HF
            go_wp2
            go_roundw
            case rel => exact ⟨k + 1, by omega, by go_num, HM5, H5, HG5, HR5⟩
            case measure => simp [intOf]; omega
          · have HF := Lib.hid (firstTo_stay hlt)
            have hltb : decide (lexM (ordL d (row L k)) (firstTo d L k) < 0) = false := by simpa using hlt
            have HCA := Lib.hid <| hca
            clear hca hlt
            go_wp2_with fail
            refine HCA.out.mono ?_
            rintro e w5 ⟨rfl, hd5⟩
            have H5 : Hid (Below w.heap.size w w5) := H4.out.trans (hd5.below _)
            have HG5 := Lib.hid (HG4.out.fresh (hd5.below _))
            have HR5 := Lib.hid (HR4.out.fresh (hd5.below _))
            have hm5 := (HM4.out.dr hd5).top
            rw [← HF.out] at hm5
            have HM5 := Lib.hid hm5
            clear hd5 H4 HG4 HR4 HCA hm5 HE4 HM4 HF
            go_wp2
            go_roundw
            case rel => exact ⟨k + 1, by omega, by go_num, HM5, H5, HG5, HR5⟩
            case measure => simp [intOf]; omega
        · have hke : k = L.length := by omega
          subst hke
          go_wp2
          go_ret
          rw [HV.out]
          exact ⟨_, rfl, .inl HM3.out, H3.out⟩
    · have h5b : decide (5 < (d.length : Int)) = true := by simp; omega
      have HV := Lib.hid <| fiV_no (d := d) fun h => h5 h.five
      clear cs hS
      go_enter Try.func43, Try.ntmps43
      go_wp2_with fail
      refine (HCS.out).mono ?_
      rintro e w1 ⟨rfl, hd_w1⟩
      have HW1 : Hid (Dr _ w1) := hd_w1
      clear hd_w1
      go_wp2
      go_ret
      rw [HV.out]
      exact givesM_nil (HW1.out.below _)
  · rw [decP_no hS] at cs
    have HCS := Lib.hid <| cs
    have HV := Lib.hid <| fiV_no (d := d) fun h => hS h.sp
    clear cs hS
    go_enter Try.func43, Try.ntmps43
    go_wp2_with fail
    refine (HCS.out).mono ?_
    rintro e w1 ⟨rfl, hd_w1⟩
    have HW1 : Hid (Dr _ w1) := hd_w1
    clear hd_w1
    go_wp2
    go_ret
    rw [HV.out]
    exact givesM_nil (HW1.out.below _)

end Go.Proofs.Ytknnelenmedonaa
