/- What spec.FirstOf returns. Conditions: as each theorem says. -/
import Derived.Test.YtknnelenmedonaaFirstW
namespace Go.Proofs.Ytknnelenmedonaa
set_option linter.unusedVariables false
set_option linter.unusedSimpArgs false
open Go.RowKit Go.Deep

theorem first_one {d : List (List Int)} (hS : Space d) (h5 : d.length ≤ 5) : firstTo d (ordK d.length d.length) 1 = ordL d (row (ordK d.length d.length) 0) := by
  have h0 := (ordK_first hS.one h5).2
  have h1 : ordL d (row (ordK d.length d.length) 0) = d := by rw [h0]; exact ordL_own hS.sq
  have h2 : ¬ lexM (ordL d (row (ordK d.length d.length) 0)) (firstTo d (ordK d.length d.length) 0) < 0 := by
    rw [h1]
    show ¬ lexM d d < 0
    rw [lexM_zero.2 rfl]; decide
  rw [firstTo_stay h2, h1]
  rfl
theorem fiV_small (d : List (List Int)) : (fiV d).length ≤ 6 ∧ tot (fiV d) (fiV d).length ≤ 36 := by
  by_cases h : KeOk d
  · obtain ⟨h1, h2⟩ := firstTo_space h.sp (fun o ho => (ordK_ord h.sp.one h.sp.six).1 ho) (ordK d.length d.length).length (Nat.le_refl _)
    rw [fiV_yes h]
    refine ⟨h1.six, ?_⟩
    have h6 := h1.six
    have := tot_le_of (B := 6) (n := (firstTo d (ordK d.length d.length) (ordK d.length d.length).length).length) (fun i hi => by rw [h1.sq i hi]; exact h6) (Nat.le_refl _)
    omega
  · rw [fiV_no h]
    exact ⟨Nat.zero_le _, Nat.zero_le _⟩

set_option maxHeartbeats 1000000 in
theorem specFirstOf_any (lo hi : Nat) (v : Value) (d : List (List Int)) (w : World) (hd : MMem lo hi w v d) : Calls Try.prog 42 #[v] w (GivesM (fiV d) w) := by
  have cs : ∀ w', Below w.heap.size w w' → Calls Try.prog 45 #[v] w' (Quiet (.bool (decP (Space d))) w') := fun w' h => specSpaceOk_any lo hi v d w' (hd.fresh h)
  have HA : Hid (Below w.heap.size w (w.alloc (.cells #[] 22))) := (Below.refl _ _).alloc (Nat.le_refl _) _
  have HEM : Hid (∀ w', Below (w.alloc (.cells #[] 22)).heap.size (w.alloc (.cells #[] 22)) w' → MMem w.heap.size w'.heap.size w' (.slice (some ⟨w.heap.size, 0, none⟩) 0 0) []) := fun w' h => ((MMem.empty w).fresh h).top
  obtain ⟨db, dc, _, _, rfl, -⟩ := id hd.open
  have HD := Lib.hid hd
  clear hd
  by_cases hS : Space d
  · rw [decP_yes hS] at cs
    have HCS := Lib.hid <| cs
    by_cases h5 : d.length ≤ 5
    · have hone := hS.one
      have hlen := (ordK_first hone h5).1
      have hbd := ordK_bound h5 h5
      have HOR : Hid (∀ o, o ∈ ordK d.length d.length → OrdP o ∧ o.length = d.length) := fun o ho => (ordK_ord hone (by omega)).1 ho
      have h5b : decide (5 < (d.length : Int)) = false := by simp; omega
      have HV := Lib.hid <| fiV_yes ⟨hS, h5⟩
      have HF1 := Lib.hid (first_one hS h5)
      have HFS : Hid (∀ k, k ≤ (ordK d.length d.length).length → Space (firstTo d (ordK d.length d.length) k) ∧ (firstTo d (ordK d.length d.length) k).length = d.length) := firstTo_space hS HOR.out
      have HOD : Hid (∀ (lo hi : Nat) (w' : World) (x : Value) (o : List Int), OrdP o → o.length = d.length → IMem lo hi w' x o → Below w.heap.size w w' → Calls Try.prog 22 #[.slice (some ⟨db, 0, none⟩) d.length dc, x] w' (GivesM (ordL d o) w')) := fun lo hi w' x o h1 h2 h3 h4 => by
        have := specOrdered_any _ _ lo hi _ x d o w' (HD.out.fresh h4) h3
        rwa [odV_yes ⟨hS, h1, h2⟩] at this
      have HSO : Hid (∀ o, OrdP o → o.length = d.length → Space (ordL d o)) := fun o h1 h2 => space_ordL hS h1 h2
      clear cs hS
      go_enter Try.func42, Try.ntmps42
      go_wp2_with fail
      refine (HCS.out _ HA.out).mono ?_
      rintro e w2 ⟨rfl, hd1⟩
      have H2 : Hid (Below w.heap.size w w2) := HA.out.trans (hd1.below _)
      clear hd1 HA HEM
      go_wp2_with fail
      refine (l7Orders_any d.length w2 h5).mono ?_
      rintro e w3 ⟨r, rfl, hr, hb3⟩
      have hm := hr.mem hlen
      obtain ⟨g, cap, BB, CC, rfl, hc1, hc2, hst⟩ := hm.delst hb3
      have H3 := Lib.hid (below_chain H2.out hb3)
      have HG := Lib.hid hst.gat
      have HRW := Lib.hid hst.rows
      rw [maxLen_val] at hc2
      clear hr hm hb3 hst H2
      generalize ordK d.length d.length = L at *
      have HM3 : Hid (1 ≤ 0 → MMem w.heap.size w3.heap.size w3 (.slice (some ⟨w.heap.size, 0, none⟩) 0 0) (firstTo d L 0)) := fun h => absurd h (by omega)
      go_wp2
      go_loopw [3, 5] (fun bv kv wr => ∃ k : Nat, k ≤ L.length ∧ kv = .int .i64 k ∧ Hid (1 ≤ k → MMem w.heap.size wr.heap.size wr bv (firstTo d L k)) ∧ Hid (Below w.heap.size w wr) ∧ Hid (GAt g BB CC L wr) ∧ Hid (RowsAt w2.heap.size w3.heap.size wr BB CC L)) (fun _ kv _ => L.length - (intOf kv).toNat)
      case atStart => exact ⟨0, Nat.zero_le _, rfl, HM3, H3, HG, HRW⟩
      case round =>
        clear H3 HG HRW HM3
        obtain ⟨k, hk, rfl, HM3, H3, HG, HRW⟩ := hrel
        by_cases hklt : k < L.length
        · have x1 := HG.out.cell hklt
          obtain ⟨o1, o2⟩ := HOR.out _ (row_mem hklt)
          have HO1 := Lib.hid <| HOD.out _ _ wr _ _ o1 o2 (HRW.out.row k hklt) H3.out
          have HO2 : Hid (OrdP (row L k) ∧ (row L k).length = d.length) := ⟨o1, o2⟩
          have hki : (k : Int) < (L.length : Int) := by omega
          clear o1 o2
          go_wp2_with fail
          refine HO1.out.mono ?_
          rintro e w4 ⟨r4, rfl, hr4, hb4⟩
          have hm4 := hr4.mem (by rw [ordL_length, HO2.out.2]; exact hone)
          have H4 := Lib.hid (below_chain H3.out hb4)
          have HM4 : Hid (1 ≤ k → MMem w.heap.size wr.heap.size w4 _ (firstTo d L k)) := fun h => (HM3.out h).fresh hb4
          have HE4 := Lib.hid (hm4.widen H3.out.size (Nat.le_refl _))
          have HG4 := Lib.hid (HG.out.fresh hb4)
          have HR4 := Lib.hid (HRW.out.fresh hb4)
          obtain ⟨qb, qc, _, _, rfl, -⟩ := id hm4.open
          clear hr4 hb4 H3 HG HRW HO1 x1 HM3 hm4
          by_cases hk0 : k = 0
          · subst hk0
            have HM5 : Hid (1 ≤ 0 + 1 → MMem w.heap.size w4.heap.size w4 (.slice (some ⟨qb, 0, none⟩) (ordL d (row L 0)).length qc) (firstTo d L (0 + 1))) := fun _ => by
              rw [HF1.out]; exact HE4.out
            clear HE4 HM4
            go_wp2
            go_roundw
            case rel => exact ⟨0 + 1, by omega, by go_num, HM5, H4, HG4, HR4⟩
            case measure => simp [intOf]; omega
          · have hkb : ((k : Int) == 0) = false := by simpa using hk0
            have hm4 := HM4.out (by omega)
            obtain ⟨f1, f2⟩ := HFS.out k (by omega)
            have hca := l7Less_any _ _ _ _ _ _ _ _ w4 HE4.out hm4 (HSO.out _ HO2.out.1 HO2.out.2) f1 (by rw [ordL_length, HO2.out.2, f2])
            have HM4' := Lib.hid hm4
            clear hk0 hm4 f1 f2 HM4
            by_cases hlt : lexM (ordL d (row L k)) (firstTo d L k) < 0
            · have HF := Lib.hid (firstTo_less hlt)
              have hltb : decide (lexM (ordL d (row L k)) (firstTo d L k) < 0) = true := by simpa using hlt
              rw [hltb] at hca
              have HCA := Lib.hid <| hca
              clear hca hlt hltb
              go_wp2_with fail
              refine HCA.out.mono ?_
              rintro e w5 ⟨rfl, hd5⟩
              have H5 : Hid (Below w.heap.size w w5) := H4.out.trans (hd5.below _)
              have HG5 := Lib.hid (HG4.out.fresh (hd5.below _))
              have HR5 := Lib.hid (HR4.out.fresh (hd5.below _))
              have hm5 := (HE4.out.dr hd5).top
              have HM5 : Hid (1 ≤ k + 1 → MMem w.heap.size w5.heap.size w5 (.slice (some ⟨qb, 0, none⟩) (ordL d (row L k)).length qc) (firstTo d L (k + 1))) := fun _ => by
                rw [HF.out]; exact hm5
              clear hd5 H4 HG4 HR4 HCA hm5 HE4 HM4' HF
              go_wp2
              go_roundw
              case rel => exact ⟨k + 1, by omega, by go_num, HM5, H5, HG5, HR5⟩
              case measure => simp [intOf]; omega
            · have HF := Lib.hid (firstTo_stay hlt)
              have hltb : decide (lexM (ordL d (row L k)) (firstTo d L k) < 0) = false := by simpa using hlt
              rw [hltb] at hca
              have HCA := Lib.hid <| hca
              clear hca hlt hltb
              go_wp2_with fail
              refine HCA.out.mono ?_
              rintro e w5 ⟨rfl, hd5⟩
              have H5 : Hid (Below w.heap.size w w5) := H4.out.trans (hd5.below _)
              have HG5 := Lib.hid (HG4.out.fresh (hd5.below _))
              have HR5 := Lib.hid (HR4.out.fresh (hd5.below _))
              have HM5 : Hid (1 ≤ k + 1 → MMem w.heap.size w5.heap.size w5 _ (firstTo d L (k + 1))) := fun _ => by
                rw [HF.out]; exact (HM4'.out.dr hd5).top
              clear hd5 H4 HG4 HR4 HCA HE4 HM4' HF
              go_wp2
              go_roundw
              case rel => exact ⟨k + 1, by omega, by go_num, HM5, H5, HG5, HR5⟩
              case measure => simp [intOf]; omega
        · have hke : k = L.length := by omega
          subst hke
          have HM4 := Lib.hid (HM3.out hlen)
          go_wp2
          go_ret
          rw [HV.out]
          exact ⟨_, rfl, .inl HM4.out, H3.out⟩
    · have h5b : decide (5 < (d.length : Int)) = true := by simp; omega
      have HV := Lib.hid <| fiV_no (d := d) fun h => h5 h.five
      clear cs hS
      go_enter Try.func42, Try.ntmps42
      go_wp2_with fail
      refine (HCS.out _ HA.out).mono ?_
      rintro e w1 ⟨rfl, hd1⟩
      have HB1 : Hid (Below w.heap.size w w1) := HA.out.trans (hd1.below _)
      have HM1 := Lib.hid (HEM.out _ (hd1.below _))
      clear hd1
      go_wp2
      go_ret
      rw [HV.out]
      exact ⟨_, rfl, .inl HM1.out, HB1.out⟩
  · rw [decP_no hS] at cs
    have HCS := Lib.hid <| cs
    have HV := Lib.hid <| fiV_no (d := d) fun h => hS h.sp
    clear cs hS
    go_enter Try.func42, Try.ntmps42
    go_wp2_with fail
    refine (HCS.out _ HA.out).mono ?_
    rintro e w1 ⟨rfl, hd1⟩
    have HB1 : Hid (Below w.heap.size w w1) := HA.out.trans (hd1.below _)
    have HM1 := Lib.hid (HEM.out _ (hd1.below _))
    clear hd1
    go_wp2
    go_ret
    rw [HV.out]
    exact ⟨_, rfl, .inl HM1.out, HB1.out⟩

end Go.Proofs.Ytknnelenmedonaa
