/- What spec.SameSpace returns. Conditions: as each theorem says. -/
import Derived.Test.YtknnelenmedonaaSameW
namespace Go.Proofs.Ytknnelenmedonaa
set_option linter.unusedVariables false
set_option linter.unusedSimpArgs false
open Go.RowKit Go.Deep

theorem samP_none {d e : List (List Int)} {w w1 : World} (hv : samV d e = none) (hd : Dr w w1) : SamP d e w (.returned (.tuple #[.slice (some ⟨w1.heap.size, 0, none⟩) 0 0, .bool false])) (w1.alloc (.cells #[] 3)) := by
  have hsz : w1.heap.size = w.heap.size := by rw [hd.heap]
  refine ⟨_, by rw [hv]; rfl, ?_, (hd.below _).alloc (by omega) _⟩
  rw [hv]
  exact .inl ((IMem.empty w1).widen (by omega) (by simp))

theorem samV_mem {d e : List (List Int)} {o : List Int} (h : samV d e = some o) : SsOk d e ∧ OrdP o ∧ o.length = d.length ∧ ordL d o = e := by
  by_cases hok : SsOk d e
  · rw [samV_yes hok] at h
    have h1 := List.mem_of_find?_eq_some h
    have h2 := List.find?_some h
    obtain ⟨a, b⟩ := (ordK_ord hok.a.one hok.a.six).1 h1
    exact ⟨hok, a, b, decP_iff.1 h2⟩
  · rw [samV_no hok] at h
    simp at h
theorem samV_len (d e : List (List Int)) : ((samV d e).getD []).length ≤ 6 := by
  cases h : samV d e with
  | none => simp
  | some o => exact (samV_mem h).2.1.six


set_option maxHeartbeats 1000000 in
theorem specSameSpace_any (lo hi lo' hi' : Nat) (v u : Value) (d e : List (List Int)) (w : World) (hd : MMem lo hi w v d) (he : MMem lo' hi' w u e) : Calls Try.prog 37 #[v, u] w (SamP d e w) := by
  have c1 := specSpaceOk_any lo hi v d w hd
  have c2 : ∀ w', Dr w w' → Calls Try.prog 45 #[u] w' (Quiet (.bool (decP (Space e))) w') := fun w' h => specSpaceOk_any lo' hi' u e w' (he.dr h)
  obtain ⟨db, dc, _, _, rfl, -⟩ := id hd.open
  obtain ⟨eb, ec, _, _, rfl, -⟩ := id he.open
  have HD := Lib.hid hd
  have HE := Lib.hid he
  clear hd he
  by_cases hS : Space d
  · rw [decP_yes hS] at c1
    have C1 := Lib.hid <| c1
    by_cases hT : Space e
    · rw [decP_yes hT] at c2
      have C2 := Lib.hid <| c2
      by_cases hl : d.length = e.length
      · have hlb : ((d.length : Int) != (e.length : Int)) = false := by rw [hl]; simp
        by_cases h5 : d.length ≤ 5
        · have h5b : decide (5 < (d.length : Int)) = false := by simp; omega
          have hone := hS.one
          have hlen := (ordK_first hone h5).1
          have hbd := ordK_bound h5 h5
          have HOR : Hid (∀ o, o ∈ ordK d.length d.length → OrdP o ∧ o.length = d.length) := fun o ho => (ordK_ord hone (by omega)).1 ho
          have HV := Lib.hid <| samV_yes ⟨hS, hT, hl, h5⟩
          have HOD : Hid (∀ (lo hi : Nat) (w' : World) (x : Value) (o : List Int), OrdP o → o.length = d.length → IMem lo hi w' x o → Below w.heap.size w w' → Calls Try.prog 22 #[.slice (some ⟨db, 0, none⟩) d.length dc, x] w' (GivesM (ordL d o) w')) := fun lo hi w' x o h1 h2 h3 h4 => by
            have := specOrdered_any _ _ lo hi _ x d o w' (HD.out.fresh h4) h3
            rwa [odV_yes ⟨hS, h1, h2⟩] at this
          have HSM : Hid (∀ (lo hi : Nat) (w' : World) (x : Value) (o : List Int), OrdP o → o.length = d.length → MMem lo hi w' x (ordL d o) → Below w.heap.size w w' → Calls Try.prog 61 #[x, .slice (some ⟨eb, 0, none⟩) e.length ec] w' (Quiet (.bool (decP (ordL d o = e))) w')) := fun lo hi w' x o h1 h2 h3 h4 =>
            l7Same_any _ _ _ _ _ _ _ _ _ h3 (HE.out.fresh h4) (space_ordL hS h1 h2) hT (by rw [ordL_length, h2, hl])
          clear c1 c2 hS hT hl
          go_enter Try.func37, Try.ntmps37
          go_wp2_with fail
          refine (C1.out).mono ?_
          rintro e w1 ⟨rfl, hd_w1⟩
          have HW1 : Hid (Dr _ w1) := hd_w1
          clear hd_w1
          go_wp2_with fail
          refine (C2.out _ HW1.out).mono ?_
          rintro e w2 ⟨rfl, hd_w2⟩
          have HW2 : Hid (Dr _ w2) := HW1.out.trans hd_w2
          clear hd_w2 HW1
          go_wp2_with fail
          refine (l7Orders_any d.length w2 h5).mono ?_
          rintro en w3 ⟨r, rfl, hr, hb3⟩
          have hm := hr.mem hlen
          have hsz : w2.heap.size = w.heap.size := by rw [HW2.out.heap]
          obtain ⟨g, cap, BB, CC, rfl, hc1, hc2, hst⟩ := hm.delst hb3
          have H3 : Hid (Below w.heap.size w w3) := by
            have := (HW2.out.below w.heap.size).trans (by have := hb3; rw [hsz] at this; exact this)
            exact this
          have HG := Lib.hid hst.gat
          have HRW := Lib.hid hst.rows
          have HSZ := Lib.hid hsz
          rw [maxLen_val] at hc2
          clear hr hm hb3 hst hsz
          generalize ordK d.length d.length = L at *
          go_wp2
          go_loopw [7] (fun kv wr => ∃ k : Nat, k ≤ L.length ∧ kv = .int .i64 k ∧ Hid (Below w.heap.size w wr) ∧ Hid (GAt g BB CC L wr) ∧ Hid (RowsAt w2.heap.size w3.heap.size wr BB CC L) ∧ Hid (∀ j, j < k → decP (ordL d (row L j) = e) = false)) (fun kv _ => L.length - (intOf kv).toNat)
          case atStart => exact ⟨0, Nat.zero_le _, rfl, H3, HG, HRW, fun j hj => absurd hj (by omega)⟩
          case round =>
            clear H3 HG HRW
            obtain ⟨k, hk, rfl, H3, HG, HRW, HJ⟩ := hrel
            by_cases hklt : k < L.length
            · have x1 := HG.out.cell hklt
              obtain ⟨o1, o2⟩ := HOR.out _ (row_mem hklt)
              have HO1 := Lib.hid <| HOD.out _ _ wr _ _ o1 o2 (HRW.out.row k hklt) H3.out
              have HO2 : Hid (OrdP (row L k) ∧ (row L k).length = d.length) := ⟨o1, o2⟩
              have hki : (k : Int) < (L.length : Int) := by omega
              clear o1 o2
              go_wp2_with fail
              refine HO1.out.mono ?_
              rintro en w4 ⟨r4, rfl, hr4, hb4⟩
              have hca := HSM.out _ _ w4 _ _ HO2.out.1 HO2.out.2 (hr4.mem (by rw [ordL_length, HO2.out.2]; exact hone)) (below_chain H3.out hb4)
              have H4 := Lib.hid (below_chain H3.out hb4)
              have HG4 := Lib.hid (HG.out.fresh hb4)
              have HR4 := Lib.hid (HRW.out.fresh hb4)
              obtain ⟨qb, qc, rfl, -⟩ := id hr4.inn
              clear hr4 hb4 H3 HG HRW HO1 x1
              cases hkp : decP (ordL d (row L k) = e)
              · rw [hkp] at hca
                have HJ2 : Hid (∀ j, j < k + 1 → decP (ordL d (row L j) = e) = false) := all_step HJ.out hkp
                have HCA := Lib.hid <| hca
                clear hca hkp
                go_wp2_with fail
                refine HCA.out.mono ?_
                rintro en w5 ⟨rfl, hd5⟩
                have H5 : Hid (Below w.heap.size w w5) := H4.out.trans (hd5.below _)
                have HG5 := Lib.hid (HG4.out.fresh (hd5.below _))
                have HR5 := Lib.hid (HR4.out.fresh (hd5.below _))
                clear hd5 H4 HG4 HR4 HCA
                go_wp2
                go_roundw
                case rel => exact ⟨k + 1, by omega, by go_num, H5, HG5, HR5, HJ2⟩
                case measure => simp [intOf]; omega
              · rw [hkp] at hca
                have HF : Hid (samV d e = some (row L k)) := by
                  show _ = _
                  rw [HV.out]
                  exact find_hit hklt HJ.out hkp
                have HCA := Lib.hid <| hca
                clear hca hkp
                go_wp2_with fail
                refine HCA.out.mono ?_
                rintro en w5 ⟨rfl, hd5⟩
                have H5 : Hid (Below w.heap.size w w5) := H4.out.trans (hd5.below _)
                have HR5 := Lib.hid ((HR4.out.fresh (hd5.below _)).row k hklt)
                have x2 := (HG4.out.fresh (hd5.below w4.heap.size)).cell hklt
                clear hd5 H4 HG4 HR4 HCA
                go_wp2
                go_ret2
                refine ⟨_, by rw [HF.out]; rfl, ?_, H5.out⟩
                rw [HF.out]
                exact .inl ((HR5.out.widen (by rw [HSZ.out]; exact Nat.le_refl _) (Nat.le_refl _)).top)
            · have HF : Hid (samV d e = none) := by
                show _ = _
                rw [HV.out]
                exact find_none fun j hj => HJ.out j (by omega)
              go_wp2
              go_ret2
              refine ⟨_, by rw [HF.out]; rfl, ?_, H3.out.alloc H3.out.size _⟩
              rw [HF.out]
              exact .inl ((IMem.empty _).widen H3.out.size (by simp))
        · have h5b : decide (5 < (d.length : Int)) = true := by simp; omega
          have HV := Lib.hid <| samV_no (d := d) (e := e) fun h => h5 h.five
          clear c1 c2 hS hT hl
          go_enter Try.func37, Try.ntmps37
          go_wp2_with fail
          refine (C1.out).mono ?_
          rintro e w1 ⟨rfl, hd_w1⟩
          have HW1 : Hid (Dr _ w1) := hd_w1
          clear hd_w1
          go_wp2_with fail
          refine (C2.out _ HW1.out).mono ?_
          rintro e w2 ⟨rfl, hd_w2⟩
          have HW2 : Hid (Dr _ w2) := HW1.out.trans hd_w2
          clear hd_w2 HW1
          go_wp2
          go_ret2
          exact samP_none HV.out HW2.out
      · have hlb : ((d.length : Int) != (e.length : Int)) = true := by simpa using fun e => hl (by omega)
        have HV := Lib.hid <| samV_no (d := d) (e := e) fun h => hl h.len
        clear c1 c2 hS hT hl
        go_enter Try.func37, Try.ntmps37
        go_wp2_with fail
        refine (C1.out).mono ?_
        rintro e w1 ⟨rfl, hd_w1⟩
        have HW1 : Hid (Dr _ w1) := hd_w1
        clear hd_w1
        go_wp2_with fail
        refine (C2.out _ HW1.out).mono ?_
        rintro e w2 ⟨rfl, hd_w2⟩
        have HW2 : Hid (Dr _ w2) := HW1.out.trans hd_w2
        clear hd_w2 HW1
        go_wp2
        go_ret2
        exact samP_none HV.out HW2.out
    · rw [decP_no hT] at c2
      have C2 := Lib.hid <| c2
      have HV := Lib.hid <| samV_no (d := d) (e := e) fun h => hT h.b
      clear c1 c2 hS hT
      go_enter Try.func37, Try.ntmps37
      go_wp2_with fail
      refine (C1.out).mono ?_
      rintro e w1 ⟨rfl, hd_w1⟩
      have HW1 : Hid (Dr _ w1) := hd_w1
      clear hd_w1
      go_wp2_with fail
      refine (C2.out _ HW1.out).mono ?_
      rintro e w2 ⟨rfl, hd_w2⟩
      have HW2 : Hid (Dr _ w2) := HW1.out.trans hd_w2
      clear hd_w2 HW1
      go_wp2
      go_ret2
      exact samP_none HV.out HW2.out
  · rw [decP_no hS] at c1
    have C1 := Lib.hid <| c1
    have HV := Lib.hid <| samV_no (d := d) (e := e) fun h => hS h.a
    clear c1 c2 hS
    go_enter Try.func37, Try.ntmps37
    go_wp2_with fail
    refine (C1.out).mono ?_
    rintro e w1 ⟨rfl, hd_w1⟩
    have HW1 : Hid (Dr _ w1) := hd_w1
    clear hd_w1
    go_wp2
    go_ret2
    exact samP_none HV.out HW1.out

end Go.Proofs.Ytknnelenmedonaa
