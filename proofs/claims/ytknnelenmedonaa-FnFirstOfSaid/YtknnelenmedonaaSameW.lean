/- What SameSpace returns. Conditions: as each theorem says. -/
import Derived.Test.YtknnelenmedonaaKeepS
namespace Go.Proofs.Ytknnelenmedonaa
set_option linter.unusedVariables false
set_option linter.unusedSimpArgs false
open Go.RowKit Go.Deep

/-- What SameSpace asks. -/
structure SsOk (d e : List (List Int)) : Prop where
  a : Space d
  b : Space e
  len : d.length = e.length
  five : d.length ≤ 5
noncomputable def samV (d e : List (List Int)) : Option (List Int) := if decP (SsOk d e) then (ordK d.length d.length).find? fun o => decP (ordL d o = e) else none
theorem samV_yes {d e : List (List Int)} (h : SsOk d e) : samV d e = (ordK d.length d.length).find? fun o => decP (ordL d o = e) := by simp [samV, decP_yes h]
theorem samV_no {d e : List (List Int)} (h : ¬ SsOk d e) : samV d e = none := by simp [samV, decP_no h]
def SamP (d e : List (List Int)) (w : World) (en : Ending) (w' : World) : Prop :=
  ∃ r, en = .returned (.tuple #[r, .bool (samV d e).isSome]) ∧ IVal w.heap.size w'.heap.size w' r ((samV d e).getD []) ∧ Below w.heap.size w w'
theorem find_hit {f : List Int → Bool} : ∀ {L : List (List Int)} {k : Nat}, k < L.length → (∀ j, j < k → f (row L j) = false) → f (row L k) = true → L.find? f = some (row L k) := by
  intro L
  induction L with
  | nil => intro k hk; simp at hk
  | cons x L ih =>
    intro k hk hb hf
    cases k with
    | zero =>
      rw [row_cons_zero] at hf ⊢
      simp [List.find?, hf]
    | succ k =>
      have h0 := hb 0 (by omega)
      rw [row_cons_zero] at h0
      rw [row_cons_succ] at hf ⊢
      simp only [List.find?, h0]
      exact ih (by simpa using hk) (fun j hj => hb (j + 1) (by omega)) hf
theorem find_none {f : List Int → Bool} {L : List (List Int)} (h : ∀ j, j < L.length → f (row L j) = false) : L.find? f = none := by
  rw [List.find?_eq_none]
  intro x hx
  obtain ⟨j, hj, e⟩ := mem_row hx
  have := h j hj
  rw [e] at this
  simp [this]


set_option maxHeartbeats 1000000 in
theorem implSameSpace_any (lo hi lo' hi' : Nat) (v u : Value) (d e : List (List Int)) (w : World) (hd : MMem lo hi w v d) (he : MMem lo' hi' w u e) : Calls Try.prog 38 #[v, u] w (SamP d e w) := by
  have c1 := isSpace_any lo hi v d w hd
  have c2 : ∀ w', Dr w w' → Calls Try.prog 56 #[u] w' (Quiet (.bool (decP (Space e))) w') := fun w' h => isSpace_any lo' hi' u e w' (he.dr h)
  obtain ⟨db, dc, _, _, rfl, -⟩ := id hd.open
  obtain ⟨eb, ec, _, _, rfl, -⟩ := id he.open
  have HD := Lib.hid hd
  have HE := Lib.hid he
  clear hd he
  by_cases hS : Space d
  · rw [decP_yes hS] at c1
    have C1 := Lib.hid <| c1
    by_cases hT : Space e
    · rw [decP_yes hT] at c2
      have C2 := Lib.hid <| c2
      by_cases hl : d.length = e.length
      · have hlb : ((d.length : Int) != (e.length : Int)) = false := by rw [hl]; simp
        by_cases h5 : d.length ≤ 5
        · have h5b : decide (5 < (d.length : Int)) = false := by simp; omega
          have hone := hS.one
          have hlen := (ordK_first hone h5).1
          have hbd := ordK_bound h5 h5
          have HOR : Hid (∀ o, o ∈ ordK d.length d.length → OrdP o ∧ o.length = d.length) := fun o ho => (ordK_ord hone (by omega)).1 ho
          have HV := Lib.hid <| samV_yes ⟨hS, hT, hl, h5⟩
          have HOD : Hid (∀ (lo hi : Nat) (w' : World) (x : Value) (o : List Int), OrdP o → o.length = d.length → IMem lo hi w' x o → Below w.heap.size w w' → Calls Try.prog 57 #[.slice (some ⟨db, 0, none⟩) d.length dc, x] w' (GivesM (ordL d o) w')) := fun lo hi w' x o h1 h2 h3 h4 =>
            ordered_any _ _ _ _ _ _ _ _ _ (HD.out.fresh h4) h3 hS h1 h2
          clear c1 c2 hS hT hl
          go_enter Try.func38, Try.ntmps38
          go_wp2_with fail
          refine (C1.out).mono ?_
          rintro e w1 ⟨rfl, hd_w1⟩
          have HW1 : Hid (Dr _ w1) := hd_w1
          clear hd_w1
          go_wp2_with fail
          refine (C2.out _ HW1.out).mono ?_
          rintro e w2 ⟨rfl, hd_w2⟩
          have HW2 : Hid (Dr _ w2) := HW1.out.trans hd_w2
          clear hd_w2 HW1
          go_wp2_with fail
          refine (ordersOf_any d.length w2 h5).mono ?_
          rintro en w3 ⟨r, rfl, hr, hb3⟩
          have hm := hr.mem hlen
          have hsz : w2.heap.size = w.heap.size := by rw [HW2.out.heap]
          obtain ⟨g, cap, BB, CC, rfl, hc1, hc2, hst⟩ := hm.delst hb3
          have H3 : Hid (Below w.heap.size w w3) := by
            have := (HW2.out.below w.heap.size).trans (by have := hb3; rw [hsz] at this; exact this)
            exact this
          have HG := Lib.hid hst.gat
          have HRW := Lib.hid hst.rows
          have HSZ := Lib.hid hsz
          rw [maxLen_val] at hc2
          clear hr hm hb3 hst hsz
          generalize ordK d.length d.length = L at *
          go_wp2
          go_loopw [32] (fun kv wr => ∃ k : Nat, k ≤ L.length ∧ kv = .int .i64 k ∧ Hid (Below w.heap.size w wr) ∧ Hid (GAt g BB CC L wr) ∧ Hid (RowsAt w2.heap.size w3.heap.size wr BB CC L) ∧ Hid (∀ j, j < k → decP (ordL d (row L j) = e) = false)) (fun kv _ => L.length - (intOf kv).toNat)
          case atStart => exact ⟨0, Nat.zero_le _, rfl, H3, HG, HRW, fun j hj => absurd hj (by omega)⟩
          case round =>
            clear H3 HG HRW
            obtain ⟨k, hk, rfl, H3, HG, HRW, HJ⟩ := hrel
            by_cases hklt : k < L.length
            · have x1 := HG.out.cell hklt
              obtain ⟨o1, o2⟩ := HOR.out _ (row_mem hklt)
              have HO1 := Lib.hid <| HOD.out _ _ wr _ _ o1 o2 (HRW.out.row k hklt) H3.out
              clear o1 o2
              go_wp2_with fail
              refine HO1.out.mono ?_
              rintro en w4 ⟨r4, rfl, hr4, hb4⟩
              have hca := compareRows_any _ _ _ _ w4 hr4.inn ((HE.out.fresh H3.out).fresh hb4).inn
              have H4 := Lib.hid (below_chain H3.out hb4)
              have HG4 := Lib.hid (HG.out.fresh hb4)
              have HR4 := Lib.hid (HRW.out.fresh hb4)
              obtain ⟨qb, qc, rfl, -⟩ := id hr4.inn
              clear hr4 hb4 H3 HG HRW HO1 x1
              cases hkp : decP (ordL d (row L k) = e)
              · have h0 : (lexM (ordL d (row L k)) e == 0) = false := by simpa using fun h => (decP_not.1 hkp) (lexM_zero.1 h)
                have HJ2 : Hid (∀ j, j < k + 1 → decP (ordL d (row L j) = e) = false) := all_step HJ.out hkp
                have HCA := Lib.hid <| hca
                clear hca hkp
                go_wp2_with fail
                refine HCA.out.mono ?_
                rintro en w5 ⟨rfl, hd5⟩
                have H5 : Hid (Below w.heap.size w w5) := H4.out.trans (hd5.below _)
                have HG5 := Lib.hid (HG4.out.fresh (hd5.below _))
                have HR5 := Lib.hid (HR4.out.fresh (hd5.below _))
                clear hd5 H4 HG4 HR4 HCA
                go_wp2
                go_roundw
                case rel => exact ⟨k + 1, by omega, by go_num, H5, HG5, HR5, HJ2⟩
                case measure => simp [intOf]; omega
              · have h0 : (lexM (ordL d (row L k)) e == 0) = true := by simpa using lexM_zero.2 (decP_iff.1 hkp)
                have HF : Hid (samV d e = some (row L k)) := by
                  show _ = _
                  rw [HV.out]
                  exact find_hit hklt HJ.out hkp
                have HCA := Lib.hid <| hca
                clear hca hkp
                go_wp2_with fail
                refine HCA.out.mono ?_
                rintro en w5 ⟨rfl, hd5⟩
                have H5 : Hid (Below w.heap.size w w5) := H4.out.trans (hd5.below _)
                have HR5 := Lib.hid ((HR4.out.fresh (hd5.below _)).row k hklt)
                clear hd5 H4 HG4 HR4 HCA
                go_wp2
                go_ret2
                refine ⟨_, by rw [HF.out]; rfl, ?_, H5.out⟩
                rw [HF.out]
                exact .inl ((HR5.out.widen (by rw [HSZ.out]; exact Nat.le_refl _) (Nat.le_refl _)).top)
            · have HF : Hid (samV d e = none) := by
                show _ = _
                rw [HV.out]
                exact find_none fun j hj => HJ.out j (by omega)
              go_wp2
              go_ret2
              refine ⟨_, by rw [HF.out]; rfl, ?_, H3.out⟩
              rw [HF.out]
              exact .inr ⟨rfl, rfl⟩
        · have h5b : decide (5 < (d.length : Int)) = true := by simp; omega
          have HV := Lib.hid <| samV_no (d := d) (e := e) fun h => h5 h.five
          clear c1 c2 hS hT hl
          go_enter Try.func38, Try.ntmps38
          go_wp2_with fail
          refine (C1.out).mono ?_
          rintro e w1 ⟨rfl, hd_w1⟩
          have HW1 : Hid (Dr _ w1) := hd_w1
          clear hd_w1
          go_wp2_with fail
          refine (C2.out _ HW1.out).mono ?_
          rintro e w2 ⟨rfl, hd_w2⟩
          have HW2 : Hid (Dr _ w2) := HW1.out.trans hd_w2
          clear hd_w2 HW1
          go_wp2
          go_ret2
          exact ⟨_, by rw [HV.out]; rfl, by rw [HV.out]; exact .inr ⟨rfl, rfl⟩, HW2.out.below _⟩
      · have hlb : ((d.length : Int) != (e.length : Int)) = true := by simpa using fun e => hl (by omega)
        have HV := Lib.hid <| samV_no (d := d) (e := e) fun h => hl h.len
        clear c1 c2 hS hT hl
        go_enter Try.func38, Try.ntmps38
        go_wp2_with fail
        refine (C1.out).mono ?_
        rintro e w1 ⟨rfl, hd_w1⟩
        have HW1 : Hid (Dr _ w1) := hd_w1
        clear hd_w1
        go_wp2_with fail
        refine (C2.out _ HW1.out).mono ?_
        rintro e w2 ⟨rfl, hd_w2⟩
        have HW2 : Hid (Dr _ w2) := HW1.out.trans hd_w2
        clear hd_w2 HW1
        go_wp2
        go_ret2
        exact ⟨_, by rw [HV.out]; rfl, by rw [HV.out]; exact .inr ⟨rfl, rfl⟩, HW2.out.below _⟩
    · rw [decP_no hT] at c2
      have C2 := Lib.hid <| c2
      have HV := Lib.hid <| samV_no (d := d) (e := e) fun h => hT h.b
      clear c1 c2 hS hT
      go_enter Try.func38, Try.ntmps38
      go_wp2_with fail
      refine (C1.out).mono ?_
      rintro e w1 ⟨rfl, hd_w1⟩
      have HW1 : Hid (Dr _ w1) := hd_w1
      clear hd_w1
      go_wp2_with fail
      refine (C2.out _ HW1.out).mono ?_
      rintro e w2 ⟨rfl, hd_w2⟩
      have HW2 : Hid (Dr _ w2) := HW1.out.trans hd_w2
      clear hd_w2 HW1
      go_wp2
      go_ret2
      exact ⟨_, by rw [HV.out]; rfl, by rw [HV.out]; exact .inr ⟨rfl, rfl⟩, HW2.out.below _⟩
  · rw [decP_no hS] at c1
    have C1 := Lib.hid <| c1
    have HV := Lib.hid <| samV_no (d := d) (e := e) fun h => hS h.a
    clear c1 c2 hS
    go_enter Try.func38, Try.ntmps38
    go_wp2_with fail
    refine (C1.out).mono ?_
    rintro e w1 ⟨rfl, hd_w1⟩
    have HW1 : Hid (Dr _ w1) := hd_w1
    clear hd_w1
    go_wp2
    go_ret2
    exact ⟨_, by rw [HV.out]; rfl, by rw [HV.out]; exact .inr ⟨rfl, rfl⟩, HW1.out.below _⟩

end Go.Proofs.Ytknnelenmedonaa
