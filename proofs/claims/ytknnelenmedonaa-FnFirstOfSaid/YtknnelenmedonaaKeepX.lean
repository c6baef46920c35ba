/- What slices.DeleteFunc does for keepingOf; keepingOf and KeepingOf. Conditions: as each theorem says. -/
import Derived.Test.YtknnelenmedonaaKeepW
namespace Go.Proofs.Ytknnelenmedonaa
set_option linter.unusedVariables false
set_option linter.unusedSimpArgs false
open Go.RowKit Go.Deep

theorem DelSt.upTo {lo hi g cap k : Nat} {wb w : World} {BB CC : Nat → Nat} {L : List (List Int)} {kp : Nat → Bool} (h : DelSt lo hi g cap wb BB CC L [] 0 w) (hk : k ≤ L.length) (ha : ∀ q, q < k → kp q = true) : DelSt lo hi g cap wb BB CC L (selN kp k) k w := by
  induction k with
  | zero => exact h
  | succ k ih =>
    have := ih (by omega) fun q hq => ha q (by omega)
    rw [selN_yes (ha k (by omega))]
    refine this.here ?_ (by omega)
    rw [selN_all fun q hq => ha q (by omega)]
    simp
def DelP (wb : World) (K : List (List Int)) (e : Ending) (w' : World) : Prop := ∃ r, e = .returned r ∧ MMem wb.heap.size w'.heap.size w' r K ∧ Below wb.heap.size wb w'
theorem zero_row (w : World) : (zeroValue 22).run Try.prog w = .ok (.slice none 0 0) w := by kernel_rfl

set_option maxHeartbeats 1000000 in
theorem deleteFunc_any (hi g cap bx : Nat) (wb w : World) (BB CC : Nat → Nat) (L : List (List Int)) (kp : Nat → Bool) (hL : L.length ≤ 3125) (hcap : L.length ≤ cap) (hm : cap ≤ maxLen)
    (hc : ∀ w' q, q < L.length → Below wb.heap.size wb w' → RowsAt wb.heap.size hi w' BB CC L → Calls Try.prog 76 #[.slice (some ⟨BB q, 0, none⟩) (row L q).length (CC q), .pointer (some ⟨bx, 0, none⟩)] w' (Gives (.bool (!kp q)) w'))
    (hst : DelSt wb.heap.size hi g cap wb BB CC L [] 0 w) :
    Calls Try.prog 75 #[.slice (some ⟨g, 0, none⟩) L.length cap, .func (.func 76) #[] #[.pointer (some ⟨bx, 0, none⟩)]] w (DelP wb ((selN kp L.length).map (row L))) := by
  have hi0 := indexFunc_any wb.heap.size hi g cap bx wb w BB CC L kp hL hc hst
  have HS := Lib.hid hst
  have HM := Lib.hid hm
  have HC := Lib.hid <| hc
  have HI := Lib.hid <| hi0
  rw [maxLen_val] at hm
  clear hc hst hi0
  go_enter Try.func75, Try.ntmps75
  go_wp2_with fail
  refine HI.out.mono ?_
  rintro e w1 ⟨hb1, h1⟩
  have HS1 := Lib.hid (HS.out.fresh hb1)
  clear hb1 HS HI
  rcases h1 with ⟨rfl, hall⟩ | ⟨k, rfl, hk, hkp, hbefore⟩
  · have HD := Lib.hid (HS1.out.upTo (Nat.le_refl _) hall)
    have hl : (selN kp L.length).length = L.length := by rw [selN_all hall]; simp
    have HL := Lib.hid hl
    clear hl hall
    go_wp2
    go_ret
    have := HD.out.done hcap HM.out (selN_nodup _ _) (fun x hx => selN_lt hx) (selN_len _ _)
    rw [HL.out] at this
    exact ⟨_, rfl, this, HD.out.below⟩
  · have hl : (selN kp k).length = k := by rw [selN_all hbefore]; simp
    have hs2 : DelSt wb.heap.size hi g cap wb BB CC L (selN kp (k + 1)) (k + 1) w1 := by
      have h := (HS1.out.upTo (by omega) hbefore).skip
      rw [selN_no hkp]
      exact h
    have HL1 : Hid ((selN kp (k + 1)).length = k) := by show _ = _; rw [selN_no hkp]; exact hl
    have HS2 := Lib.hid hs2
    have hne : ((k : Int) == -1) = false := by simp
    clear hs2 hl hkp hbefore HS1
    go_wp2
    go_loopw [5, 6] (fun iv jv wr => ∃ (i j : Nat), j ≤ L.length ∧ i < j ∧ jv = .int .i64 j ∧ iv = .int .i64 i ∧ Hid ((selN kp j).length = i) ∧ Hid (DelSt wb.heap.size hi g cap wb BB CC L (selN kp j) j wr)) (fun _ jv _ => L.length - (intOf jv).toNat)
    case atStart => exact ⟨k, k + 1, by omega, by omega, by go_num, rfl, HL1, HS2⟩
    case round =>
      clear HL1 HS2 hne
      obtain ⟨i, j, hj, hij, rfl, rfl, HL1, HS2⟩ := hrel
      by_cases hlt : j < L.length
      · have c1 := HS2.out.cell (Nat.le_refl j) hlt
        have hcall := HC.out wr j hlt HS2.out.below HS2.out.rows
        cases hkp : kp j
        · rw [hkp] at hcall
          have HCALL := Lib.hid <| hcall
          have HSN := Lib.hid (selN_no hkp)
          clear hcall hkp
          go_wp2_with fail
          refine HCALL.out.mono ?_
          rintro e w3 ⟨rfl, hd3⟩
          have hs3 := (HS2.out.fresh hd3).skip
          rw [← HSN.out] at hs3
          have HS3 := Lib.hid hs3
          have HL3 : Hid ((selN kp (j + 1)).length = i) := by show _ = _; rw [HSN.out]; exact HL1.out
          clear hs3 hd3 c1
          go_wp2
          go_roundw
          case rel => exact ⟨i, j + 1, by omega, by omega, by go_num, rfl, HL3, HS3⟩
          case measure => simp [intOf]; omega
        · rw [hkp] at hcall
          have HCALL := Lib.hid <| hcall
          have HSN := Lib.hid (selN_yes hkp)
          clear hcall hkp
          go_wp2_with fail
          refine HCALL.out.mono ?_
          rintro e w3 ⟨rfl, hd3⟩
          have hs0 := HS2.out.fresh hd3
          obtain ⟨old, c3⟩ := Option.isSome_iff_exists.1 (hs0.there (q := i) (by omega))
          have f3 := hs0.frozen i
          have hs3 := hs0.store (by rw [HL1.out]; exact hij) hlt hcap
          rw [← HSN.out, HL1.out] at hs3
          have HS3 := Lib.hid hs3
          have HL3 : Hid ((selN kp (j + 1)).length = i + 1) := by show _ = _; rw [HSN.out, List.length_append, HL1.out]; rfl
          have hii : (i : Int) < (L.length : Int) := by omega
          clear hs3 hs0 hd3 c1
          go_wp2
          go_roundw
          case rel => exact ⟨i + 1, j + 1, by omega, by omega, by go_num, by go_num, HL3, HS3⟩
          case measure => simp [intOf]; omega
      · have hje : j = L.length := by omega
        subst hje
        have hcl : ∀ ty, (Builtin.clear_ #[30] ty #[.slice (some ⟨g, i, none⟩) (L.length - i) (cap - i)]).run Try.prog wr = .ok (.tuple #[]) (wr.setCells g i (List.replicate (L.length - i) (.slice none 0 0))) :=
          fun ty => Lib.run_clear_slice wr _ _ ty _ Try.underlying30 zero_row rfl rfl g i _ _ (by omega) (fun t ht => HS2.out.there (by omega)) (fun t ht => HS2.out.frozen _)
        have hsf := HS2.out.cleared (List.replicate (L.length - i) (.slice none 0 0)) (Nat.le_refl _)
        rw [HL1.out] at hsf
        have HSF := Lib.hid hsf
        clear hsf
        go_wp2
        go_ret
        have := HSF.out.done hcap HM.out (selN_nodup _ _) (fun x hx => selN_lt hx) (selN_len _ _)
        rw [HL1.out] at this
        exact ⟨_, rfl, this, HSF.out.below⟩

/-- A list of rows, opened for the deletions. -/
theorem MMem.delst {hi : Nat} {wb w : World} {v : Value} {L : List (List Int)} (h : MMem wb.heap.size hi w v L) (hb : Below wb.heap.size wb w) :
    ∃ (g cap : Nat) (BB CC : Nat → Nat), v = .slice (some ⟨g, 0, none⟩) L.length cap ∧ L.length ≤ cap ∧ cap ≤ maxLen ∧ DelSt wb.heap.size hi g cap wb BB CC L [] 0 w := by
  obtain ⟨b, cap, cur, V, rfl, k1, k2, h3, h4, h5, h6, h7, h8⟩ := h
  have each : ∀ i, ∃ g c : Nat, i < L.length → V i = .slice (some ⟨g, 0, none⟩) (row L i).length c := by
    intro i
    by_cases hi : i < L.length
    · obtain ⟨b', cap', _, hv, _⟩ := (h7 i hi).2
      exact ⟨b', cap', fun _ => hv⟩
    · exact ⟨0, 0, fun h => absurd h hi⟩
  obtain ⟨BB, hBB⟩ := Classical.skolem.1 each
  obtain ⟨CC, hV⟩ := Classical.skolem.1 hBB
  refine ⟨b, cap, BB, CC, rfl, h3, h4, hb, ⟨fun q hq => by rw [← hV q hq]; exact (h7 q hq).2, fun i j hi hj hij e => h8 i j hi hj hij (by rw [hV i hi, hV j hj]; simp [Value.ownBlock, e])⟩, k1, cur, h5, h6, fun q hq => absurd hq (by simp), fun q _ hq => by rw [← hV q hq]; exact (h7 q hq).1⟩

/-- The orders that keep a space. -/
noncomputable def keepL (d : List (List Int)) : List (List Int) := (ordK d.length d.length).filter fun o => decP (ordL d o = d)
theorem decP_ne {p : Prop} : decP (¬ p) = !decP p := by
  by_cases h : p
  · rw [decP_yes h, decP_no (fun hn => hn h)]; rfl
  · rw [decP_no h, decP_yes h]; rfl
theorem MVal.mem {lo hi : Nat} {w : World} {v : Value} {d : List (List Int)} (h : MVal lo hi w v d) (hz : 1 ≤ d.length) : MMem lo hi w v d := by
  rcases h with h | ⟨_, e⟩
  · exact h
  · subst e; simp at hz

set_option maxHeartbeats 1000000 in
theorem keepingOf_any (lo hi : Nat) (v : Value) (d : List (List Int)) (w : World) (hd : MMem lo hi w v d) (hS : Space d) (h5 : d.length ≤ 5) : Calls Try.prog 62 #[v] w (GivesM (keepL d) w) := by
  obtain ⟨db, dc, _, _, rfl, -⟩ := id hd.open
  have hone := hS.one
  have hb0 : Below w.heap.size w (w.alloc (.cells #[.slice (some ⟨db, 0, none⟩) d.length dc] 30)) := (Below.refl _ _).alloc (Nat.le_refl _) _
  have hbx : (w.alloc (.cells #[.slice (some ⟨db, 0, none⟩) d.length dc] 30)).cell? ⟨w.heap.size, 0, none⟩ = some (.slice (some ⟨db, 0, none⟩) d.length dc) := new_cell
  have hsz : (w.alloc (.cells #[.slice (some ⟨db, 0, none⟩) d.length dc] 30)).heap.size = w.heap.size + 1 := by simp
  have hdb := hd.fresh hb0
  have hlen := (ordK_first hone h5).1
  have hbd := ordK_bound h5 h5
  have HO := Lib.hid <| ordersOf_any d.length (w.alloc (.cells #[.slice (some ⟨db, 0, none⟩) d.length dc] 30)) h5
  have HKF : Hid (∀ (lo hi : Nat) (w' : World) (u : Value) (o : List Int), OrdP o → o.length = d.length → IMem lo hi w' u o → Below (w.alloc (.cells #[.slice (some ⟨db, 0, none⟩) d.length dc] 30)).heap.size (w.alloc (.cells #[.slice (some ⟨db, 0, none⟩) d.length dc] 30)) w' → Calls Try.prog 76 #[u, .pointer (some ⟨w.heap.size, 0, none⟩)] w' (Gives (.bool (decP (ordL d o ≠ d))) w')) :=
    fun lo hi w' u o h1 h2 h3 h4 => keepFn_any _ _ lo hi _ _ _ u d o _ w' hdb hS hbx h3 h1 h2 h4
  have HOR : Hid (∀ o, o ∈ ordK d.length d.length → OrdP o ∧ o.length = d.length) := fun o ho => (ordK_ord hone (by omega)).1 ho
  have HB0 := Lib.hid hb0
  have HSZ := Lib.hid hsz
  clear hd hdb hS hb0 hsz
  go_enter Try.func62, Try.ntmps62
  go_wp2_with fail
  refine HO.out.mono ?_
  rintro e w2 ⟨r, rfl, hr, hb2⟩
  have hm := hr.mem hlen
  obtain ⟨g, cap, BB, CC, rfl, hc1, hc2, hst⟩ := hm.delst hb2
  have hdel := deleteFunc_any _ g cap w.heap.size _ w2 BB CC _ (fun q => decP (ordL d (row (ordK d.length d.length) q) = d)) hbd hc1 hc2 (fun w' q hq hb hr => by
    obtain ⟨o1, o2⟩ := HOR.out _ (row_mem hq)
    have := HKF.out _ _ w' _ _ o1 o2 (hr.row q hq) hb
    rw [decP_ne] at this
    exact this) hst
  rw [sel_rows (fun o => decP (ordL d o = d))] at hdel
  have HDEL := Lib.hid <| hdel
  have c2 := (hb2.cell (p := ⟨w.heap.size, 0, none⟩) (by rw [HSZ.out]; exact Nat.lt_succ_self _)).trans hbx
  clear hr hm hst hdel hb2 hbx
  go_wp2_with fail
  refine HDEL.out.mono ?_
  rintro e w3 ⟨r, rfl, hr, hb3⟩
  have HR := Lib.hid hr
  have HB3 := Lib.hid hb3
  clear hr hb3 c2
  go_wp2
  go_ret
  exact ⟨r, rfl, .inl (HR.out.widen (by rw [HSZ.out]; exact Nat.le_succ _) (Nat.le_refl _)), HB0.out.trans (HB3.out.mono (by rw [HSZ.out]; exact Nat.le_succ _))⟩

/-- What KeepingOf asks. -/
structure KeOk (d : List (List Int)) : Prop where
  sp : Space d
  five : d.length ≤ 5
noncomputable def keV (d : List (List Int)) : List (List Int) := if decP (KeOk d) then keepL d else []
theorem keV_yes {d : List (List Int)} (h : KeOk d) : keV d = keepL d := by simp [keV, decP_yes h]
theorem keV_no {d : List (List Int)} (h : ¬ KeOk d) : keV d = [] := by simp [keV, decP_no h]

theorem givesM_dr {w w1 : World} {K : List (List Int)} {e : Ending} {w' : World} (hd : Dr w w1) (h : GivesM K w1 e w') : GivesM K w e w' := by
  obtain ⟨r, he, hr, hb⟩ := h
  have hsz : w1.heap.size = w.heap.size := by rw [hd.heap]
  rw [hsz] at hr hb
  exact ⟨r, he, hr, (hd.below _).trans hb⟩

set_option maxHeartbeats 1000000 in
theorem implKeepingOf_any (lo hi : Nat) (v : Value) (d : List (List Int)) (w : World) (hd : MMem lo hi w v d) : Calls Try.prog 35 #[v] w (GivesM (keV d) w) := by
  have cs := isSpace_any lo hi v d w hd
  have hck : ∀ (hS : Space d) (h5 : d.length ≤ 5) w', Dr w w' → Calls Try.prog 62 #[v] w' (GivesM (keepL d) w') := fun hS h5 w' h => keepingOf_any lo hi v d w' (hd.dr h) hS h5
  obtain ⟨db, dc, _, _, rfl, -⟩ := id hd.open
  clear hd
  by_cases hS : Space d
  · rw [decP_yes hS] at cs
    have HCS := Lib.hid <| cs
    by_cases h5 : d.length ≤ 5
    · have HV := Lib.hid <| keV_yes ⟨hS, h5⟩
      have HCK := Lib.hid <| hck hS h5
      have h5b : decide (5 < (d.length : Int)) = false := by simp; omega
      clear cs hck hS
      go_enter Try.func35, Try.ntmps35
      go_wp2_with fail
      refine (HCS.out).mono ?_
      rintro e w1 ⟨rfl, hd_w1⟩
      have HW1 : Hid (Dr _ w1) := hd_w1
      clear hd_w1
      go_wp2_with fail
      refine (HCK.out _ HW1.out).mono ?_
      rintro e w2 ⟨r, rfl, hr⟩
      have HR := Lib.hid hr
      clear hr
      go_wp2
      go_ret
      rw [HV.out]
      exact givesM_dr HW1.out ⟨r, rfl, HR.out⟩
    · have h5b : decide (5 < (d.length : Int)) = true := by simp; omega
      have HV := Lib.hid <| keV_no (d := d) fun h => h5 h.five
      clear cs hck hS
      go_enter Try.func35, Try.ntmps35
      go_wp2_with fail
      refine (HCS.out).mono ?_
      rintro e w1 ⟨rfl, hd_w1⟩
      have HW1 : Hid (Dr _ w1) := hd_w1
      clear hd_w1
      go_wp2
      go_ret
      rw [HV.out]
      exact givesM_nil (HW1.out.below _)
  · rw [decP_no hS] at cs
    have HCS := Lib.hid <| cs
    have HV := Lib.hid <| keV_no (d := d) fun h => hS h.sp
    clear cs hck hS
    go_enter Try.func35, Try.ntmps35
    go_wp2_with fail
    refine (HCS.out).mono ?_
    rintro e w1 ⟨rfl, hd_w1⟩
    have HW1 : Hid (Dr _ w1) := hd_w1
    clear hd_w1
    go_wp2
    go_ret
    rw [HV.out]
    exact givesM_nil (HW1.out.below _)

end Go.Proofs.Ytknnelenmedonaa
