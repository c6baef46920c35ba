/- What spec.KeepingOf returns. Conditions: as each theorem says. -/
import Derived.Test.YtknnelenmedonaaKeepX
import Derived.Test.YtknnelenmedonaaOrdY
import Derived.Test.YtknnelenmedonaaOrdZ2
import Derived.Maps.AppendAt
namespace Go.Proofs.Ytknnelenmedonaa
set_option linter.unusedVariables false
set_option linter.unusedSimpArgs false
open Go.RowKit Go.Deep

/-- A list whose rows are rows of another list. -/
structure OutSt (lo lo' hi : Nat) (BB CC : Nat → Nat) (L : List (List Int)) (sel : List Nat) (w : World) (v : Value) : Prop where
  rows : RowsAt lo' hi w BB CC L
  own : w.ownsRow lo 22 1 v sel.length (sel.map fun q => .slice (some ⟨BB q, 0, none⟩) (row L q).length (CC q))
  some_ : v ≠ .slice none 0 0
section
variable {lo lo' hi : Nat} {BB CC : Nat → Nat} {L : List (List Int)} {sel : List Nat} {w w' : World} {v : Value}
theorem OutSt.fresh (h : OutSt lo lo' hi BB CC L sel w v) (hb : Below w.heap.size w w') : OutSt lo lo' hi BB CC L sel w' v := by
  refine ⟨h.rows.fresh hb, ?_, h.some_⟩
  obtain ⟨hl, hf⟩ := h.own
  refine ⟨hl, ?_⟩
  rcases hf with hf | ⟨g, cap, cur, h1, h2, h3, h4⟩
  · exact Or.inl hf
  · exact Or.inr ⟨g, cap, cur, h1, h2, (hb.block g (lt_of_heap h3)).trans h3, h4⟩
theorem OutSt.mem (h : OutSt lo lo' hi BB CC L sel w v) (hlo : lo ≤ lo') (hn : sel.Nodup) (hlt : ∀ x, x ∈ sel → x < L.length) : MMem lo w.heap.size w v (sel.map (row L)) := by
  obtain ⟨hl, hf⟩ := h.own
  rcases hf with ⟨hf, _⟩ | ⟨g, cap, cur, rfl, h2, h3, h4, h5, h6, h7⟩
  · exact absurd hf h.some_
  · refine ⟨g, cap, cur, fun q => .slice (some ⟨BB (sel.getD q 0), 0, none⟩) (row L (sel.getD q 0)).length (CC (sel.getD q 0)), by simp, h2, lt_of_heap h3, by simpa using h4, h5, h3, by simpa using h6, fun q hq => ?_, fun q r hq hr hqr => ?_⟩
    · rw [List.length_map] at hq
      refine ⟨?_, ?_⟩
      · have : (cur.toList.take (sel.length * 1))[q]? = (sel.map fun q => Value.slice (some ⟨BB q, 0, none⟩) (row L q).length (CC q))[q]? := by rw [h7]
        rw [List.getElem?_take] at this
        simp only [Nat.mul_one, hq, if_true] at this
        simpa [hq] using this
      · have e : row (sel.map (row L)) q = row L (sel.getD q 0) := by simp [row, hq]
        rw [e]
        exact ((h.rows.row _ (sel_get hlt hq)).top).widen hlo (Nat.le_refl _)
    · rw [List.length_map] at hq hr
      have := h.rows.ne _ _ (sel_get hlt hq) (sel_get hlt hr) (sel_inj hn hq hr hqr)
      simp only [Value.ownBlock]
      intro e
      injection e with e
      exact this e
end
theorem OutSt.start {lo lo' hi g : Nat} {BB CC : Nat → Nat} {L : List (List Int)} {w : World} (hr : RowsAt lo' hi w BB CC L) (hg : w.heap[g]? = some (.cells #[] 22 (0, 0))) (hl : lo ≤ g) : OutSt lo lo' hi BB CC L [] w (.slice (some ⟨g, 0, none⟩) 0 0) :=
  ⟨hr, ⟨by simp, .inr ⟨g, 0, #[], rfl, hl, hg, Nat.le_refl _, Nat.zero_le _, by simp, by simp⟩⟩, by simp⟩

/-- The other list's outer cells. -/
def GAt (g : Nat) (BB CC : Nat → Nat) (L : List (List Int)) (w : World) : Prop := ∃ cur, w.heap[g]? = some (.cells cur 22 (0, 0)) ∧ ∀ q, q < L.length → cur[q]? = some (.slice (some ⟨BB q, 0, none⟩) (row L q).length (CC q))
section
variable {g : Nat} {BB CC : Nat → Nat} {L : List (List Int)} {w w' : World}
theorem GAt.cell (h : GAt g BB CC L w) {q : Nat} (hq : q < L.length) : w.cell? ⟨g, q, none⟩ = some (.slice (some ⟨BB q, 0, none⟩) (row L q).length (CC q)) := by
  obtain ⟨cur, h1, h2⟩ := h
  rw [cell_of_row w g q cur _ (0, 0) h1]
  exact h2 q hq
theorem GAt.lt (h : GAt g BB CC L w) : g < w.heap.size := by
  obtain ⟨cur, h1, _⟩ := h
  exact lt_of_heap h1
theorem GAt.fresh (h : GAt g BB CC L w) (hb : Below w.heap.size w w') : GAt g BB CC L w' := by
  obtain ⟨cur, h1, h2⟩ := h
  exact ⟨cur, (hb.block g (lt_of_heap h1)).trans h1, h2⟩
theorem GAt.grown {k : Option Nat} (h : GAt g BB CC L w) (hg : w.grownBy w' k) (hne : k ≠ some g) : GAt g BB CC L w' := by
  obtain ⟨cur, h1, h2⟩ := h
  exact ⟨cur, (hg.block g (lt_of_heap h1) (fun e => hne e.symm)).trans h1, h2⟩
theorem DelSt.gat {lo hi cap : Nat} {wb : World} (h : DelSt lo hi g cap wb BB CC L [] 0 w) : GAt g BB CC L w := by
  obtain ⟨cur, h1, _, _, h4⟩ := h.at_
  exact ⟨cur, h1, fun q hq => h4 q (Nat.zero_le _) hq⟩
end

/-- append of a row of the other list. -/
theorem wp_appV (w : World) {ops : Array Oper} {rest : List Oper} {o : Oper} {a : Act} {Q : Exit → Act → World → Prop} (hgd : o.guard = none) (s x : Operand)
    (ho : o.op = .call { callee := .builtin .append, args := #[s, x], argTypes := #[30, 30] })
    (lo lo' hi j : Nat) (v : Value) (BB CC : Nat → Nat) (L : List (List Int)) (sel : List Nat) (hs : a.eval s = v) (h : OutSt lo lo' hi BB CC L sel w v) (hj : j < L.length) (b c : Nat) (hx : a.eval x = .slice (some ⟨b, 0, none⟩) 1 c)
    (hcell : w.cell? ⟨b, 0, none⟩ = some (.slice (some ⟨BB j, 0, none⟩) (row L j).length (CC j))) (hbound : sel.length ≤ 1000000000) (hlo : lo ≤ w.heap.size)
    (hk : ∀ v' w', OutSt lo lo' hi BB CC L (sel ++ [j]) w' v' → Below lo w w' → w.grownBy w' v.ownBlock → (v'.ownBlock = v.ownBlock ∨ v'.ownBlock = some w.heap.size) → wpList Try.prog ops Q rest (a.put o.dst v') w') : wpList Try.prog ops Q (o :: rest) a w := by
  obtain ⟨i0, hi0, hz0, hz1, hz2⟩ := info_parts info_ints
  refine wpList_append_own_at w hgd s x 30 ho lo 22 i0 (.slice none 0 0) 1 24 Try.underlying30 hi0 hz0 hz1 hz2 rfl (by decide) _ sel.length _ hs h.own ⟨b, 0, none⟩ 1 c [.slice (some ⟨BB j, 0, none⟩) (row L j).length (CC j)] hx (by simp) ?_ ?_ (by rw [maxLen_val]; omega) (by omega) hlo ?_
  · intro q u hu
    match q, hu with
    | 0, hu => simp at hu; subst hu; simpa [Addr.add] using hcell
  · intro u hu
    simp at hu
    subst hu
    rfl
  · intro v' w' hown' hg hnil hat
    have hbel : Below lo w w' := grown_below hg hlo (fun k hk => (h.own.lt k hk).1)
    refine hk v' w' ⟨⟨fun q hq => ?_, h.rows.ne⟩, ?_, fun e => by simpa using hnil.1 e⟩ hbel hg hat
    · obtain ⟨bb, cp, cr, hv, k1, k2, h3, h4, h5, h6⟩ := h.rows.row q hq
      refine ⟨bb, cp, cr, hv, k1, k2, h3, h4, (hg.block bb (lt_of_heap h5) ?_).trans h5, h6⟩
      intro e
      rcases h.own.2 with ⟨hf, _⟩ | ⟨g, cap, cur, rfl, _, g3, _⟩
      · exact h.some_ hf
      · simp only [Value.ownBlock] at e
        injection e with e
        rw [e, g3] at h5
        injection h5 with h5
        injection h5 with _ h5
        exact absurd h5 (by decide)
    · simpa using hown'

theorem own_ne {a b : Value} {g s : Nat} (h : a.ownBlock ≠ some g) (hat : b.ownBlock = a.ownBlock ∨ b.ownBlock = some s) (hs : g ≠ s) : b.ownBlock ≠ some g := by
  rcases hat with e | e
  · rw [e]; exact h
  · rw [e]
    intro e
    injection e with e
    exact hs e.symm

theorem keepL_mem {d : List (List Int)} (hS : Space d) {o : List Int} : o ∈ keepL d ↔ OrdP o ∧ o.length = d.length ∧ ordL d o = d := by
  unfold keepL
  rw [List.mem_filter, ordK_ord hS.one hS.six]
  constructor
  · rintro ⟨⟨h1, h2⟩, h3⟩
    exact ⟨h1, h2, decP_iff.1 h3⟩
  · rintro ⟨h1, h2, h3⟩
    exact ⟨⟨h1, h2⟩, decP_yes h3⟩
theorem keepL_len (d : List (List Int)) : (keepL d).length ≤ (ordK d.length d.length).length := List.length_filter_le _ _
theorem keV_small (d : List (List Int)) : (keV d).length ≤ 3125 ∧ tot (keV d) (keV d).length ≤ 18750 := by
  by_cases h : KeOk d
  · have h1 := keepL_len d
    have h2 := ordK_bound h.five h.five
    rw [keV_yes h]
    refine ⟨by omega, ?_⟩
    have := tot_le_of (L := keepL d) (B := 6) (n := (keepL d).length) (fun i hi => ((keepL_mem h.sp).1 (row_mem hi)).1.six) (Nat.le_refl _)
    omega
  · rw [keV_no h]
    exact ⟨Nat.zero_le _, Nat.zero_le _⟩

set_option maxHeartbeats 1000000 in
theorem specKeepingOf_any (lo hi : Nat) (v : Value) (d : List (List Int)) (w : World) (hd : MMem lo hi w v d) : Calls Try.prog 34 #[v] w (GivesM (keV d) w) := by
  have cs : ∀ w', Below w.heap.size w w' → Calls Try.prog 45 #[v] w' (Quiet (.bool (decP (Space d))) w') := fun w' h => specSpaceOk_any lo hi v d w' (hd.fresh h)
  have hE : (w.alloc (.cells #[] 22)).heap[w.heap.size]? = some (.cells #[] 22 (0, 0)) := heap_alloc_new w _
  have HA : Hid (Below w.heap.size w (w.alloc (.cells #[] 22))) := (Below.refl _ _).alloc (Nat.le_refl _) _
  have HEM : Hid (∀ w', Below (w.alloc (.cells #[] 22)).heap.size (w.alloc (.cells #[] 22)) w' → MMem w.heap.size w'.heap.size w' (.slice (some ⟨w.heap.size, 0, none⟩) 0 0) []) := fun w' h => ((MMem.empty w).fresh h).top
  obtain ⟨db, dc, _, _, rfl, -⟩ := id hd.open
  have HD := Lib.hid hd
  clear hd
  by_cases hS : Space d
  · rw [decP_yes hS] at cs
    have HCS := Lib.hid <| cs
    by_cases h5 : d.length ≤ 5
    · have hone := hS.one
      have hlen := (ordK_first hone h5).1
      have hbd := ordK_bound h5 h5
      have h5b : decide (5 < (d.length : Int)) = false := by simp; omega
      have HV := Lib.hid <| keV_yes ⟨hS, h5⟩
      have HOR : Hid (∀ o, o ∈ ordK d.length d.length → OrdP o ∧ o.length = d.length) := fun o ho => (ordK_ord hone (by omega)).1 ho
      have HOD : Hid (∀ (lo hi : Nat) (w' : World) (u : Value) (o : List Int), OrdP o → o.length = d.length → IMem lo hi w' u o → Below w.heap.size w w' → Calls Try.prog 22 #[.slice (some ⟨db, 0, none⟩) d.length dc, u] w' (GivesM (ordL d o) w')) := fun lo hi w' u o h1 h2 h3 h4 => by
        have := specOrdered_any _ _ lo hi _ u d o w' (HD.out.fresh h4) h3
        rwa [odV_yes ⟨hS, h1, h2⟩] at this
      have HSM : Hid (∀ (lo hi : Nat) (w' : World) (u : Value) (o : List Int), OrdP o → o.length = d.length → MMem lo hi w' u (ordL d o) → Below w.heap.size w w' → Calls Try.prog 61 #[u, .slice (some ⟨db, 0, none⟩) d.length dc] w' (Quiet (.bool (decP (ordL d o = d))) w')) := fun lo hi w' u o h1 h2 h3 h4 =>
        l7Same_any _ _ _ _ _ _ _ _ _ h3 (HD.out.fresh h4) (space_ordL hS h1 h2) hS (by rw [ordL_length, h2])
      have HKL : Hid (keepL d = (selN (fun q => decP (ordL d (row (ordK d.length d.length) q) = d)) (ordK d.length d.length).length).map (row (ordK d.length d.length))) := (sel_rows (fun o => decP (ordL d o = d)) _).symm
      clear cs hS
      go_enter Try.func34, Try.ntmps34
      go_wp2_with fail
      refine (HCS.out _ HA.out).mono ?_
      rintro e w1 ⟨rfl, hd1⟩
      have HB1 : Hid (Below w.heap.size w w1) := HA.out.trans (hd1.below _)
      have hE1 : w1.heap[w.heap.size]? = some (.cells #[] 22 (0, 0)) := by rw [hd1.heap]; exact hE
      clear hd1 hE
      go_wp2_with fail
      refine (l7Orders_any d.length w1 h5).mono ?_
      rintro e w2 ⟨r, rfl, hr, hb2⟩
      have hm := hr.mem hlen
      have hs1 := lt_of_heap hE1
      have hE2 : w2.heap[w.heap.size]? = some (.cells #[] 22 (0, 0)) := (hb2.block _ hs1).trans hE1
      obtain ⟨g, cap, BB, CC, rfl, hc1, hc2, hst⟩ := hm.delst hb2
      have hwl := HB1.out.size
      have hrows := hst.rows
      have HOS : Hid (OutSt w.heap.size w1.heap.size w2.heap.size BB CC (ordK d.length d.length) (selN (fun q => decP (ordL d (row (ordK d.length d.length) q) = d)) 0) w2 (.slice (some ⟨w.heap.size, 0, none⟩) 0 0)) := OutSt.start hst.rows hE2 (Nat.le_refl _)
      have HX2 := Lib.hid hst.gat
      have HNE : Hid ((Value.slice (some ⟨w.heap.size, 0, none⟩) 0 0).ownBlock ≠ some g) := by
        have := hst.low
        simp only [Value.ownBlock]
        intro e
        injection e with e
        omega
      have HLW : Hid (w.heap.size ≤ w1.heap.size) := HB1.out.size
      have H2 := Lib.hid (below_chain HB1.out hb2)
      rw [maxLen_val] at hc2
      clear hr hm hst hE1 hE2 hs1 hb2 HB1 hwl hrows
      generalize ordK d.length d.length = L at *
      go_wp2
      go_loopw [3, 5] (fun ov kv wr => ∃ k : Nat, k ≤ L.length ∧ kv = .int .i64 k ∧ Hid (OutSt w.heap.size w1.heap.size w2.heap.size BB CC L (selN (fun q => decP (ordL d (row L q) = d)) k) wr ov) ∧ Hid (Below w.heap.size w wr) ∧ Hid (GAt g BB CC L wr) ∧ Hid (ov.ownBlock ≠ some g)) (fun _ kv _ => L.length - (intOf kv).toNat)
      case atStart => exact ⟨0, Nat.zero_le _, rfl, HOS, H2, HX2, HNE⟩
      case round =>
        clear HOS H2 HX2 HNE
        obtain ⟨k, hk, rfl, HOS, H2, HX2, HNE⟩ := hrel
        by_cases hklt : k < L.length
        · have c1 := HX2.out.cell hklt
          obtain ⟨o1, o2⟩ := HOR.out _ (row_mem hklt)
          have hki : (k : Int) < (L.length : Int) := by omega
          have HO1 := Lib.hid <| HOD.out _ _ wr _ _ o1 o2 (HOS.out.rows.row k hklt) H2.out
          have HO2 : Hid (OrdP (row L k) ∧ (row L k).length = d.length) := ⟨o1, o2⟩
          clear o1 o2
          go_wp2_with fail
          refine HO1.out.mono ?_
          rintro e w3 ⟨r3, rfl, hr3, hb3⟩
          have hm3 := hr3.mem (by rw [ordL_length, HO2.out.2]; exact hone)
          have H3 := Lib.hid (below_chain H2.out hb3)
          have HX3 := Lib.hid (HX2.out.fresh hb3)
          have HOS3 := Lib.hid (HOS.out.fresh hb3)
          have hsm := HSM.out _ _ w3 _ _ HO2.out.1 HO2.out.2 hm3 H3.out
          clear hr3 hm3 hb3 H2 HX2 HOS HO1 c1
          cases hkp : decP (ordL d (row L k) = d)
          · rw [hkp] at hsm
            have HQ := Lib.hid <| hsm
            have HSN := Lib.hid (selN_no (p := fun q => decP (ordL d (row L q) = d)) hkp)
            clear hsm hkp
            go_wp2_with fail
            refine HQ.out.mono ?_
            rintro e w4 ⟨rfl, hd4⟩
            have hos4 := HOS3.out.fresh (hd4.below _)
            rw [← HSN.out] at hos4
            have HOS4 := Lib.hid hos4
            have H4 : Hid (Below w.heap.size w w4) := H3.out.trans (hd4.below _)
            have HX4 := Lib.hid (HX3.out.fresh (hd4.below _))
            clear hos4 hd4 H3 HX3 HOS3 HQ
            go_wp2
            go_roundw
            case rel => exact ⟨k + 1, by omega, by go_num, HOS4, H4, HX4, HNE⟩
            case measure => simp [intOf]; omega
          · rw [hkp] at hsm
            have HQ := Lib.hid <| hsm
            have HSN := Lib.hid (selN_yes (p := fun q => decP (ordL d (row L q) = d)) hkp)
            have hsl := selN_len (fun q => decP (ordL d (row L q) = d)) k
            clear hsm hkp
            go_wp2_with fail
            refine HQ.out.mono ?_
            rintro e w4 ⟨rfl, hd4⟩
            have HOS4 := Lib.hid (HOS3.out.fresh (hd4.below _))
            have H4 : Hid (Below w.heap.size w w4) := H3.out.trans (hd4.below _)
            have HX4 := Lib.hid (HX3.out.fresh (hd4.below _))
            have c1 := HX4.out.cell hklt
            have hs4 := H4.out.size
            clear hd4 H3 HX3 HOS3 HQ
            go_wp2_with (at_builtin; refine wp_appV _ rfl _ _ rfl w.heap.size w1.heap.size w2.heap.size k _ BB CC L _ rfl (HOS4.out.fresh ((Below.refl _ _).alloc (Nat.le_refl _) _)) hklt w4.heap.size 1 rfl new_cell (by omega) (by simp; omega) ?_; intro v5 w5 hO5 hB5 hg5 hat5; rw [← HSN.out] at hO5; have HOS5 := Lib.hid hO5; have H5 := Lib.hid ((H4.out.alloc hs4 _).trans hB5); have HX5 := Lib.hid ((HX4.out.fresh ((Below.refl _ _).alloc (Nat.le_refl _) _)).grown hg5 HNE.out); have HNE5 := Lib.hid (own_ne HNE.out hat5 (by have := HX4.out.lt; simp; omega)); clear hO5 hg5 hat5 hB5 c1)
            go_wp2
            go_roundw
            case rel => exact ⟨k + 1, by omega, by go_num, HOS5, H5, HX5, HNE5⟩
            case measure => simp [intOf]; omega
        · have hke : k = L.length := by omega
          subst hke
          have hmem := HOS.out.mem HLW.out (selN_nodup _ _) (fun x hx => selN_lt hx)
          rw [← HKL.out] at hmem
          have HMEM := Lib.hid hmem
          clear hmem
          go_wp2
          go_ret
          rw [HV.out]
          exact ⟨_, rfl, .inl HMEM.out, H2.out⟩
    · have h5b : decide (5 < (d.length : Int)) = true := by simp; omega
      have HV := Lib.hid <| keV_no (d := d) fun h => h5 h.five
      clear cs hS
      go_enter Try.func34, Try.ntmps34
      go_wp2_with fail
      refine (HCS.out _ HA.out).mono ?_
      rintro e w1 ⟨rfl, hd1⟩
      have HB1 : Hid (Below w.heap.size w w1) := HA.out.trans (hd1.below _)
      have HM1 := Lib.hid (HEM.out _ (hd1.below _))
      clear hd1
      go_wp2
      go_ret
      rw [HV.out]
      exact ⟨_, rfl, .inl HM1.out, HB1.out⟩
  · rw [decP_no hS] at cs
    have HCS := Lib.hid <| cs
    have HV := Lib.hid <| keV_no (d := d) fun h => hS h.sp
    clear cs hS
    go_enter Try.func34, Try.ntmps34
    go_wp2_with fail
    refine (HCS.out _ HA.out).mono ?_
    rintro e w1 ⟨rfl, hd1⟩
    have HB1 : Hid (Below w.heap.size w w1) := HA.out.trans (hd1.below _)
    have HM1 := Lib.hid (HEM.out _ (hd1.below _))
    clear hd1
    go_wp2
    go_ret
    rw [HV.out]
    exact ⟨_, rfl, .inl HM1.out, HB1.out⟩

end Go.Proofs.Ytknnelenmedonaa
