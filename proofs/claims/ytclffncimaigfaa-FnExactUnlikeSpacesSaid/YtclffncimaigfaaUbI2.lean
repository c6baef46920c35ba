/- What impl.UnlikeBy returns. Conditions: as each theorem says. -/
import Derived.Test.YtclffncimaigfaaUbI
import Derived.Test.YtclffncimaigfaaLawKit
namespace Go.Proofs.Ytclffncimaigfaa
set_option linter.unusedVariables false
set_option linter.unusedSimpArgs false
open Go.RowKit Go.Deep

/-- The points of both spaces that are told by the first k pairs, as two rows of the call's own. -/
structure BTwo (w wr : World) (bf bg : Nat) (d e ps : List (List Int)) (k : Nat) : Prop where
  ne : bf ≠ bg
  f : wr.rowIs bf 4 d.length (fun i => .bool (decP (CovA ps k i)))
  g : wr.rowIs bg 4 e.length (fun i => .bool (decP (CovB ps k i)))
  lf : w.heap.size ≤ bf
  lg : w.heap.size ≤ bg
  bel : Below w.heap.size w wr
  ok : ∀ q, q < k → PairOk d e (row ps q)
theorem BTwo.step {w wr : World} {bf bg : Nat} {d e ps : List (List Int)} {k : Nat} (h : BTwo w wr bf bg d e ps k) (hk : PairOk d e (row ps k)) :
    BTwo w ((wr.setCell ⟨bf, pa ps k, none⟩ (.bool true)).setCell ⟨bg, pb ps k, none⟩ (.bool true)) bf bg d e ps (k + 1) := by
  refine ⟨h.ne, ((h.f.set _ _).setOther (a := ⟨bg, pb ps k, none⟩) h.ne _).congr fun i hi => ?_, ((h.g.setOther (a := ⟨bf, pa ps k, none⟩) h.ne.symm _).set _ _).congr fun i hi => ?_, h.lf, h.lg, (h.bel.setCell h.lf _).setCell h.lg _, fun q hq => ?_⟩
  · by_cases e1 : i = pa ps k
    · rw [if_pos e1, decP_yes (covA_succ.1 (Or.inr e1))]
    · rw [if_neg e1, show CovA ps k i = CovA ps (k + 1) i from propext ⟨fun x => covA_succ.1 (Or.inl x), fun x => (covA_succ.2 x).elim id fun y => absurd y e1⟩]
  · by_cases e1 : i = pb ps k
    · rw [if_pos e1, decP_yes (covB_succ.1 (Or.inr e1))]
    · rw [if_neg e1, show CovB ps k i = CovB ps (k + 1) i from propext ⟨fun x => covB_succ.1 (Or.inl x), fun x => (covB_succ.2 x).elim id fun y => absurd y e1⟩]
  · by_cases e1 : q < k
    · exact h.ok q e1
    · have : q = k := by omega
      subst this; exact hk
theorem BTwo.dr {w wr wr' : World} {bf bg : Nat} {d e ps : List (List Int)} {k : Nat} (h : BTwo w wr bf bg d e ps k) (hd : Dr wr wr') : BTwo w wr' bf bg d e ps k := by
  obtain ⟨n, rfl⟩ := hd
  exact ⟨h.ne, h.f, h.g, h.lf, h.lg, below_drewN h.bel n, h.ok⟩
theorem made_none (w : World) (b n : Nat) (S : Nat → Prop) (hS : ∀ i, ¬ S i) (h : w.rowIs b 4 n (fun _ => .bool false)) : w.rowIs b 4 n (fun i => .bool (decP (S i))) :=
  h.congr fun i _ => by rw [decP_no (hS i)]
theorem BTwo.start {w wr : World} {bf bg : Nat} {d e ps : List (List Int)} (hne : bf ≠ bg) (hf : wr.rowIs bf 4 d.length (fun _ => .bool false)) (hg : wr.rowIs bg 4 e.length (fun _ => .bool false))
    (lf : w.heap.size ≤ bf) (lg : w.heap.size ≤ bg) (bel : Below w.heap.size w wr) : BTwo w wr bf bg d e ps 0 :=
  ⟨hne, made_none _ _ _ _ (fun i => fun h => covA_zero.2 h) hf, made_none _ _ _ _ (fun i => fun h => covB_zero.2 h) hg, lf, lg, bel, fun q hq => absurd hq (by omega)⟩
theorem two_first (w : World) (m : Nat) (o : Obj) : ((w.alloc (.cells (madeCells #[.bool false] m) 4)).alloc o).rowIs w.heap.size 4 m (fun _ => .bool false) := (World.rowIs_made w (.bool false) m 4).alloc _
theorem two_second (w : World) (n : Nat) (o : Obj) : ((w.alloc o).alloc (.cells (madeCells #[.bool false] n) 4)).rowIs (w.heap.size + 1) 4 n (fun _ => .bool false) := by
  have := World.rowIs_made (w.alloc o) (.bool false) n 4
  simpa using this
theorem two_below (w : World) (o o' : Obj) : Below w.heap.size w ((w.alloc o).alloc o') := ((Below.refl _ _).alloc (Nat.le_refl _) _).alloc (by simp) _

set_option maxRecDepth 100000 in
set_option maxHeartbeats 4000000 in
theorem implUnlikeBy_any (lo hi lo' hi' lo2 hi2 : Nat) (v u x : Value) (d e ps : List (List Int)) (w : World) (hd : MMem lo hi w v d) (he : MMem lo' hi' w u e) (hp : MMem lo2 hi2 w x ps) :
    Calls Try.prog 32 #[v, u, x] w (Gives (.int .i64 (ubV d e ps)) w) := by
  have c1 := isSpace_any lo hi v d w hd
  have c2 : ∀ w', Dr w w' → Calls Try.prog 61 #[u] w' (Quiet (.bool (decP (Space e))) w') := fun w' h => isSpace_any lo' hi' u e w' (he.dr h)
  obtain ⟨pbb, pc, BP, CP, rfl, hPO⟩ := hp.popen
  by_cases hS : Space d
  · rw [decP_yes hS] at c1
    have C1 := Lib.hid <| c1
    by_cases hE : Space e
    · simp only [decP_yes hE] at c2
      have C2 := Lib.hid <| c2
      obtain ⟨db, dc, DB, DC, rfl, hO⟩ := hd.space hS
      obtain ⟨eb, ec, EB, EC, rfl, hOe⟩ := he.space hE
      have hs6 := hS.six
      have he6 := hE.six
      have HO := Lib.hid <| hO
      have HOE := Lib.hid <| hOe
      have HPO := Lib.hid <| hPO
      by_cases h9 : ps.length ≤ 9
      · have h9n : decide (9 < ps.length) = false := decide_eq_false (by omega)
        have h9i : decide ((9 : Int) < (ps.length : Int)) = false := decide_eq_false (by omega)
        have HUB : Hid (∀ (hk : ∀ q, q < ps.length → PairOk d e (row ps q)) (ha : ∀ i, i < d.length → CovA ps ps.length i) (hb : ∀ i, i < e.length → CovB ps ps.length i), UbOk d e ps) := fun hk ha hb => ⟨hS, hE, h9, hk, ha, hb⟩
        have HNO : Hid (∀ q, q < ps.length → ¬ PairOk d e (row ps q) → ubV d e ps = -1) := fun q hq hn => ubV_no fun h => hn (h.ok q hq)
        have hmk1 := run_make_row' (P := Try.prog) 57 4 (.bool false) 1 Try.underlying57 info_bool rfl .i64 .i64 d.length (by omega) (by omega)
        have hmk2 := run_make_row' (P := Try.prog) 57 4 (.bool false) 1 Try.underlying57 info_bool rfl .i64 .i64 e.length (by omega) (by omega)
        clear c1 c2 hd he hp hO hOe hPO hS hE
        go_enter Try.func32, Try.ntmps32
        go_wp2_with fail
        refine (C1.out).mono ?_
        rintro e w1 ⟨rfl, hd_w1⟩
        have HW1 : Hid (Dr _ w1) := hd_w1
        clear hd_w1
        go_wp2_with fail
        refine (C2.out _ HW1.out).mono ?_
        rintro e2 w2 ⟨rfl, hd2⟩
        have HW : Hid (Dr w w2) := HW1.out.trans hd2
        clear hd2 HW1 C1 C2
        have HPO2 : Hid (POpen w2 pbb BP CP ps) := HPO.out.dr HW.out
        clear HPO
        go_wp2_with fail
        go_region
        · have HB0 : Hid (BTwo w2 _ w2.heap.size (w2.heap.size + 1) d e ps 0) := BTwo.start (by omega) (two_first w2 _ _) (two_second w2 _ _) (Nat.le_refl _) (Nat.le_succ _) (two_below w2 _ _)
          generalize w2.heap.size + 1 = bg at HB0 ⊢
          generalize w2.heap.size = bf at HB0 ⊢
          clear hmk1 hmk2
          go_wp2
          go_loopw [32] (fun kv wr => ∃ k : Nat, k ≤ ps.length ∧ kv = .int .i64 k ∧ Hid (BTwo w2 wr bf bg d e ps k)) (fun kv _ => ps.length - (intOf kv).toNat)
          case atStart => first
            | exact ⟨0, Nat.zero_le _, rfl, HB0⟩
            | exact ⟨0, Nat.zero_le _, rfl, HB0.out.dr ⟨_, rfl⟩⟩
          case round =>
            clear HB0 h9n h9i
            obtain ⟨k, hk, rfl, HB⟩ := hrel
            by_cases hkl : k < ps.length
            · have hki : (k : Int) < (ps.length : Int) := by omega
              have c1 := (HPO2.out.keep HB.out.bel).top k hkl
              by_cases h2 : (row ps k).length = 2
              · rw [h2] at c1
                have g0 := (HPO2.out.keep HB.out.bel).cell k 0 hkl (by omega)
                have g1 := (HPO2.out.keep HB.out.bel).cell k 1 hkl (by omega)
                by_cases hA : at2 ps k 0 < 0
                · have HV := Lib.hid (HNO.out k hkl fun h => by have := h.a0; have : iat (row ps k) 0 = at2 ps k 0 := rfl; omega)
                  clear g1
                  go_wp2
                  go_ret
                  exact ⟨by rw [HV.out]; rfl, below_chain (HW.out.below _) HB.out.bel⟩
                · have hAn : decide (at2 ps k 0 < 0) = false := decide_eq_false hA
                  by_cases hA2 : (d.length : Int) ≤ at2 ps k 0
                  · have HV := Lib.hid (HNO.out k hkl fun h => by have := h.a1; have : iat (row ps k) 0 = at2 ps k 0 := rfl; omega)
                    clear g1
                    go_wp2
                    go_ret
                    exact ⟨by rw [HV.out]; rfl, below_chain (HW.out.below _) HB.out.bel⟩
                  · have hA2n : decide ((d.length : Int) ≤ at2 ps k 0) = false := decide_eq_false hA2
                    by_cases hB : at2 ps k 1 < 0
                    · have HV := Lib.hid (HNO.out k hkl fun h => by have := h.b0; have : iat (row ps k) 1 = at2 ps k 1 := rfl; omega)
                      go_wp2
                      go_ret
                      exact ⟨by rw [HV.out]; rfl, below_chain (HW.out.below _) HB.out.bel⟩
                    · have hBn : decide (at2 ps k 1 < 0) = false := decide_eq_false hB
                      by_cases hB2 : (e.length : Int) ≤ at2 ps k 1
                      · have HV := Lib.hid (HNO.out k hkl fun h => by have := h.b1; have : iat (row ps k) 1 = at2 ps k 1 := rfl; omega)
                        go_wp2
                        go_ret
                        exact ⟨by rw [HV.out]; rfl, below_chain (HW.out.below _) HB.out.bel⟩
                      · have hB2n : decide ((e.length : Int) ≤ at2 ps k 1) = false := decide_eq_false hB2
                        have hok : PairOk d e (row ps k) := ⟨h2, by have : iat (row ps k) 0 = at2 ps k 0 := rfl; omega, by have : iat (row ps k) 0 = at2 ps k 0 := rfl; omega, by have : iat (row ps k) 1 = at2 ps k 1 := rfl; omega, by have : iat (row ps k) 1 = at2 ps k 1 := rfl; omega⟩
                        obtain ⟨p1, p2, p3, p4⟩ := pair_pa hok
                        have q1 : at2 ps k 0 = ((pa ps k : Nat) : Int) := p1.symm
                        have q2 : at2 ps k 1 = ((pb ps k : Nat) : Int) := p3.symm
                        have f1 := HB.out.f.cell p2
                        have f2 := HB.out.f.frozen (pa ps k)
                        have hne := HB.out.ne
                        have f3 := (HB.out.g.setOther (a := ⟨bf, pa ps k, none⟩) hne.symm (.bool true)).cell p4
                        have f4 := (HB.out.g.setOther (a := ⟨bf, pa ps k, none⟩) hne.symm (.bool true)).frozen (pb ps k)
                        have g1' := (HPO2.out.keep (HB.out.bel.setCell (p := ⟨bf, pa ps k, none⟩) HB.out.lf (.bool true))).cell k 1 hkl (by omega)
                        rw [q1] at g0
                        rw [q2] at g1 g1'
                        have HN : Hid (BTwo w2 _ bf bg d e ps (k + 1)) := HB.out.step hok
                        have p2i : ((pa ps k : Nat) : Int) < (d.length : Int) := by omega
                        have p4i : ((pb ps k : Nat) : Int) < (e.length : Int) := by omega
                        clear hok p1 p3 q1 q2 hA hB hA2 hB2 hAn hBn hA2n hB2n h2 HB hne
                        go_wp2
                        go_wp2
                        go_roundw
                        case rel => exact ⟨k + 1, by omega, by go_num, HN⟩
                        case measure => simp [intOf]; omega
              · have HV := Lib.hid (HNO.out k hkl fun h => h2 h.two)
                have h2b : (((row ps k).length : Int) != 2) = true := by simpa using (show ¬ ((row ps k).length : Int) = 2 by omega)
                go_wp2
                go_ret
                exact ⟨by rw [HV.out]; rfl, below_chain (HW.out.below _) HB.out.bel⟩
            · have hke : k = ps.length := by omega
              subst hke
              have ca := boolsContains_any bf d.length (fun i => decP (CovA ps ps.length i)) wr hs6 HB.out.f
              have cb : ∀ w', Dr wr w' → Calls Try.prog 62 #[.slice (some ⟨bg, 0, none⟩) e.length e.length, .bool false] w' (Quiet (.bool (decP (∃ i, i < e.length ∧ decP (CovB ps ps.length i) = false))) w') := fun w' h => boolsContains_any bg e.length (fun i => decP (CovB ps ps.length i)) w' he6 (HB.out.dr h).g
              by_cases hA : ∃ i, i < d.length ∧ decP (CovA ps ps.length i) = false
              · rw [decP_yes hA] at ca
                have CA := Lib.hid <| ca
                have HV := Lib.hid <| ubV_no (d := d) (e := e) (ps := ps) fun h => by
                  obtain ⟨i, hi, e1⟩ := hA
                  rw [decP_yes (show CovA ps ps.length i from h.ca i hi)] at e1
                  cases e1
                clear ca cb hA
                go_wp2_with fail
                refine (CA.out).mono ?_
                rintro e w3 ⟨rfl, hd_w3⟩
                have HX : Hid (Dr _ w3) := hd_w3
                clear hd_w3
                go_wp2
                go_ret
                exact ⟨by rw [HV.out]; rfl, below_chain (HW.out.below _) (HB.out.bel.trans (HX.out.below _))⟩
              · rw [decP_no hA] at ca
                have CA := Lib.hid <| ca
                by_cases hB : ∃ i, i < e.length ∧ decP (CovB ps ps.length i) = false
                · simp only [decP_yes hB] at cb
                  have CB := Lib.hid <| cb
                  have HV := Lib.hid <| ubV_no (d := d) (e := e) (ps := ps) fun h => by
                    obtain ⟨i, hi, e1⟩ := hB
                    rw [decP_yes (show CovB ps ps.length i from h.cb i hi)] at e1
                    cases e1
                  clear ca cb hA hB
                  go_wp2_with fail
                  refine (CA.out).mono ?_
                  rintro e w3 ⟨rfl, hd_w3⟩
                  have HX : Hid (Dr _ w3) := hd_w3
                  clear hd_w3
                  go_wp2_with fail
                  refine (CB.out _ HX.out).mono ?_
                  rintro e w4 ⟨rfl, hd_w4⟩
                  have HX2 : Hid (Dr _ w4) := HX.out.trans hd_w4
                  clear hd_w4 HX
                  go_wp2
                  go_ret
                  exact ⟨by rw [HV.out]; rfl, below_chain (HW.out.below _) (HB.out.bel.trans (HX2.out.below _))⟩
                · simp only [decP_no hB] at cb
                  have CB := Lib.hid <| cb
                  have HU : Hid (UbOk d e ps) := HUB.out HB.out.ok (fun i hi => by
                    by_cases e1 : CovA ps ps.length i
                    · exact e1
                    · exact absurd ⟨i, hi, decP_no e1⟩ hA) (fun i hi => by
                    by_cases e1 : CovB ps ps.length i
                    · exact e1
                    · exact absurd ⟨i, hi, decP_no e1⟩ hB)
                  have CU : Hid (∀ w', Dr wr w' → Calls Try.prog 63 #[.slice (some ⟨db, 0, none⟩) d.length dc, .slice (some ⟨eb, 0, none⟩) e.length ec, .slice (some ⟨pbb, 0, none⟩) ps.length pc] w' (Quiet (.int .i64 (ubV d e ps)) w')) := fun w' h =>
                    unlikeBy_any d e ps pbb pc db dc eb ec BP CP DB DC EB EC w' (((HO.out.dr HW.out).keep HB.out.bel).dr h) (((HOE.out.dr HW.out).keep HB.out.bel).dr h) ((HPO2.out.keep HB.out.bel).dr h) HU.out
                  clear ca cb hA hB
                  go_wp2_with fail
                  refine (CA.out).mono ?_
                  rintro e w3 ⟨rfl, hd_w3⟩
                  have HX : Hid (Dr _ w3) := hd_w3
                  clear hd_w3
                  go_wp2_with fail
                  refine (CB.out _ HX.out).mono ?_
                  rintro e w4 ⟨rfl, hd_w4⟩
                  have HX2 : Hid (Dr _ w4) := HX.out.trans hd_w4
                  clear hd_w4 HX
                  go_wp2_with fail
                  refine (CU.out _ HX2.out).mono ?_
                  rintro e w5 ⟨rfl, hd_w5⟩
                  have HX3 : Hid (Dr _ w5) := HX2.out.trans hd_w5
                  clear hd_w5 HX2
                  go_wp2
                  go_ret
                  exact ⟨rfl, below_chain (HW.out.below _) (HB.out.bel.trans (HX3.out.below _))⟩
        · have HB0 : Hid (BTwo w2 _ (w2.heap.size + 1) w2.heap.size d e ps 0) := BTwo.start (by omega) (two_second w2 _ _) (two_first w2 _ _) (Nat.le_succ _) (Nat.le_refl _) (two_below w2 _ _)
          generalize w2.heap.size + 1 = bf at HB0 ⊢
          generalize w2.heap.size = bg at HB0 ⊢
          clear hmk1 hmk2
          go_wp2
          go_loopw [32] (fun kv wr => ∃ k : Nat, k ≤ ps.length ∧ kv = .int .i64 k ∧ Hid (BTwo w2 wr bf bg d e ps k)) (fun kv _ => ps.length - (intOf kv).toNat)
          case atStart => first
            | exact ⟨0, Nat.zero_le _, rfl, HB0⟩
            | exact ⟨0, Nat.zero_le _, rfl, HB0.out.dr ⟨_, rfl⟩⟩
          case round =>
            clear HB0 h9n h9i
            obtain ⟨k, hk, rfl, HB⟩ := hrel
            by_cases hkl : k < ps.length
            · have hki : (k : Int) < (ps.length : Int) := by omega
              have c1 := (HPO2.out.keep HB.out.bel).top k hkl
              by_cases h2 : (row ps k).length = 2
              · rw [h2] at c1
                have g0 := (HPO2.out.keep HB.out.bel).cell k 0 hkl (by omega)
                have g1 := (HPO2.out.keep HB.out.bel).cell k 1 hkl (by omega)
                by_cases hA : at2 ps k 0 < 0
                · have HV := Lib.hid (HNO.out k hkl fun h => by have := h.a0; have : iat (row ps k) 0 = at2 ps k 0 := rfl; omega)
                  clear g1
                  go_wp2
                  go_ret
                  exact ⟨by rw [HV.out]; rfl, below_chain (HW.out.below _) HB.out.bel⟩
                · have hAn : decide (at2 ps k 0 < 0) = false := decide_eq_false hA
                  by_cases hA2 : (d.length : Int) ≤ at2 ps k 0
                  · have HV := Lib.hid (HNO.out k hkl fun h => by have := h.a1; have : iat (row ps k) 0 = at2 ps k 0 := rfl; omega)
                    clear g1
                    go_wp2
                    go_ret
                    exact ⟨by rw [HV.out]; rfl, below_chain (HW.out.below _) HB.out.bel⟩
                  · have hA2n : decide ((d.length : Int) ≤ at2 ps k 0) = false := decide_eq_false hA2
                    by_cases hB : at2 ps k 1 < 0
                    · have HV := Lib.hid (HNO.out k hkl fun h => by have := h.b0; have : iat (row ps k) 1 = at2 ps k 1 := rfl; omega)
                      go_wp2
                      go_ret
                      exact ⟨by rw [HV.out]; rfl, below_chain (HW.out.below _) HB.out.bel⟩
                    · have hBn : decide (at2 ps k 1 < 0) = false := decide_eq_false hB
                      by_cases hB2 : (e.length : Int) ≤ at2 ps k 1
                      · have HV := Lib.hid (HNO.out k hkl fun h => by have := h.b1; have : iat (row ps k) 1 = at2 ps k 1 := rfl; omega)
                        go_wp2
                        go_ret
                        exact ⟨by rw [HV.out]; rfl, below_chain (HW.out.below _) HB.out.bel⟩
                      · have hB2n : decide ((e.length : Int) ≤ at2 ps k 1) = false := decide_eq_false hB2
                        have hok : PairOk d e (row ps k) := ⟨h2, by have : iat (row ps k) 0 = at2 ps k 0 := rfl; omega, by have : iat (row ps k) 0 = at2 ps k 0 := rfl; omega, by have : iat (row ps k) 1 = at2 ps k 1 := rfl; omega, by have : iat (row ps k) 1 = at2 ps k 1 := rfl; omega⟩
                        obtain ⟨p1, p2, p3, p4⟩ := pair_pa hok
                        have q1 : at2 ps k 0 = ((pa ps k : Nat) : Int) := p1.symm
                        have q2 : at2 ps k 1 = ((pb ps k : Nat) : Int) := p3.symm
                        have f1 := HB.out.f.cell p2
                        have f2 := HB.out.f.frozen (pa ps k)
                        have hne := HB.out.ne
                        have f3 := (HB.out.g.setOther (a := ⟨bf, pa ps k, none⟩) hne.symm (.bool true)).cell p4
                        have f4 := (HB.out.g.setOther (a := ⟨bf, pa ps k, none⟩) hne.symm (.bool true)).frozen (pb ps k)
                        have g1' := (HPO2.out.keep (HB.out.bel.setCell (p := ⟨bf, pa ps k, none⟩) HB.out.lf (.bool true))).cell k 1 hkl (by omega)
                        rw [q1] at g0
                        rw [q2] at g1 g1'
                        have HN : Hid (BTwo w2 _ bf bg d e ps (k + 1)) := HB.out.step hok
                        have p2i : ((pa ps k : Nat) : Int) < (d.length : Int) := by omega
                        have p4i : ((pb ps k : Nat) : Int) < (e.length : Int) := by omega
                        clear hok p1 p3 q1 q2 hA hB hA2 hB2 hAn hBn hA2n hB2n h2 HB hne
                        go_wp2
                        go_wp2
                        go_roundw
                        case rel => exact ⟨k + 1, by omega, by go_num, HN⟩
                        case measure => simp [intOf]; omega
              · have HV := Lib.hid (HNO.out k hkl fun h => h2 h.two)
                have h2b : (((row ps k).length : Int) != 2) = true := by simpa using (show ¬ ((row ps k).length : Int) = 2 by omega)
                go_wp2
                go_ret
                exact ⟨by rw [HV.out]; rfl, below_chain (HW.out.below _) HB.out.bel⟩
            · have hke : k = ps.length := by omega
              subst hke
              have ca := boolsContains_any bf d.length (fun i => decP (CovA ps ps.length i)) wr hs6 HB.out.f
              have cb : ∀ w', Dr wr w' → Calls Try.prog 62 #[.slice (some ⟨bg, 0, none⟩) e.length e.length, .bool false] w' (Quiet (.bool (decP (∃ i, i < e.length ∧ decP (CovB ps ps.length i) = false))) w') := fun w' h => boolsContains_any bg e.length (fun i => decP (CovB ps ps.length i)) w' he6 (HB.out.dr h).g
              by_cases hA : ∃ i, i < d.length ∧ decP (CovA ps ps.length i) = false
              · rw [decP_yes hA] at ca
                have CA := Lib.hid <| ca
                have HV := Lib.hid <| ubV_no (d := d) (e := e) (ps := ps) fun h => by
                  obtain ⟨i, hi, e1⟩ := hA
                  rw [decP_yes (show CovA ps ps.length i from h.ca i hi)] at e1
                  cases e1
                clear ca cb hA
                go_wp2_with fail
                refine (CA.out).mono ?_
                rintro e w3 ⟨rfl, hd_w3⟩
                have HX : Hid (Dr _ w3) := hd_w3
                clear hd_w3
                go_wp2
                go_ret
                exact ⟨by rw [HV.out]; rfl, below_chain (HW.out.below _) (HB.out.bel.trans (HX.out.below _))⟩
              · rw [decP_no hA] at ca
                have CA := Lib.hid <| ca
                by_cases hB : ∃ i, i < e.length ∧ decP (CovB ps ps.length i) = false
                · simp only [decP_yes hB] at cb
                  have CB := Lib.hid <| cb
                  have HV := Lib.hid <| ubV_no (d := d) (e := e) (ps := ps) fun h => by
                    obtain ⟨i, hi, e1⟩ := hB
                    rw [decP_yes (show CovB ps ps.length i from h.cb i hi)] at e1
                    cases e1
                  clear ca cb hA hB
                  go_wp2_with fail
                  refine (CA.out).mono ?_
                  rintro e w3 ⟨rfl, hd_w3⟩
                  have HX : Hid (Dr _ w3) := hd_w3
                  clear hd_w3
                  go_wp2_with fail
                  refine (CB.out _ HX.out).mono ?_
                  rintro e w4 ⟨rfl, hd_w4⟩
                  have HX2 : Hid (Dr _ w4) := HX.out.trans hd_w4
                  clear hd_w4 HX
                  go_wp2
                  go_ret
                  exact ⟨by rw [HV.out]; rfl, below_chain (HW.out.below _) (HB.out.bel.trans (HX2.out.below _))⟩
                · simp only [decP_no hB] at cb
                  have CB := Lib.hid <| cb
                  have HU : Hid (UbOk d e ps) := HUB.out HB.out.ok (fun i hi => by
                    by_cases e1 : CovA ps ps.length i
                    · exact e1
                    · exact absurd ⟨i, hi, decP_no e1⟩ hA) (fun i hi => by
                    by_cases e1 : CovB ps ps.length i
                    · exact e1
                    · exact absurd ⟨i, hi, decP_no e1⟩ hB)
                  have CU : Hid (∀ w', Dr wr w' → Calls Try.prog 63 #[.slice (some ⟨db, 0, none⟩) d.length dc, .slice (some ⟨eb, 0, none⟩) e.length ec, .slice (some ⟨pbb, 0, none⟩) ps.length pc] w' (Quiet (.int .i64 (ubV d e ps)) w')) := fun w' h =>
                    unlikeBy_any d e ps pbb pc db dc eb ec BP CP DB DC EB EC w' (((HO.out.dr HW.out).keep HB.out.bel).dr h) (((HOE.out.dr HW.out).keep HB.out.bel).dr h) ((HPO2.out.keep HB.out.bel).dr h) HU.out
                  clear ca cb hA hB
                  go_wp2_with fail
                  refine (CA.out).mono ?_
                  rintro e w3 ⟨rfl, hd_w3⟩
                  have HX : Hid (Dr _ w3) := hd_w3
                  clear hd_w3
                  go_wp2_with fail
                  refine (CB.out _ HX.out).mono ?_
                  rintro e w4 ⟨rfl, hd_w4⟩
                  have HX2 : Hid (Dr _ w4) := HX.out.trans hd_w4
                  clear hd_w4 HX
                  go_wp2_with fail
                  refine (CU.out _ HX2.out).mono ?_
                  rintro e w5 ⟨rfl, hd_w5⟩
                  have HX3 : Hid (Dr _ w5) := HX2.out.trans hd_w5
                  clear hd_w5 HX2
                  go_wp2
                  go_ret
                  exact ⟨rfl, below_chain (HW.out.below _) (HB.out.bel.trans (HX3.out.below _))⟩
      · have h9n : decide (9 < ps.length) = true := decide_eq_true (by omega)
        have h9i : decide ((9 : Int) < (ps.length : Int)) = true := decide_eq_true (by omega)
        have HV := Lib.hid <| ubV_no (d := d) (e := e) (ps := ps) fun h => h9 h.nine
        clear c1 c2 hd he hp hO hOe hPO hS hE h9
        go_enter Try.func32, Try.ntmps32
        go_wp2_with fail
        refine (C1.out).mono ?_
        rintro e w1 ⟨rfl, hd_w1⟩
        have HW1 : Hid (Dr _ w1) := hd_w1
        clear hd_w1
        go_wp2_with fail
        refine (C2.out _ HW1.out).mono ?_
        rintro e2 w2 ⟨rfl, hd2⟩
        have HW : Hid (Dr w w2) := HW1.out.trans hd2
        clear hd2 HW1
        go_wp2
        go_ret
        exact ⟨by rw [HV.out]; rfl, HW.out.below _⟩
    · simp only [decP_no hE] at c2
      have C2 := Lib.hid <| c2
      have HV := Lib.hid <| ubV_no (d := d) (e := e) (ps := ps) fun h => hE h.b
      obtain ⟨db, dc, _, _, rfl, _⟩ := hd.open
      obtain ⟨eb, ec, _, _, rfl, _⟩ := he.open
      clear c1 c2 hd he hp hPO hS hE
      go_enter Try.func32, Try.ntmps32
      go_wp2_with fail
      refine (C1.out).mono ?_
      rintro e w1 ⟨rfl, hd_w1⟩
      have HW1 : Hid (Dr _ w1) := hd_w1
      clear hd_w1
      go_wp2_with fail
      refine (C2.out _ HW1.out).mono ?_
      rintro e2 w2 ⟨rfl, hd2⟩
      have HW : Hid (Dr w w2) := HW1.out.trans hd2
      clear hd2 HW1
      go_wp2
      go_ret
      exact ⟨by rw [HV.out]; rfl, HW.out.below _⟩
  · rw [decP_no hS] at c1
    have C1 := Lib.hid <| c1
    have HV := Lib.hid <| ubV_no (d := d) (e := e) (ps := ps) fun h => hS h.a
    obtain ⟨db, dc, _, _, rfl, _⟩ := hd.open
    obtain ⟨eb, ec, _, _, rfl, _⟩ := he.open
    clear c1 c2 hd he hp hPO hS
    go_enter Try.func32, Try.ntmps32
    go_wp2_with fail
    refine (C1.out).mono ?_
    rintro e w1 ⟨rfl, hd_w1⟩
    have HW : Hid (Dr _ w1) := hd_w1
    clear hd_w1
    go_wp2
    go_ret
    exact ⟨by rw [HV.out]; rfl, HW.out.below _⟩

end Go.Proofs.Ytclffncimaigfaa
