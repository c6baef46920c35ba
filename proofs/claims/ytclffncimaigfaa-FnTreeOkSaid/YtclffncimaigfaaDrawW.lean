/- What BelowOf, l20Ultra and DrawTreeOk hand back. Conditions: as each theorem says. -/
import Derived.Test.YtclffncimaigfaaDrawU
namespace Go.Proofs.Ytclffncimaigfaa
set_option linter.unusedVariables false
set_option linter.unusedSimpArgs false
open Go.RowKit Go.Deep

theorem far_fit {d : List (List Int)} (h : Far d) : Fit d.length 0 60 d := ⟨rfl, h.sq, fun i j hi hj => ⟨(h.ent i j hi hj).1, (h.ent i j hi hj).2.1⟩⟩
/-- What BelowOf leaves: rows that fit. -/
def BelP (w : World) (e : Ending) (w' : World) : Prop := ∃ v d, e = .returned v ∧ MMem w.heap.size w'.heap.size w' v d ∧ Dn d ∧ Below w.heap.size w w'
/-- What holds in the loops. -/
def InB (L H n b cap : Nat) (w wr : World) : Prop := (∃ d, MMem L H wr (.slice (some ⟨b, 0, none⟩) n cap) d ∧ Fit n 0 60 d) ∧ Below L w wr ∧ H ≤ wr.heap.size ∧ w.heap.size ≤ L

set_option maxRecDepth 100000 in
set_option maxHeartbeats 4000000 in
theorem below_any (lo hi : Nat) (v : Value) (d : List (List Int)) (w : World) (hd : MMem lo hi w v d) (hF : Far d) : Calls Try.prog 83 #[v] w (BelP w) := by
  have hfit := far_fit hF
  have hsix := hF.six
  have cs := specFarOk_any lo hi v d w hd
  rw [decP_yes hF] at cs
  have cc : ∀ w', Below w.heap.size w w' → Calls Try.prog 87 #[v] w' fun e w'' => ∃ r, e = .returned r ∧ MMem w'.heap.size w''.heap.size w'' r d ∧ Below w'.heap.size w' w'' := fun w' h => l2Copy_any lo hi v d w' (hd.fresh h) hsix (fun i hi => by rw [hF.sq i hi]; omega)
  obtain ⟨db, dc, _, _, rfl, -⟩ := id hd.open
  have HCS := Lib.hid <| cs
  have HCC := Lib.hid <| cc
  have HFI := Lib.hid hfit
  clear cs cc hd hF hfit
  go_enter Try.func83, Try.ntmps83
  go_wp2_with fail
  refine HCS.out.mono ?_
  rintro e w1 ⟨rfl, hd1⟩
  have HB1 : Hid (Below w.heap.size w w1) := hd1.below _
  clear hd1 HCS
  go_wp2_with fail
  refine (HCC.out _ HB1.out).mono ?_
  rintro e w2 ⟨r, rfl, hM, hb⟩
  obtain ⟨gb, gc, _, _, rfl, -⟩ := id hM.open
  have hB2 : Below w.heap.size w w2 := below_chain HB1.out hb
  have HI : Hid (InB w.heap.size w2.heap.size d.length gb gc w w2) := ⟨⟨d, hM.widen HB1.out.size (Nat.le_refl _), HFI.out⟩, hB2, Nat.le_refl _, Nat.le_refl _⟩
  clear hM hb hB2 HB1 HCC HFI
  generalize w2.heap.size = H at *
  go_wp2
  go_loopw [4] (fun mv wr => ∃ m : Nat, m ≤ d.length ∧ mv = .int .i64 m ∧ Hid (InB w.heap.size H d.length gb gc w wr)) (fun mv _ => d.length - (intOf mv).toNat)
  case atStart => exact ⟨0, Nat.zero_le _, rfl, HI⟩
  case round =>
    clear HI
    obtain ⟨m, hm, rfl, HI⟩ := hrel
    by_cases hml : m < d.length
    · have hmi : (m : Int) < (d.length : Int) := by omega
      go_wp2
      go_loopw [5] (fun kv wr => ∃ k : Nat, k ≤ d.length ∧ kv = .int .i64 k ∧ Hid (InB w.heap.size H d.length gb gc w wr)) (fun kv _ => d.length - (intOf kv).toNat)
      case atStart => exact ⟨0, Nat.zero_le _, rfl, HI⟩
      case round =>
        clear HI
        obtain ⟨k, hk, rfl, HI⟩ := hrel
        by_cases hkl : k < d.length
        · have hki : (k : Int) < (d.length : Int) := by omega
          go_wp2
          go_loopw [6] (fun jv wr => ∃ j : Nat, j ≤ d.length ∧ jv = .int .i64 j ∧ Hid (InB w.heap.size H d.length gb gc w wr)) (fun jv _ => d.length - (intOf jv).toNat)
          case atStart => exact ⟨0, Nat.zero_le _, rfl, HI⟩
          case round =>
            clear HI
            obtain ⟨j, hj, rfl, HI⟩ := hrel
            by_cases hjl : j < d.length
            · have hji : (j : Int) < (d.length : Int) := by omega
              obtain ⟨⟨D, hM, hF⟩, hB, hH, hL⟩ := HI.out
              obtain ⟨g, c, c1, g1, g2, hc, hfz, hset⟩ := hM.at_ (i := k) (by rw [hF.len]; exact hkl)
              obtain ⟨g', c', c2, _, _, hc', _, _⟩ := hM.at_ (i := m) (by rw [hF.len]; exact hml)
              rw [hF.rows k hkl] at c1 hc hset
              rw [hF.rows m hml] at c2 hc'
              have c3 := hc j hjl
              have c4 := hc m hml
              have c5 := hc' j hjl
              have f1 := hfz j
              have b1 := hF.bd k j hkl hjl
              have b2 := hF.bd k m hkl hml
              have b3 := hF.bd m j hml hjl
              have HN : Hid (∀ q x, 0 ≤ x → x ≤ 60 → InB w.heap.size H d.length gb gc w ((wr.drewN q).setCell ⟨g, j, none⟩ (.int .i64 x))) := fun q x h1 h2 => by
                have hs := (hset j x hjl).drewN q
                exact ⟨⟨_, hs, hF.set hkl hjl h1 h2⟩, (below_drewN hB q).setCell (p := ⟨g, j, none⟩) g1 _, by simp [World.setCell]; exact hH, hL⟩
              clear hset hc hc' hfz hM hF HI hB
              generalize at2 D k j = y1 at *
              generalize at2 D k m = y2 at *
              generalize at2 D m j = y3 at *
              go_wp2_with fail
              go_region
              all_goals go_wp2
              go_roundw
              case rel => exact ⟨j + 1, by omega, by go_num, HN.out 1 _ (by omega) (by omega)⟩
              case measure => simp [intOf]; omega
            · go_wp2
              go_roundw
              case rel => exact ⟨k + 1, by omega, by go_num, HI⟩
              case measure => simp [intOf]; omega
        · go_wp2
          go_roundw
          case rel => exact ⟨m + 1, by omega, by go_num, HI⟩
          case measure => simp [intOf]; omega
    · go_wp2
      go_ret
      obtain ⟨⟨D, hM, hF⟩, hB, hH, hL⟩ := HI.out
      exact ⟨_, D, rfl, hM.widen (Nat.le_refl _) hH, hF.dn hsix, hB⟩

set_option maxRecDepth 100000 in
set_option maxHeartbeats 2000000 in
theorem ultra_any (R k0 : Nat) (m : Int) (w : World) (h : Rd R k0 w) (hk : k0 ≤ 100) (hm1 : 1 ≤ m) (hm2 : m ≤ 1000) : Calls Try.prog 71 #[.pointer (some ⟨R, 0, none⟩), .int .i64 m] w (TreeP R k0 w) := by
  have hRw := h.lt
  have HP := Lib.hid <| space_any R k0 6 m w h (by omega) (by omega) (by omega) hm1 hm2
  clear h
  go_enter Try.func71, Try.ntmps71
  go_wp2_with fail
  refine HP.out.mono ?_
  rintro e w1 ⟨vd, d, rfl, hM, hd, hrd, hch⟩
  obtain ⟨db, dc, _, _, rfl, -⟩ := id hM.open
  have hs1 := hch.size
  have HS : Hid (FHold R (k0 + 64) w w1 (.slice (some ⟨db, 0, none⟩) d.length dc) d) := ⟨hM, hrd.more (by omega), hch, hRw⟩
  have HD := Lib.hid hd
  have cs := specFarOk_any _ _ _ _ w1 hM
  clear hM hd hrd hch HP
  by_cases hF : Far d
  · rw [decP_yes hF] at cs
    have HCS := Lib.hid <| cs
    have HF := Lib.hid hF
    clear cs hF
    go_wp2_with fail
    refine HCS.out.mono ?_
    rintro e w2 ⟨rfl, hd2⟩
    have HS2 : Hid (FHold R (k0 + 64) w w2 (.slice (some ⟨db, 0, none⟩) d.length dc) d) := by
      obtain ⟨h1, h2, h3, h4⟩ := HS.out
      exact ⟨(h1.dr hd2).top, h2.dr hd2, h3.trans hd2.chg, h4⟩
    clear hd2 HS HCS
    go_wp2_with fail
    refine (pick_any R _ 2 _ HS2.out.2.1 (by omega) (by omega) (by omega)).mono ?_
    rintro e w3 ⟨y, rfl, hy0, hy1, _, hrd, hch⟩
    have HS3 := Lib.hid (FHold.picked HS2.out hrd hch)
    clear hrd hch HS2
    by_cases hy : y = 0
    · have hyb : (y == 0) = true := by simpa using hy
      clear hy hy0 hy1
      go_wp2_with fail
      refine (below_any _ _ _ d _ HS3.out.1 HF.out).mono ?_
      rintro e w4 ⟨vb, D, rfl, hM, hD, hb⟩
      have HM := Lib.hid (hM.widen HS3.out.2.2.1.size (Nat.le_refl _))
      have HD4 := Lib.hid hD
      have HR4 := Lib.hid (HS3.out.2.1.fresh hb)
      have HC4 : Hid (Chg R (R + 1) w w4) := HS3.out.2.2.1.trans (chg_of_below hb)
      clear hM hD hb HS3
      go_wp2
      go_ret
      exact ⟨_, D, rfl, HM.out, HD4.out, HR4.out.more (by omega), HC4.out⟩
    · have hyb : (y == 0) = false := by simpa using hy
      clear hy hy0 hy1
      go_wp2
      go_ret
      obtain ⟨h1, h2, h3, h4⟩ := HS3.out
      exact ⟨_, d, rfl, h1, HD.out, h2.more (by omega), h3⟩
  · rw [decP_no hF] at cs
    have HCS := Lib.hid <| cs
    clear cs hF
    go_wp2_with fail
    refine HCS.out.mono ?_
    rintro e w2 ⟨rfl, hd2⟩
    have HS2 : Hid (FHold R (k0 + 64) w w2 (.slice (some ⟨db, 0, none⟩) d.length dc) d) := by
      obtain ⟨h1, h2, h3, h4⟩ := HS.out
      exact ⟨(h1.dr hd2).top, h2.dr hd2, h3.trans hd2.chg, h4⟩
    clear hd2 HS HCS
    go_wp2
    go_ret
    obtain ⟨h1, h2, h3, h4⟩ := HS2.out
    exact ⟨_, d, rfl, h1, HD.out, h2.more (by omega), h3⟩

set_option maxHeartbeats 1000000 in
theorem drawTreeOk_any (v : Value) (n : Nat) (w : World) (h : BIn w v n) : Calls Try.prog 44 #[v] w (DrewT w) := by
  go_enter Try.func44, Try.ntmps44
  go_wp2_with fail
  refine (open_any v n w h).mono ?_
  rintro e w1 ⟨rfl, hrd, hb⟩
  have hl := hrd.lt
  have HL := Lib.hid hl
  have HB := Lib.hid hb
  clear hl hb h
  go_wp2_with fail
  refine (pick_any _ 0 3 _ hrd (by omega) (by omega) (by omega)).mono ?_
  clear hrd
  rintro e w2 ⟨y, rfl, hy0, hy1, _, hrd, hch⟩
  have HB2 : Hid (Below w.heap.size w w2) := HB.out.trans (hch.below HB.out.size (Nat.le_refl _))
  clear hch
  by_cases hy : y = 0
  · have hyb : (y == 0) = true := by simpa using hy
    clear hy hy0 hy1
    go_wp2_with fail
    refine (ultra_any _ _ 6 _ hrd (by omega) (by omega) (by omega)).mono ?_
    clear hrd
    rintro e w3 ⟨vd, d, rfl, hM, hd, hrd, hch⟩
    have HM := Lib.hid (hM.widen (Nat.zero_le _) (Nat.le_refl _))
    have HD := Lib.hid hd
    have HB3 : Hid (Below w.heap.size w w3) := HB2.out.trans (hch.below HB2.out.size (Nat.le_refl _))
    clear hM hd hch hrd
    go_wp2
    go_ret
    exact ⟨vd, d, rfl, HM.out, HD.out, HB3.out⟩
  · have hyb : (y == 0) = false := by simpa using hy
    clear hy hy0 hy1
    go_wp2_with fail
    refine (tree_any _ _ 6 _ hrd (by omega) (by omega) (by omega)).mono ?_
    clear hrd
    rintro e w3 ⟨vd, d, rfl, hM, hd, hrd, hch⟩
    have HM := Lib.hid (hM.widen (Nat.zero_le _) (Nat.le_refl _))
    have HD := Lib.hid hd
    have HB3 : Hid (Below w.heap.size w w3) := HB2.out.trans (hch.below HB2.out.size (Nat.le_refl _))
    clear hM hd hch hrd
    go_wp2
    go_ret
    exact ⟨vd, d, rfl, HM.out, HD.out, HB3.out⟩

end Go.Proofs.Ytclffncimaigfaa
