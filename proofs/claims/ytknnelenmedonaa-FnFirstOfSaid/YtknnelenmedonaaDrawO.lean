/- The draws of chapter 7. Conditions: as each theorem says. -/
import Derived.Test.YtknnelenmedonaaDraw4
import Derived.Test.YtknnelenmedonaaOrdY
import Derived.StillTailTactics
namespace Go.Proofs.Ytknnelenmedonaa
set_option linter.unusedVariables false
set_option linter.unusedSimpArgs false
open Go.RowKit Go.Deep

/-- What holds while a row is drawn. -/
def InO (R k : Nat) (w wr : World) (v : Value) (f : List Int) : Prop := IMem w.heap.size wr.heap.size wr v f ∧ Rd R k wr ∧ Chg R (R + 1) w wr ∧ R + 1 ≤ w.heap.size
section
variable {R k k' : Nat} {w wr w' : World} {v v' : Value} {f f' : List Int}
theorem InO.picked (h : InO R k w wr v f) (hr : Rd R k' w') (hc : Chg R (R + 1) wr w') : InO R k' w w' v f := by
  obtain ⟨h1, h2, h3, h4⟩ := h
  exact ⟨(h1.chg hc (Or.inr h4)).top, hr, h3.trans hc, h4⟩
theorem InO.grown (h : InO R k w wr v f) (hI : IMem w.heap.size w'.heap.size w' v' f') (hb : Below w.heap.size wr w') : InO R k w w' v' f' := by
  obtain ⟨h1, h2, h3, h4⟩ := h
  exact ⟨hI, h2.chg (chg_below hb) h4, h3.since (chg_below hb) (Nat.le_refl _), h4⟩
theorem InO.stored {b n c i : Nat} {x : Int} (h : InO R k w wr (.slice (some ⟨b, 0, none⟩) n c) f) (hi : i < f.length) : InO R k w (wr.setCell ⟨b, i, none⟩ (.int .i64 x)) (.slice (some ⟨b, 0, none⟩) n c) (f.set i x) := by
  have h1 := h.1
  obtain ⟨b', c', hv, k1, k2, k3, -⟩ := h1.open
  injection hv with e1
  injection e1 with e1
  injection e1 with e1
  subst e1
  exact h.grown ((h1.set (by simp) i (by rw [iat_set hi, if_pos rfl]) (fun j hj hne => by rw [iat_set hj, if_neg (fun e => hne e.symm)])).top) ((Below.refl _ _).setCell (p := ⟨b, i, none⟩) k1 _)
end
/-- What l20Order leaves. -/
def OrdDr (R k n : Nat) (w : World) (e : Ending) (w' : World) : Prop := ∃ v f, e = .returned v ∧ IMem w.heap.size w'.heap.size w' v f ∧ f.length = n ∧ Rd R (k + 8) w' ∧ Chg R (R + 1) w w'

set_option maxHeartbeats 2000000 in
theorem order_any (R k0 n : Nat) (w : World) (h : Rd R k0 w) (hk : k0 ≤ 1000) (hn : n ≤ 7) : Calls Try.prog 53 #[.pointer (some ⟨R, 0, none⟩), .int .i64 n] w (OrdDr R k0 n w) := by
  have hRw := h.lt
  have HS0 : Hid (InO R (k0 + 0) w (w.alloc (.cells #[] 3)) (.slice (some ⟨w.heap.size, 0, none⟩) 0 0) []) :=
    ⟨(IMem.empty w).widen (Nat.le_refl _) (by simp), h.fresh ((Below.refl _ _).alloc (Nat.le_refl _) _), chg_of_below ((Below.refl _ _).alloc (Nat.le_refl _) _), hRw⟩
  have HL0 : Hid (([] : List Int).length = 0) := rfl
  clear h
  go_enter Try.func53, Try.ntmps53
  go_wp2
  go_loopw [5, 6] (fun ov kv wr => ∃ (k : Nat) (f : List Int), k ≤ n ∧ kv = .int .i64 k ∧ Hid (f.length = k) ∧ Hid (InO R (k0 + k) w wr ov f)) (fun _ kv _ => n - (intOf kv).toNat)
  case atStart => exact ⟨0, [], Nat.zero_le _, rfl, HL0, HS0⟩
  case round =>
    clear HS0 HL0
    obtain ⟨k, f, hk', rfl, HL, HS⟩ := hrel
    have hfk := HL.out
    subst hfk
    clear HL
    by_cases hklt : f.length < n
    · have HP := Lib.hid <| pick_any R (k0 + f.length) ((f.length : Int) + 1) _ HS.out.2.1 (by omega) (by omega) (by omega)
      go_wp2_with fail
      refine HP.out.mono ?_
      rintro e w1 ⟨x, rfl, hx0, hx1, _, hrd, hch⟩
      have hx1 := hx1 (by omega)
      obtain ⟨q, rfl⟩ : ∃ q : Nat, x = (q : Int) := ⟨x.toNat, by omega⟩
      have HS1 := Lib.hid (HS.out.picked hrd hch)
      have hlo : w.heap.size ≤ w1.heap.size := HS1.out.2.2.1.size
      have hlb : f.length ≤ 7 := by omega
      clear hrd hch HS HP
      go_wp2_with (at_builtin; refine wp_app _ rfl _ _ rfl w.heap.size _ _ _ rfl (HS1.out.1.alloc _) w1.heap.size 0 1 1 [(f.length : Int)] rfl rfl one_cell (by omega) (by simp; omega) ?_; intro v2 w2 hI2 hB2 _; obtain ⟨b, c, rfl, -⟩ := id hI2.open; have HS2 := Lib.hid (HS1.out.grown hI2 (((Below.refl _ _).alloc hlo _).trans hB2)); have HL2 : Hid ((f ++ [(f.length : Int)]).length = f.length + 1) := (by show _ = _; rw [List.length_append]; rfl); clear hI2 hB2 HS1)
      have e1 : (f ++ [(f.length : Int)]).length = f.length + 1 := by simp
      simp only [e1] at HS2
      clear e1
      obtain ⟨f2, hf2⟩ : ∃ f2, f2 = f ++ [(f.length : Int)] := ⟨_, rfl⟩
      rw [← hf2] at HS2 HL2
      clear hf2
      go_loopw [8] (fun jv wr => ∃ (j : Nat) (fx : List Int), q ≤ j ∧ j ≤ f.length ∧ jv = .int .i64 j ∧ Hid (fx.length = f.length + 1) ∧ Hid (InO R (k0 + f.length + 1) w wr (.slice (some ⟨b, 0, none⟩) (f.length + 1) c) fx)) (fun jv _ => (intOf jv).toNat)
      case atStart => exact ⟨f.length, f2, by omega, Nat.le_refl _, rfl, HL2, HS2⟩
      case round =>
        clear HL2 HS2
        obtain ⟨j, f3, hqj, hjk, rfl, HL3, HS3⟩ := hrel
        by_cases hlt : q < j
        · obtain ⟨m, rfl⟩ : ∃ m, j = m + 1 := ⟨j - 1, by omega⟩
          have c1 := HS3.out.1.cellAt (i := m) (by rw [HL3.out]; omega)
          have c2 := HS3.out.1.cellAt (i := m + 1) (by rw [HL3.out]; omega)
          have z2 := HS3.out.1.frozenAt (m + 1)
          have HS4 := Lib.hid (HS3.out.stored (i := m + 1) (x := iat f3 m) (by rw [HL3.out]; omega))
          have HL4 : Hid ((f3.set (m + 1) (iat f3 m)).length = f.length + 1) := by show _ = _; rw [List.length_set]; exact HL3.out
          have l1 : (m : Int) < (f.length : Int) + 1 := by omega
          have l2 : (m : Int) + 1 < (f.length : Int) + 1 := by omega
          have l3 : (q : Int) < (m : Int) + 1 := by omega
          clear HS3 HL3
          go_wp2
          go_roundw
          case rel => exact ⟨m, _, by omega, by omega, by go_num, HL4, HS4⟩
          case measure => simp [intOf]
        · have hje : j = q := by omega
          subst hje
          have c2 := HS3.out.1.cellAt (i := j) (by rw [HL3.out]; omega)
          have z2 := HS3.out.1.frozenAt j
          have HS4 := Lib.hid (HS3.out.stored (i := j) (x := (f.length : Int)) (by rw [HL3.out]; omega))
          have HL4 : Hid ((f3.set j (f.length : Int)).length = f.length + 1) := by show _ = _; rw [List.length_set]; exact HL3.out
          have l1 : (j : Int) < (f.length : Int) + 1 := by omega
          clear HS3 HL3
          go_wp2
          go_roundw
          case rel => exact ⟨f.length + 1, _, by omega, by go_num, HL4, HS4⟩
          case measure => simp [intOf]; omega
    · have hke : f.length = n := by omega
      have HKE := Lib.hid hke
      clear hke
      go_wp2
      go_ret
      have hke := HKE.out
      obtain ⟨g1, g2, g3, g4⟩ := HS.out
      exact ⟨_, f, rfl, g1, hke, g2.more (by omega), g3⟩

theorem InSp.atb {R k L0 H0 n b cap : Nat} {w wr : World} (h : InSp R k L0 H0 n b cap w wr) {i j : Nat} (hi : i < n) (hj : j < n) :
    ∃ (g c : Nat) (z : Int), wr.cell? ⟨b, i, none⟩ = some (.slice (some ⟨g, 0, none⟩) n c) ∧ wr.cell? ⟨g, j, none⟩ = some (.int .i64 z) ∧ 0 ≤ z ∧ z ≤ 60 ∧ wr.frozen? ⟨g, j, none⟩ = false ∧
      ∀ wd x, Dr wr wd → 0 ≤ x → x ≤ 60 → InSp R k L0 H0 n b cap w (wd.setCell ⟨g, j, none⟩ (.int .i64 x)) := by
  obtain ⟨⟨d, hM, hF⟩, h2, h3, h4, h5, h6⟩ := h
  obtain ⟨g, c, c1, g1, g2, hc, hfz, hset⟩ := hM.at_ (i := i) (by rw [hF.len]; exact hi)
  rw [hF.rows i hi] at c1 hc hset
  have hb := hF.bd i j hi hj
  refine ⟨g, c, _, c1, hc j hj, hb.1, hb.2, hfz j, fun wd x hd hx0 hx1 => ?_⟩
  have hw : Chg L0 H0 wd (wd.setCell ⟨g, j, none⟩ (.int .i64 x)) := (Chg.refl _ _ _).setCell (p := ⟨g, j, none⟩) g1 g2 _
  have hs : wd.heap.size = wr.heap.size := by rw [hd.heap]
  refine ⟨⟨set2 d i j x, ?_, hF.set hi hj hx0 hx1⟩, (h2.trans hd.chg).since hw h5, (h3.dr hd).chg hw h4, h4, h5, by simp only [World.setCell]; simpa [hs] using h6⟩
  obtain ⟨q, rfl⟩ := hd
  exact (hset j x hj).drewN q
/-- What l20Even leaves. -/
def EvenP (R k : Nat) (w : World) (e : Ending) (w' : World) : Prop := ∃ v d, e = .returned v ∧ MMem w.heap.size w'.heap.size w' v d ∧ d.length ≤ 6 ∧ Rd R (k + 68) w' ∧ Chg R (R + 1) w w'
theorem fit_space {d : List (List Int)} (h : Space d) : Fit d.length 0 60 d := ⟨rfl, h.sq, fun i j hi hj => ⟨(h.ent i j hi hj).1, (h.ent i j hi hj).2.1⟩⟩
theorem InSp.even {R k k0 L0 H0 n b cap : Nat} {w wr : World} (h : InSp R k L0 H0 n b cap w wr) (hn : n ≤ 6) (hk : k ≤ k0 + 68) : EvenP R k0 w (.returned (.slice (some ⟨b, 0, none⟩) n cap)) wr := by
  obtain ⟨⟨d, hM, hF⟩, h2, h3, h4, h5, h6⟩ := h
  exact ⟨_, d, rfl, hM.top.widen h5 (Nat.le_refl _), by rw [hF.len]; exact hn, h3.more hk, h2⟩

set_option maxRecDepth 100000 in
set_option maxHeartbeats 2000000 in
theorem even_any (R k0 : Nat) (m : Int) (w : World) (h : Rd R k0 w) (hk : k0 ≤ 200) (hn1 : 1 ≤ m) (hn2 : m ≤ 1000) : Calls Try.prog 63 #[.pointer (some ⟨R, 0, none⟩), .int .i64 m] w (EvenP R k0 w) := by
  have hRw := h.lt
  have HP := Lib.hid <| pick_any R k0 2 w h (by omega) (by omega) (by omega)
  clear h
  go_enter Try.func63, Try.ntmps63
  go_wp2_with fail
  refine HP.out.mono ?_
  rintro e w1 ⟨x, rfl, hx0, hx1, _, hrd, hch⟩
  have hx1 := hx1 (by omega)
  have hs1 := hch.size
  have HC1 := Lib.hid hch
  clear hch HP
  go_wp2_with fail
  refine (space_any R (k0 + 1) (4 + x) m w1 hrd (by omega) (by omega) (by omega) hn1 hn2).mono ?_
  rintro e w2 ⟨vd, d, rfl, hM, hd, hrd, hch⟩
  obtain ⟨b, cap, _, _, rfl, -⟩ := id hM.open
  have hd6 := hd.six
  have HM := Lib.hid hM
  have HR2 := Lib.hid hrd
  have HC2 : Hid (Chg R (R + 1) w w2) := HC1.out.trans hch
  have cs := specSpaceOk_any _ _ _ _ w2 hM
  have hs2 := hch.size
  clear hM hd hrd hch HC1
  by_cases hS : Space d
  · rw [decP_yes hS] at cs
    have HCS := Lib.hid <| cs
    have HF := Lib.hid (fit_space hS)
    clear cs hS
    go_wp2_with fail
    refine HCS.out.mono ?_
    rintro e w3 ⟨rfl, hd3⟩
    have H3 : Hid (InSp R (k0 + 65) w1.heap.size w2.heap.size d.length b cap w w3) := ⟨⟨d, HM.out.dr hd3, HF.out⟩, HC2.out.trans hd3.chg, HR2.out.dr hd3, by omega, hs1, by rw [hd3.heap]; exact Nat.le_refl _⟩
    clear hd3 HM HF HC2 HR2 HCS
    generalize d.length = n at *
    generalize w1.heap.size = L0 at *
    generalize w2.heap.size = H0 at *
    have HP := Lib.hid <| pick_any R (k0 + 65) 2 w3 H3.out.2.2.1 (by omega) (by omega) (by omega)
    go_wp2_with fail
    refine HP.out.mono ?_
    rintro e w4 ⟨y, rfl, hy0, hy1, _, hrd4, hch4⟩
    have H4 := Lib.hid (H3.out.picked hch4 hrd4)
    clear hrd4 hch4 HP H3
    by_cases hy : y = 0
    · have hyb : (y == 0) = true := by simpa using hy
      clear hy hy0 hy1
      go_wp2
      go_loopw [6] (fun kv wr => ∃ k : Nat, k ≤ n ∧ kv = .int .i64 k ∧ Hid (InSp R (k0 + 65 + 1) L0 H0 n b cap w wr)) (fun kv _ => n - (intOf kv).toNat)
      case atStart => exact ⟨0, Nat.zero_le _, rfl, H4⟩
      case round =>
        clear H4
        obtain ⟨k, hk', rfl, HZ⟩ := hrel
        by_cases hklt : k < n
        · go_wp2
          go_loopw [7] (fun jv wr => ∃ j : Nat, j ≤ n ∧ jv = .int .i64 j ∧ Hid (InSp R (k0 + 65 + 1) L0 H0 n b cap w wr)) (fun jv _ => n - (intOf jv).toNat)
          case atStart => exact ⟨0, Nat.zero_le _, rfl, HZ⟩
          case round =>
            clear HZ
            obtain ⟨j, hj, rfl, HZ⟩ := hrel
            by_cases hjlt : j < n
            · by_cases hkj : k = j
              · have hb : ((k : Int) != (j : Int)) = false := by rw [hkj]; simp
                clear hkj
                go_wp2
                go_roundw
                case rel => exact ⟨j + 1, by omega, by go_num, HZ⟩
                case measure => simp [intOf]; omega
              · have hb : ((k : Int) != (j : Int)) = true := by simpa using fun e => hkj (by omega)
                obtain ⟨g, c, z, c1, c2, hz0, hz1, f1, hset⟩ := HZ.out.atb (i := k) (j := j) hklt hjlt
                have HS := Lib.hid hset
                have hki : (k : Int) < (n : Int) := by omega
                have hji : (j : Int) < (n : Int) := by omega
                have hr0 : 0 ≤ z % 2 := Int.emod_nonneg z (by omega)
                have hr1 : z % 2 < 2 := Int.emod_lt_of_pos z (by omega)
                clear hset hkj
                go_wp2_with fail
                go_still_tail 15, (by kernel_rfl)
                change wpList _ _ _ _ _ wr.drew
                have hd : Dr wr wr.drew := ⟨1, rfl⟩
                generalize wr.drew = wd at hd ⊢
                have f2 : wd.frozen? ⟨g, j, none⟩ = false := by rw [World.frozen?, hd.heap]; exact f1
                have e3 := (hd.cell _).trans c2
                go_wp2
                go_roundw
                case rel => exact ⟨j + 1, by omega, by go_num, HS.out wd _ hd (by omega) (by omega)⟩
                case measure => simp [intOf]; omega
            · go_wp2
              go_roundw
              case rel => exact ⟨k + 1, by omega, by go_num, HZ⟩
              case measure => simp [intOf]; omega
        · go_wp2
          go_ret
          exact HZ.out.even hd6 (by omega)
    · have hyb : (y == 0) = false := by simpa using hy
      clear hy hy0 hy1
      go_wp2
      go_ret
      exact H4.out.even hd6 (by omega)
  · rw [decP_no hS] at cs
    have HCS := Lib.hid <| cs
    clear cs hS
    go_wp2_with fail
    refine HCS.out.mono ?_
    rintro e w3 ⟨rfl, hd3⟩
    have HM3 := Lib.hid (HM.out.dr hd3).top
    have HR3 := Lib.hid (HR2.out.dr hd3)
    have HC3 : Hid (Chg R (R + 1) w w3) := HC2.out.trans hd3.chg
    clear hd3 HM HR2 HC2 HCS
    go_wp2
    go_ret
    exact ⟨_, d, rfl, HM3.out.widen hs1 (Nat.le_refl _), hd6, HR3.out.more (by omega), HC3.out⟩

end Go.Proofs.Ytknnelenmedonaa
