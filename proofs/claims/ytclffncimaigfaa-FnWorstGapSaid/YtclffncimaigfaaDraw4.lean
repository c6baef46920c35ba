/- What l20Space does. Conditions: as each theorem says. -/
import Derived.Test.YtclffncimaigfaaDraw3
namespace Go.Proofs.Ytclffncimaigfaa
set_option linter.unusedVariables false
set_option linter.unusedSimpArgs false
open Go.RowKit Go.Deep

/-- What a drawn space looks like: small. -/
structure Dn (d : List (List Int)) : Prop where
  six : d.length ≤ 6
  rows : ∀ i, i < d.length → (row d i).length ≤ 7
  bd : ∀ i j, i < d.length → j < (row d i).length → 0 ≤ at2 d i j ∧ at2 d i j ≤ 60
theorem Dn.nil : Dn [] := ⟨by simp, fun i hi => by simp at hi, fun i j hi => by simp at hi⟩
theorem Fit.dn {n : Nat} {d : List (List Int)} (h : Fit n 0 60 d) (hn : n ≤ 6) : Dn d :=
  ⟨by rw [h.len]; exact hn, fun i hi => by rw [h.len] at hi; rw [h.rows i hi]; omega, fun i j hi hj => by rw [h.len] at hi; rw [h.rows i hi] at hj; exact h.bd i j hi hj⟩
theorem Fit.dn_longer {n : Nat} {d : List (List Int)} (h : Fit n 0 60 d) (hn : n ≤ 6) : Dn (d.set 0 (row d 0 ++ [0])) := by
  have hl : (d.set 0 (row d 0 ++ [0])).length = n := by simp [h.len]
  refine ⟨by rw [hl]; exact hn, fun i hi => ?_, fun i j hi hj => ?_⟩
  · rw [hl] at hi
    rw [row_set (by rw [h.len]; exact hi)]
    split
    · rename_i e
      subst e
      rw [List.length_append, h.rows 0 hi]
      simp only [List.length_cons, List.length_nil]
      omega
    · rw [h.rows i hi]; omega
  · rw [hl] at hi
    unfold at2
    rw [row_set (by rw [h.len]; exact hi)] at hj ⊢
    split
    · rename_i e
      subst e
      simp only [if_true] at hj
      rw [List.length_append, h.rows 0 hi] at hj
      simp only [List.length_cons, List.length_nil] at hj
      by_cases e : j < n
      · have := h.bd 0 j hi e
        unfold at2 iat at this
        unfold iat
        rw [List.getD_eq_getElem?_getD, List.getElem?_append_left (by rw [h.rows 0 hi]; exact e), ← List.getD_eq_getElem?_getD]
        exact this
      · have e2 : j = n := by omega
        unfold iat
        rw [List.getD_eq_getElem?_getD, List.getElem?_append_right (by rw [h.rows 0 hi]; omega), h.rows 0 hi, e2]
        simp
    · rename_i e
      rw [if_neg e, h.rows i hi] at hj
      exact h.bd i j hi hj

/-- What l20Space leaves. -/
def SpaceP (R k : Nat) (w : World) (e : Ending) (w' : World) : Prop :=
  ∃ v d, e = .returned v ∧ MMem w.heap.size w'.heap.size w' v d ∧ Dn d ∧ Rd R (k + 64) w' ∧ Chg R (R + 1) w w'

/-- What holds where the space has been drawn: rows in blocks from L0 to H0, a reader. -/
def InSp (R k L0 H0 n : Nat) (b cap : Nat) (w wr : World) : Prop :=
  (∃ d, MMem L0 H0 wr (.slice (some ⟨b, 0, none⟩) n cap) d ∧ Fit n 0 60 d) ∧ Chg R (R + 1) w wr ∧ Rd R k wr ∧ R < L0 ∧ w.heap.size ≤ L0 ∧ H0 ≤ wr.heap.size
theorem InSp.picked {R k k' L0 H0 n b cap : Nat} {w wr w' : World} (h : InSp R k L0 H0 n b cap w wr) (hc : Chg R (R + 1) wr w') (hr : Rd R k' w') : InSp R k' L0 H0 n b cap w w' := by
  obtain ⟨⟨d, hM, hF⟩, h2, h3, h4, h5, h6⟩ := h
  exact ⟨⟨d, hM.chg hc (Or.inr h4), hF⟩, h2.trans hc, hr, h4, h5, Nat.le_trans h6 hc.size⟩
theorem InSp.at_ {R k L0 H0 n b cap : Nat} {w wr : World} (h : InSp R k L0 H0 n b cap w wr) {i : Nat} (hi : i < n) :
    ∃ g c : Nat, wr.cell? ⟨b, i, none⟩ = some (.slice (some ⟨g, 0, none⟩) n c) ∧ (∀ j, j < n → ∃ x, wr.cell? ⟨g, j, none⟩ = some (.int .i64 x)) ∧ (∀ j, wr.frozen? ⟨g, j, none⟩ = false) ∧
      ∀ j x, j < n → 0 ≤ x → x ≤ 60 → InSp R k L0 H0 n b cap w (wr.setCell ⟨g, j, none⟩ (.int .i64 x)) := by
  obtain ⟨⟨d, hM, hF⟩, h2, h3, h4, h5, h6⟩ := h
  obtain ⟨g, c, c1, g1, g2, hc, hfz, hset⟩ := hM.at_ (i := i) (by rw [hF.len]; exact hi)
  rw [hF.rows i hi] at c1 hc hset
  refine ⟨g, c, c1, fun j hj => ⟨_, hc j hj⟩, hfz, fun j x hj hx0 hx1 => ?_⟩
  have hw : Chg L0 H0 wr (wr.setCell ⟨g, j, none⟩ (.int .i64 x)) := (Chg.refl _ _ _).setCell (p := ⟨g, j, none⟩) g1 g2 _
  exact ⟨⟨_, hset j x hj, hF.set hi hj hx0 hx1⟩, h2.since hw h5, h3.chg hw h4, h4, h5, by simpa [World.setCell] using h6⟩
theorem InSp.done {R k k0 L0 H0 n b cap : Nat} {w wr : World} (h : InSp R k L0 H0 n b cap w wr) (hn : n ≤ 6) (hk : k ≤ k0 + 64) : SpaceP R k0 w (.returned (.slice (some ⟨b, 0, none⟩) n cap)) wr := by
  obtain ⟨⟨d, hM, hF⟩, h2, h3, h4, h5, h6⟩ := h
  exact ⟨_, d, rfl, hM.top.widen h5 (Nat.le_refl _), hF.dn hn, h3.more hk, h2⟩
theorem InSp.none_ {R k k0 L0 H0 n b cap : Nat} {w wr : World} (h : InSp R k L0 H0 n b cap w wr) (hk : k ≤ k0 + 64) : SpaceP R k0 w (.returned (.slice (some ⟨wr.heap.size, 0, none⟩) 0 0)) (wr.alloc (.cells #[] 37)) := by
  obtain ⟨_, h2, h3, h4, h5, h6⟩ := h
  have hb : Below wr.heap.size wr (wr.alloc (.cells #[] 37)) := (Below.refl _ _).alloc (Nat.le_refl _) _
  exact ⟨_, [], rfl, (MMem.empty wr).widen h2.size (by simp), Dn.nil, (h3.fresh hb).more hk, h2.trans (chg_of_below hb)⟩
theorem InSp.drewN {R k L0 H0 n b cap : Nat} {w wr : World} (h : InSp R k L0 H0 n b cap w wr) (m : Nat) : InSp R k L0 H0 n b cap w (wr.drewN m) := by
  obtain ⟨⟨d, hM, hF⟩, h2, h3, h4, h5, h6⟩ := h
  exact ⟨⟨d, hM.drewN m, hF⟩, h2.trans (Dr.chg ⟨m, rfl⟩), h3.dr ⟨m, rfl⟩, h4, h5, h6⟩

theorem InSp.app {R k k0 L0 H0 n b cap : Nat} {w wr : World} (h : InSp R k L0 H0 n b cap w wr) (h1 : 1 ≤ n) (h6 : n ≤ 6) (hk : k ≤ k0 + 64) :
    ∃ (ub uc : Nat) (r : List Int), r.length ≤ 7 ∧ wr.cell? ⟨b, 0, none⟩ = some (.slice (some ⟨ub, 0, none⟩) r.length uc) ∧ L0 ≤ wr.heap.size ∧ IMem L0 wr.heap.size wr (.slice (some ⟨ub, 0, none⟩) r.length uc) r ∧
      ∀ (o : Obj) (v' : Value) (w' : World), IMem L0 w'.heap.size w' v' (r ++ [0]) → Below L0 (wr.alloc o) w' → (wr.alloc o).grownBy w' (some ub) → (v'.ownBlock = some ub ∨ v'.ownBlock = some (wr.alloc o).heap.size) →
        w'.frozen? ⟨b, 0, none⟩ = false ∧ (∃ u, w'.cell? ⟨b, 0, none⟩ = some u) ∧ SpaceP R k0 w (.returned (.slice (some ⟨b, 0, none⟩) n cap)) (w'.setCell ⟨b, 0, none⟩ v') := by
  obtain ⟨⟨d, hM, hF⟩, k2, k3, k4, k5, k6⟩ := h
  have h0 : 0 < d.length := by rw [hF.len]; omega
  obtain ⟨b', cap', g, u, hv, c1, hb0, _, g1, g2, hne, hub, hIu, hput⟩ := hM.put k6 (i := 0) h0
  injection hv with e1 e2 e3
  injection e1 with e1
  injection e1 with e1
  subst e1 e2 e3
  obtain ⟨ub, uc, rfl, _⟩ := id hIu.open
  have hug : ub = g := by simpa [Value.ownBlock] using hub
  subst hug
  have hLw : L0 ≤ wr.heap.size := by omega
  refine ⟨ub, uc, row d 0, by rw [hF.rows 0 (by omega)]; omega, c1, hLw, hIu.widen g1 (by omega), ?_⟩
  intro o v' w' hI' hB' hg' hat'
  have hsz : wr.heap.size ≤ w'.heap.size := by have := hB'.size; simp at this; omega
  obtain ⟨p1, p2, p3⟩ := hput w' v' (row d 0 ++ [0]) hsz (fun k hk hne => (hg'.block k (by simp; omega) (by intro e; injection e with e; exact hne e)).trans (((Below.refl wr.heap.size wr).alloc (Nat.le_refl _) _).block k hk)) hI' (by
    rcases hat' with h | h
    · exact ⟨ub, h, Or.inl rfl⟩
    · exact ⟨_, h, Or.inr (by simp)⟩)
  have hB : Below L0 wr (w'.setCell ⟨b, 0, none⟩ v') := (((Below.refl L0 wr).alloc hLw _).trans hB').setCell (p := ⟨b, 0, none⟩) hb0 _
  exact ⟨p1, ⟨_, p2⟩, _, _, rfl, p3.top.widen k5 (Nat.le_refl _), hF.dn_longer h6, (k3.chg (chg_below hB) k4).more hk, k2.since (chg_below hB) k5⟩


set_option maxHeartbeats 8000000 in
theorem space_any (R k0 : Nat) (most m : Int) (w : World) (h : Rd R k0 w) (hk : k0 ≤ 1000) (hm1 : 1 ≤ most) (hm2 : most ≤ 6) (hn1 : 1 ≤ m) (hn2 : m ≤ 1000) :
    Calls Try.prog 55 #[.pointer (some ⟨R, 0, none⟩), .int .i64 most, .int .i64 m] w (SpaceP R k0 w) := by
  have HP := Lib.hid <| far_any R k0 most w h hk hm1 hm2
  have HR := h.lt
  clear h
  go_enter Try.func55, Try.ntmps55
  go_wp2_with fail
  refine HP.out.mono ?_
  rintro e w1 ⟨n, v, d, rfl, hM, hF, h1, h6, hrd, hch⟩
  obtain ⟨b, cap, _, _, rfl, _⟩ := id hM.open
  rw [hF.len] at hM ⊢
  have HM := Lib.hid hM
  have HF := Lib.hid hF
  have HR1 := Lib.hid hrd
  have HC1 := Lib.hid hch
  clear hM hF hrd hch HP
  go_wp2_with fail
  refine (closed_any w.heap.size w1.heap.size n _ d w1 HM.out HF.out h6).mono ?_
  rintro e w2 ⟨rfl, hd2, hch2⟩
  have H2 : Hid (InSp R (k0 + 60) w.heap.size w1.heap.size n b cap w w2) := ⟨hd2, HC1.out.since hch2 (Nat.le_refl _), HR1.out.chg hch2 HR, HR, Nat.le_refl _, hch2.size⟩
  clear HM HF HR1 HC1 hd2 hch2
  generalize w1.heap.size = H0 at *
  generalize hL : w.heap.size = L0 at *
  have HP := Lib.hid <| pick_any R (k0 + 60) 4 w2 H2.out.2.2.1 (by omega) (by omega) (by omega)
  go_wp2_with fail
  refine HP.out.mono ?_
  rintro e wz ⟨x, rfl, hx0, hx1, _, hrd, hch⟩
  have HZ : Hid (InSp R (k0 + 61) L0 H0 n b cap w wz) := H2.out.picked hch hrd
  clear hrd hch HP H2 hx1
  by_cases hx : x = 0
  · subst hx
    clear hx0
    go_wp2
    go_loopw [8] (fun kv wr => ∃ k : Nat, k ≤ n ∧ kv = .int .i64 k ∧ Hid (InSp R (k0 + 61) L0 H0 n b cap w wr)) (fun kv _ => n - (intOf kv).toNat)
    case atStart => exact ⟨0, Nat.zero_le _, rfl, HZ⟩
    case round =>
      clear HZ
      obtain ⟨k, hk', rfl, HZ⟩ := hrel
      by_cases hklt : k < n
      · go_wp2
        go_loopw [9] (fun jv wr => ∃ j : Nat, j ≤ n ∧ jv = .int .i64 j ∧ Hid (InSp R (k0 + 61) L0 H0 n b cap w wr)) (fun jv _ => n - (intOf jv).toNat)
        case atStart => exact ⟨0, Nat.zero_le _, rfl, HZ⟩
        case round =>
          clear HZ
          obtain ⟨j, hj, rfl, HZ⟩ := hrel
          by_cases hjlt : j < n
          · obtain ⟨g, c, c1, hc, hfz, hset⟩ := HZ.out.at_ (i := k) hklt
            obtain ⟨y, c2⟩ := hc j hjlt
            have f1 := hfz j
            have HS := Lib.hid hset
            have hki : (k : Int) < (n : Int) := by omega
            have hji : (j : Int) < (n : Int) := by omega
            have hm3 : 0 ≤ (n : Int) % 3 ∧ (n : Int) % 3 ≤ 2 := by omega
            have hb : ∀ z q : Int, 0 ≤ z → z ≤ 5 → 0 ≤ q → q ≤ 2 → 0 ≤ z * (1 + q) ∧ z * (1 + q) ≤ 60 := by
              intro z q h1 h2 h3 h4
              have : q = 0 ∨ q = 1 ∨ q = 2 := by omega
              rcases this with rfl | rfl | rfl <;> omega
            clear hc hfz hset
            by_cases hle : (k : Int) - j < j - k
            · have hb1 := hb ((j : Int) - k) ((n : Int) % 3) (by omega) (by omega) hm3.1 hm3.2
              clear hb
              go_wp2
              go_roundw
              case rel => exact ⟨j + 1, by omega, by go_num, HS.out j _ hjlt hb1.1 hb1.2⟩
              case measure => simp [intOf]; omega
            · have hle' : decide ((k : Int) - j < j - k) = false := by simpa using hle
              have hb1 := hb ((k : Int) - j) ((n : Int) % 3) (by omega) (by omega) hm3.1 hm3.2
              clear hb
              go_wp2
              go_roundw
              case rel => exact ⟨j + 1, by omega, by go_num, HS.out j _ hjlt hb1.1 hb1.2⟩
              case measure => simp [intOf]; omega
          · go_wp2
            go_roundw
            case rel => exact ⟨k + 1, by omega, by go_num, HZ⟩
            case measure => simp [intOf]; omega
      · have HO := Lib.hid <| odd_any R (k0 + 61) m _ HZ.out.2.2.1 (by omega) hn1 (by omega)
        go_wp2_with fail
        refine HO.out.mono ?_
        rintro e w4 ⟨t, rfl, hrd4, hch4⟩
        have H4 := Lib.hid <| HZ.out.picked hch4 hrd4
        clear hrd4 hch4 HO HZ
        cases t
        · go_wp2
          go_ret
          exact H4.out.done h6 (by omega)
        · have HQ := Lib.hid <| pick_any R (k0 + 61 + 1) 4 w4 H4.out.2.2.1 (by omega) (by omega) (by omega)
          go_wp2_with fail
          refine HQ.out.mono ?_
          rintro e w5 ⟨x2, rfl, hy0, hy1, _, hrd5, hch5⟩
          have hy1 := hy1 (by omega)
          have H5 := Lib.hid <| H4.out.picked hch5 hrd5
          clear hrd5 hch5 HQ H4
          have hcase : x2 = 0 ∨ x2 = 1 ∨ x2 = 2 ∨ x2 = 3 := by omega
          clear hy0 hy1
          rcases hcase with rfl | rfl | rfl | rfl
          · go_wp2
            go_ret
            exact H5.out.none_ (by omega)
          · obtain ⟨g, c, c1, hc, hfz, hset⟩ := H5.out.at_ (i := 0) (by omega)
            obtain ⟨y, c2⟩ := hc 0 (by omega)
            have f1 := hfz 0
            have HN := Lib.hid (hset 0 1 (by omega) (by omega) (by omega))
            have hn0 : (0 : Int) < (n : Int) := by omega
            clear hc hfz hset
            go_wp2
            go_ret
            exact HN.out.done h6 (by omega)
          · by_cases h1n : 1 < n
            · obtain ⟨g, c, c1, hc, hfz, hset⟩ := H5.out.at_ (i := 0) (by omega)
              obtain ⟨y, c2⟩ := hc 1 (by omega)
              have f1 := hfz 1
              have hN := hset 1 60 (by omega) (by omega) (by omega)
              obtain ⟨g', c', c1', hc', hfz', hset'⟩ := hN.at_ (i := 1) (by omega)
              obtain ⟨y', c2'⟩ := hc' 0 (by omega)
              have f1' := hfz' 0
              have HN := Lib.hid (hset' 0 60 (by omega) (by omega) (by omega))
              have hn1' : (1 : Int) < (n : Int) := by omega
              have hn0 : (0 : Int) < (n : Int) := by omega
              clear hc hfz hset hc' hfz' hset' hN
              go_wp2
              go_ret
              exact HN.out.done h6 (by omega)
            · have hn1' : ¬ (1 : Int) < (n : Int) := by omega
              go_wp2
              go_ret
              exact H5.out.done h6 (by omega)
          · obtain ⟨ub, uc, r, hr7, c1, hLw, hI, happ⟩ := H5.out.app h1 h6 (k0 := k0) (by omega)
            have HI := Lib.hid hI
            have HA := Lib.hid happ
            have hn0 : (0 : Int) < (n : Int) := by omega
            clear hI happ H5
            go_wp2_with (at_builtin; refine wp_app_at _ rfl _ _ rfl L0 w5.heap.size (.slice (some ⟨ub, 0, none⟩) r.length uc) _ rfl (HI.out.alloc _) w5.heap.size 0 1 1 [0] rfl rfl one_cell (by omega) (by simp; omega) ?_; intro v' w' hI' hB' hg' hat'; obtain ⟨vb, vc, hv, _⟩ := id hI'.open; simp only [List.length_append, List.length_cons, List.length_nil, Nat.zero_add] at hv; subst hv; obtain ⟨p1, ⟨pu, p2⟩, p3⟩ := HA.out _ _ _ hI' hB' hg' hat'; have HF := Lib.hid p3; clear p3 hI' hB' hg' hat' HA HI)
            go_wp2
            go_ret
            exact HF.out
  · have hxb : (x == 0) = false := by simpa using hx
    clear hx hx0
    have HO := Lib.hid <| odd_any R (k0 + 61) m _ HZ.out.2.2.1 (by omega) hn1 (by omega)
    go_wp2_with fail
    refine HO.out.mono ?_
    rintro e w4 ⟨t, rfl, hrd4, hch4⟩
    have H4 := Lib.hid <| HZ.out.picked hch4 hrd4
    clear hrd4 hch4 HO HZ
    cases t
    · go_wp2
      go_ret
      exact H4.out.done h6 (by omega)
    · have HQ := Lib.hid <| pick_any R (k0 + 61 + 1) 4 w4 H4.out.2.2.1 (by omega) (by omega) (by omega)
      go_wp2_with fail
      refine HQ.out.mono ?_
      rintro e w5 ⟨x2, rfl, hy0, hy1, _, hrd5, hch5⟩
      have hy1 := hy1 (by omega)
      have H5 := Lib.hid <| H4.out.picked hch5 hrd5
      clear hrd5 hch5 HQ H4
      have hcase : x2 = 0 ∨ x2 = 1 ∨ x2 = 2 ∨ x2 = 3 := by omega
      clear hy0 hy1
      rcases hcase with rfl | rfl | rfl | rfl
      · go_wp2
        go_ret
        exact H5.out.none_ (by omega)
      · obtain ⟨g, c, c1, hc, hfz, hset⟩ := H5.out.at_ (i := 0) (by omega)
        obtain ⟨y, c2⟩ := hc 0 (by omega)
        have f1 := hfz 0
        have HN := Lib.hid (hset 0 1 (by omega) (by omega) (by omega))
        have hn0 : (0 : Int) < (n : Int) := by omega
        clear hc hfz hset
        go_wp2
        go_ret
        exact HN.out.done h6 (by omega)
      · by_cases h1n : 1 < n
        · obtain ⟨g, c, c1, hc, hfz, hset⟩ := H5.out.at_ (i := 0) (by omega)
          obtain ⟨y, c2⟩ := hc 1 (by omega)
          have f1 := hfz 1
          have hN := hset 1 60 (by omega) (by omega) (by omega)
          obtain ⟨g', c', c1', hc', hfz', hset'⟩ := hN.at_ (i := 1) (by omega)
          obtain ⟨y', c2'⟩ := hc' 0 (by omega)
          have f1' := hfz' 0
          have HN := Lib.hid (hset' 0 60 (by omega) (by omega) (by omega))
          have hn1' : (1 : Int) < (n : Int) := by omega
          have hn0 : (0 : Int) < (n : Int) := by omega
          clear hc hfz hset hc' hfz' hset' hN
          go_wp2
          go_ret
          exact HN.out.done h6 (by omega)
        · have hn1' : ¬ (1 : Int) < (n : Int) := by omega
          go_wp2
          go_ret
          exact H5.out.done h6 (by omega)
      · obtain ⟨ub, uc, r, hr7, c1, hLw, hI, happ⟩ := H5.out.app h1 h6 (k0 := k0) (by omega)
        have HI := Lib.hid hI
        have HA := Lib.hid happ
        have hn0 : (0 : Int) < (n : Int) := by omega
        clear hI happ H5
        go_wp2_with (at_builtin; refine wp_app_at _ rfl _ _ rfl L0 w5.heap.size (.slice (some ⟨ub, 0, none⟩) r.length uc) _ rfl (HI.out.alloc _) w5.heap.size 0 1 1 [0] rfl rfl one_cell (by omega) (by simp; omega) ?_; intro v' w' hI' hB' hg' hat'; obtain ⟨vb, vc, hv, _⟩ := id hI'.open; simp only [List.length_append, List.length_cons, List.length_nil, Nat.zero_add] at hv; subst hv; obtain ⟨p1, ⟨pu, p2⟩, p3⟩ := HA.out _ _ _ hI' hB' hg' hat'; have HF := Lib.hid p3; clear p3 hI' hB' hg' hat' HA HI)
        go_wp2
        go_ret
        exact HF.out

end Go.Proofs.Ytclffncimaigfaa
