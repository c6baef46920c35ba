/- What odd, l20Closed, l20Far and l20Space do. Conditions: as each theorem says. -/
import Derived.Test.YtclffncimaigfaaDraw
import Derived.StillTailTactics
namespace Go.Proofs.Ytclffncimaigfaa
set_option linter.unusedVariables false
set_option linter.unusedSimpArgs false
open Go.RowKit Go.Deep

/-- One number of one row written anew. -/
def set2 (d : List (List Int)) (i j : Nat) (x : Int) : List (List Int) := d.set i ((row d i).set j x)
theorem set2_length (d : List (List Int)) (i j : Nat) (x : Int) : (set2 d i j x).length = d.length := by simp [set2]
theorem row_set {d : List (List Int)} {i q : Nat} {r : List Int} (h : q < d.length) : row (d.set i r) q = if i = q then r else row d q := by
  unfold row
  simp only [List.getD_eq_getElem?_getD, List.getElem?_set]
  split
  · subst_vars; simp [h]
  · rfl
theorem row_set2 {d : List (List Int)} {i j q : Nat} {x : Int} (h : q < d.length) : row (set2 d i j x) q = if i = q then (row d i).set j x else row d q := row_set h
theorem set2_row_length {d : List (List Int)} {i j q : Nat} {x : Int} (h : q < d.length) : (row (set2 d i j x) q).length = (row d q).length := by
  rw [row_set2 h]
  split
  · subst_vars; simp
  · rfl
theorem iat_setD {l : List Int} {i j : Nat} {x : Int} (h : j < l.length) : iat (l.set i x) j = if i = j then x else iat l j := by
  unfold iat
  simp only [List.getD_eq_getElem?_getD, List.getElem?_set]
  split
  · subst_vars; simp [h]
  · rfl
theorem at2_set2 {d : List (List Int)} {i j q r : Nat} {x : Int} (h : q < d.length) (hr : r < (row d q).length) : at2 (set2 d i j x) q r = if i = q ∧ j = r then x else at2 d q r := by
  unfold at2
  rw [row_set2 h]
  by_cases e : i = q
  · subst e
    rw [if_pos rfl, iat_setD hr]
    by_cases e2 : j = r <;> simp [e2]
  · rw [if_neg e, if_neg (fun h => e h.1)]

theorem MMem.at_ {lo hi b m cap : Nat} {w : World} {d : List (List Int)} (h : MMem lo hi w (.slice (some ⟨b, 0, none⟩) m cap) d) {i : Nat} (hi' : i < d.length) :
    ∃ g c : Nat, w.cell? ⟨b, i, none⟩ = some (.slice (some ⟨g, 0, none⟩) (row d i).length c) ∧ lo ≤ g ∧ g < hi ∧ (∀ j, j < (row d i).length → w.cell? ⟨g, j, none⟩ = some (.int .i64 (at2 d i j))) ∧ (∀ j, w.frozen? ⟨g, j, none⟩ = false) ∧
      ∀ j x, j < (row d i).length → MMem lo hi (w.setCell ⟨g, j, none⟩ (.int .i64 x)) (.slice (some ⟨b, 0, none⟩) m cap) (set2 d i j x) := by
  obtain ⟨b', cap', g, u, hv, hcell, g1, g2, g3, hI, hset⟩ := h.rowset hi'
  injection hv with e1 e2 e3
  injection e1 with e1
  injection e1 with e1
  subst e1 e2 e3
  obtain ⟨ub, uc, rfl, u1, u2, _, _, _, hc, hf⟩ := id hI.open
  have hug : ub = g := by omega
  subst hug
  refine ⟨ub, uc, hcell, g1, g2, hc, hf, fun j x hj => ?_⟩
  refine hset _ _ ((Outside.refl _ _ _).setCell (p := ⟨ub, j, none⟩) (Nat.le_refl _) (Nat.lt_succ_self _) _) ?_ (set2_length _ _ _ _) (fun q hq hne => by rw [row_set2 hq, if_neg (fun e => hne e.symm)])
  rw [row_set2 hi', if_pos rfl]
  exact hI.set (by simp) j (by rw [iat_setD hj, if_pos rfl]) (fun q hq hne => by rw [iat_setD hq, if_neg (fun e => hne e.symm)])

/-- n rows of n numbers from a to b. -/
structure Fit (n : Nat) (a b : Int) (d : List (List Int)) : Prop where
  len : d.length = n
  rows : ∀ i, i < n → (row d i).length = n
  bd : ∀ i j, i < n → j < n → a ≤ at2 d i j ∧ at2 d i j ≤ b
theorem Fit.set {n : Nat} {a b : Int} {d : List (List Int)} (h : Fit n a b d) {i j : Nat} (hi : i < n) (hj : j < n) {x : Int} (h1 : a ≤ x) (h2 : x ≤ b) : Fit n a b (set2 d i j x) :=
  ⟨by rw [set2_length]; exact h.len, fun q hq => by rw [set2_row_length (by rw [h.len]; exact hq)]; exact h.rows q hq, fun q r hq hr => by
    rw [at2_set2 (by rw [h.len]; exact hq) (by rw [h.rows q hq]; exact hr)]
    split
    · exact ⟨h1, h2⟩
    · exact h.bd q r hq hr⟩

/-- What odd leaves. -/
def Odded (R k : Nat) (w : World) (e : Ending) (w' : World) : Prop := ∃ t : Bool, e = .returned (.bool t) ∧ Rd R (k + 1) w' ∧ Chg R (R + 1) w w'

set_option maxHeartbeats 400000 in
theorem odd_any (R k : Nat) (m : Int) (w : World) (h : Rd R k w) (hk : k ≤ 1000000) (hm0 : 1 ≤ m) (hm1 : m ≤ 1000000) :
    Calls Try.prog 74 #[.pointer (some ⟨R, 0, none⟩), .int .i64 m] w (Odded R k w) := by
  have HC := Lib.hid <| pick_any R k m w h hk (by omega) hm1
  clear h
  go_enter Try.func74, Try.ntmps74
  go_wp2_with fail
  refine HC.out.mono ?_
  rintro e w1 ⟨x, rfl, hx0, hx1, _, hrd, hch⟩
  have HR := Lib.hid hrd
  have HH := Lib.hid hch
  clear hrd hch HC
  go_wp2
  go_ret
  exact ⟨_, rfl, HR.out, HH.out⟩

/-- What l20Closed leaves. -/
def ClosedP (lo hi n : Nat) (v : Value) (w : World) (e : Ending) (w' : World) : Prop := e = .returned v ∧ (∃ d, MMem lo hi w' v d ∧ Fit n 0 60 d) ∧ Chg lo hi w w'

set_option maxRecDepth 100000 in
set_option maxHeartbeats 4000000 in
theorem closed_any (lo hi n : Nat) (v : Value) (d : List (List Int)) (w : World) (h : MMem lo hi w v d) (hf : Fit n 0 60 d) (hn : n ≤ 6) :
    Calls Try.prog 72 #[v] w (ClosedP lo hi n v w) := by
  obtain ⟨b, cap, _, _, rfl, _⟩ := id h.open
  rw [hf.len] at h ⊢
  have HI : Hid (∃ d, MMem lo hi w (.slice (some ⟨b, 0, none⟩) n cap) d ∧ Fit n 0 60 d) := ⟨d, h, hf⟩
  clear h hf
  go_enter Try.func72, Try.ntmps72
  go_wp2
  go_loopw [3] (fun mv wr => ∃ m : Nat, m ≤ n ∧ mv = .int .i64 m ∧ Hid (∃ d, MMem lo hi wr (.slice (some ⟨b, 0, none⟩) n cap) d ∧ Fit n 0 60 d) ∧ Hid (Chg lo hi w wr)) (fun mv _ => n - (intOf mv).toNat)
  case atStart => exact ⟨0, Nat.zero_le _, rfl, HI, Chg.refl _ _ _⟩
  case round =>
    clear HI
    obtain ⟨m, hm, rfl, HI, HC⟩ := hrel
    by_cases hmlt : m < n
    · go_wp2
      go_loopw [4] (fun kv wr => ∃ k : Nat, k ≤ n ∧ kv = .int .i64 k ∧ Hid (∃ d, MMem lo hi wr (.slice (some ⟨b, 0, none⟩) n cap) d ∧ Fit n 0 60 d) ∧ Hid (Chg lo hi w wr)) (fun kv _ => n - (intOf kv).toNat)
      case atStart => exact ⟨0, Nat.zero_le _, rfl, HI, HC⟩
      case round =>
        clear HI HC
        obtain ⟨k, hk, rfl, HI, HC⟩ := hrel
        by_cases hklt : k < n
        · go_wp2
          go_loopw [5] (fun jv wr => ∃ j : Nat, j ≤ n ∧ jv = .int .i64 j ∧ Hid (∃ d, MMem lo hi wr (.slice (some ⟨b, 0, none⟩) n cap) d ∧ Fit n 0 60 d) ∧ Hid (Chg lo hi w wr)) (fun jv _ => n - (intOf jv).toNat)
          case atStart => exact ⟨0, Nat.zero_le _, rfl, HI, HC⟩
          case round =>
            clear HI HC
            obtain ⟨j, hj, rfl, HI, HC⟩ := hrel
            by_cases hjlt : j < n
            · obtain ⟨d, hM, hF⟩ := HI.out
              obtain ⟨g, c, c1, g1, g2, hc, hfz, hset⟩ := hM.at_ (i := k) (by rw [hF.len]; exact hklt)
              obtain ⟨g', c', c2, _, _, hc', _, _⟩ := hM.at_ (i := m) (by rw [hF.len]; exact hmlt)
              rw [hF.rows k hklt] at c1 hc hset
              rw [hF.rows m hmlt] at c2 hc'
              have c3 := hc j hjlt
              have c4 := hc m hmlt
              have c5 := hc' j hjlt
              have f1 := hfz j
              have b1 := hF.bd k j hklt hjlt
              have b2 := hF.bd k m hklt hmlt
              have b3 := hF.bd m j hmlt hjlt
              have hki : (k : Int) < (n : Int) := by omega
              have hmi : (m : Int) < (n : Int) := by omega
              have hji : (j : Int) < (n : Int) := by omega
              have HN : ∀ wd, Dr wr wd → ∀ x, 0 ≤ x → x ≤ 60 → Hid (∃ d, MMem lo hi (wd.setCell ⟨g, j, none⟩ (.int .i64 x)) (.slice (some ⟨b, 0, none⟩) n cap) d ∧ Fit n 0 60 d) := by
                rintro wd ⟨q, rfl⟩ x h1 h2
                exact ⟨_, (hset j x hjlt).dr ⟨q, rfl⟩, hF.set hklt hjlt h1 h2⟩
              have HH := Lib.hid HN
              have HG : Hid (lo ≤ g ∧ g < hi) := ⟨g1, g2⟩
              clear HN hset hc hc' hfz hM hF HI g1 g2
              by_cases hless : at2 d k m + at2 d m j < at2 d k j
              · go_wp2_with fail
                go_still_tail 29, (by kernel_rfl)
                change wpList _ _ _ _ _ wr.drew
                have hd : Dr wr wr.drew := ⟨1, rfl⟩
                generalize wr.drew = wd at hd ⊢
                have f2 : wd.frozen? ⟨g, j, none⟩ = false := by rw [World.frozen?, hd.heap]; exact f1
                have e3 := (hd.cell _).trans c3
                go_wp2
                go_roundw
                case rel => exact ⟨j + 1, by omega, by go_num, HH.out wd hd _ (by omega) (by omega), (HC.out.trans hd.chg).setCell HG.out.1 HG.out.2 _⟩
                case measure => simp [intOf]; omega
              · have hless' : decide (at2 d k m + at2 d m j < at2 d k j) = false := by simpa using hless
                go_wp2_with fail
                go_still_tail 29, (by kernel_rfl)
                change wpList _ _ _ _ _ wr.drew
                have hd : Dr wr wr.drew := ⟨1, rfl⟩
                generalize wr.drew = wd at hd ⊢
                have f2 : wd.frozen? ⟨g, j, none⟩ = false := by rw [World.frozen?, hd.heap]; exact f1
                have e3 := (hd.cell _).trans c3
                go_wp2
                go_roundw
                case rel => exact ⟨j + 1, by omega, by go_num, HH.out wd hd _ (by omega) (by omega), (HC.out.trans hd.chg).setCell HG.out.1 HG.out.2 _⟩
                case measure => simp [intOf]; omega
            · go_wp2
              go_roundw
              case rel => exact ⟨k + 1, by omega, by go_num, HI, HC⟩
              case measure => simp [intOf]; omega
        · go_wp2
          go_roundw
          case rel => exact ⟨m + 1, by omega, by go_num, HI, HC⟩
          case measure => simp [intOf]; omega
    · go_wp2
      go_ret
      exact ⟨rfl, HI.out, HC.out⟩

end Go.Proofs.Ytclffncimaigfaa
