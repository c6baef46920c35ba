/- What l20Far and l20Space do. Conditions: as each theorem says. -/
import Derived.Test.YtclffncimaigfaaPut
namespace Go.Proofs.Ytclffncimaigfaa
set_option linter.unusedVariables false
set_option linter.unusedSimpArgs false
open Go.RowKit Go.Deep

def zeros (n k : Nat) : List (List Int) := List.replicate k (List.replicate n 0)
theorem zeros_succ (n k : Nat) : zeros n k ++ [List.replicate n 0] = zeros n (k + 1) := by simp [zeros, List.replicate_succ']
theorem zeros_length (n k : Nat) : (zeros n k).length = k := by simp [zeros]
theorem iat_zeros (n i : Nat) : iat (List.replicate n 0) i = 0 := by
  unfold iat
  rw [List.getD_eq_getElem?_getD, List.getElem?_replicate]
  split <;> rfl
theorem row_zeros {n k i : Nat} (h : i < k) : row (zeros n k) i = List.replicate n 0 := by simp [row, zeros, h]
theorem fit_zeros (n : Nat) : Fit n 0 60 (zeros n n) :=
  ⟨zeros_length n n, fun i hi => by rw [row_zeros hi]; simp, fun i j hi hj => by unfold at2; rw [row_zeros hi, iat_zeros]; omega⟩
theorem IMem.zeros (w : World) {n : Nat} (hm : n ≤ maxLen) : IMem w.heap.size (w.heap.size + 1) (w.alloc (.cells (madeCells #[.int .i64 0] n) 3)) (.slice (some ⟨w.heap.size, 0, none⟩) n n) (List.replicate n 0) := by
  have h := IMem.of_row (lo := w.heap.size) (hi := w.heap.size + 1) (zs := List.replicate n 0) (f := fun _ => .int .i64 0) (w := w.alloc (.cells (madeCells #[.int .i64 0] n) 3)) (b := w.heap.size)
    (by simpa using World.rowIs_made w (.int .i64 0) n 3) (Nat.le_refl _) (Nat.lt_succ_self _) (by simpa using hm) (fun i _ => by rw [iat_zeros])
  simpa using h
theorem made_cell {w : World} {o : Obj} {u : Value} {t : TypeId} : ((w.alloc o).alloc (.cells #[u] t)).cell? ⟨w.heap.size + 1, 0, none⟩ = some u := by
  have : w.heap.size + 1 = (w.alloc o).heap.size := by simp
  rw [this, cell_of_row _ _ 0 #[u] t (0, 0) (heap_alloc_new _ _)]
  rfl
theorem four_cell {w : World} {b q : Nat} {t : TypeId} (h : w.heap[b]? = some (.cells #[.int .i64 2, .int .i64 5, .int .i64 12, .int .i64 30] t (0, 0))) (hq : q < 4) : ∃ y : Int, 2 ≤ y ∧ y ≤ 30 ∧ w.cell? ⟨b, q, none⟩ = some (.int .i64 y) := by
  rw [cell_of_row w b q _ t (0, 0) h]
  match q, hq with
  | 0, _ => exact ⟨2, by omega, by omega, rfl⟩
  | 1, _ => exact ⟨5, by omega, by omega, rfl⟩
  | 2, _ => exact ⟨12, by omega, by omega, rfl⟩
  | 3, _ => exact ⟨30, by omega, by omega, rfl⟩

/-- What l20Far leaves. -/
def FarP (R k : Nat) (w : World) (e : Ending) (w' : World) : Prop :=
  ∃ n v d, e = .returned v ∧ MMem w.heap.size w'.heap.size w' v d ∧ Fit n 0 60 d ∧ 1 ≤ n ∧ n ≤ 6 ∧ Rd R (k + 60) w' ∧ Chg R (R + 1) w w'

theorem chg_below {B : Nat} {a b : World} (h : Below B a b) : Chg B a.heap.size a b := ⟨h.os, h.tape, h.output, h.size, fun k hk ho => h.block k (by omega)⟩

set_option maxHeartbeats 4000000 in
theorem far_any (R k0 : Nat) (most : Int) (w : World) (h : Rd R k0 w) (hk : k0 ≤ 1000) (hm1 : 1 ≤ most) (hm2 : most ≤ 6) :
    Calls Try.prog 73 #[.pointer (some ⟨R, 0, none⟩), .int .i64 most] w (FarP R k0 w) := by
  have HP := Lib.hid <| pick_any R k0 most w h (by omega) (by omega) (by omega)
  clear h
  go_enter Try.func73, Try.ntmps73
  go_wp2_with fail
  refine HP.out.mono ?_
  rintro e w1 ⟨x, rfl, hx0, hx1, _, hrd, hch⟩
  obtain ⟨n, hn⟩ : ∃ n : Nat, 1 + x = (n : Int) := ⟨(1 + x).toNat, by omega⟩
  have hn1 : 1 ≤ n := by omega
  have hn6 : n ≤ 6 := by have := hx1 hm1; omega
  have HR := Lib.hid hrd
  have HC := Lib.hid hch
  have HRS : Hid (R < w1.heap.size ∧ w.heap.size ≤ w1.heap.size) := ⟨hrd.lt, hch.size⟩
  clear hrd hch hx1 HP
  go_wp2
  go_loopw [6, 7] (fun ov kv wr => ∃ k : Nat, k ≤ n ∧ kv = .int .i64 k ∧ Hid (MMem w1.heap.size wr.heap.size wr ov (zeros n k)) ∧ Hid (Below w1.heap.size w1 wr)) (fun _ kv _ => n - (intOf kv).toNat)
  case atStart => exact ⟨0, Nat.zero_le _, rfl, (MMem.empty w1).widen (Nat.le_refl _) (by simp), (Below.refl _ _).alloc (Nat.le_refl _) _⟩
  case round =>
    obtain ⟨k, hk', rfl, HI, HB⟩ := hrel
    by_cases hklt : k < n
    · have hs2 := HB.out.size
      have hmk := run_make_row' (P := Try.prog) 37 3 (.int .i64 0) 8 Try.underlying37 info_int rfl .i64 .i64 n (by omega) (by omega)
      have hki : (k : Int) < (n : Int) := by omega
      go_wp2_with (at_builtin; refine wp_appM _ rfl _ _ rfl w1.heap.size wr.heap.size _ _ _ _ (List.replicate n 0) rfl ((HI.out.alloc _).alloc _) ((IMem.zeros wr (by rw [maxLen_val]; omega)).alloc _) hs2 (wr.heap.size + 1) 1 rfl made_cell (by rw [zeros_length]; omega) (by simp; omega) ?_; intro v' w' hI' hB')
      rw [zeros_succ] at hI'
      have HI3 : Hid (MMem w1.heap.size w'.heap.size w' v' (zeros n (k + 1))) := hI'
      have HB3 : Hid (Below w1.heap.size w1 w') := (((HB.out.alloc (by simpa using hs2) _).alloc (by simp; omega) _).trans hB')
      clear hI' hB' hmk
      go_wp2
      go_roundw
      case rel => exact ⟨k + 1, by omega, by go_num, HI3, HB3⟩
      case measure => simp [intOf]; omega
    · have hke : k = n := by omega
      subst hke
      have HP2 : Hid (∀ o, Calls Try.prog 56 #[.pointer (some ⟨R, 0, none⟩), .int .i64 4] (wr.alloc o) (Picked R (k0 + 1) 4 (wr.alloc o))) :=
        fun o => pick_any R (k0 + 1) 4 _ (HR.out.fresh (HB.out.alloc HB.out.size _)) (by omega) (by omega) (by omega)
      obtain ⟨bo, co, _, _, rfl, _⟩ := id HI.out.open
      rw [zeros_length] at HI ⊢
      go_wp2_with fail
      refine (HP2.out _).mono ?_
      rintro e w2 ⟨x2, rfl, hy0, hy1, _, hrd, hch⟩
      obtain ⟨q, rfl⟩ : ∃ q : Nat, x2 = (q : Int) := ⟨x2.toNat, by omega⟩
      have hq4 : q < 4 := by have := hy1 (by omega); omega
      have hql : (q : Int) < 4 := by omega
      have hs2 := HB.out.size
      obtain ⟨y, hy2, hy30, hcell⟩ := four_cell ((hch.block wr.heap.size (by simp) (Or.inr (by have := HRS.out.1; omega))).trans (heap_alloc_new wr _)) hq4
      have HI2 : Hid (∃ d, MMem w1.heap.size wr.heap.size w2 (.slice (some ⟨bo, 0, none⟩) k co) d ∧ Fit k 0 60 d) := ⟨_, (HI.out.alloc _).chg hch (Or.inr HRS.out.1), fit_zeros k⟩
      have HC2 : Hid (Chg R (R + 1) w w2) := (HC.out.trans (chg_of_below (HB.out.alloc hs2 _))).trans hch
      have HR2 : Hid (Rd R (k0 + 2) w2) := hrd
      have HS0 : Hid (R < w1.heap.size ∧ w.heap.size ≤ w1.heap.size ∧ w1.heap.size ≤ wr.heap.size) := ⟨HRS.out.1, HRS.out.2, hs2⟩
      clear hy1 hrd hch HP2 HC HR HRS HI HB hx0 hn hs2
      generalize wr.heap.size = H0 at *
      generalize w1.heap.size = L0 at *
      go_wp2
      go_loopw [9] (fun kv wr => ∃ m : Nat, m ≤ k ∧ kv = .int .i64 m ∧ Hid (∃ d, MMem L0 H0 wr (.slice (some ⟨bo, 0, none⟩) k co) d ∧ Fit k 0 60 d) ∧ Hid (Chg R (R + 1) w wr) ∧ Hid (Rd R (k0 + 2 + 6 * m) wr)) (fun kv _ => k - (intOf kv).toNat)
      case atStart => exact ⟨0, Nat.zero_le _, rfl, HI2, HC2, HR2⟩
      case round =>
        clear HI2 HC2 HR2
        obtain ⟨m, hm, rfl, HI2, HC2, HR2⟩ := hrel
        by_cases hmlt : m < k
        · go_wp2
          go_loopw [10] (fun jv wr => ∃ j : Nat, j ≤ m ∧ jv = .int .i64 j ∧ Hid (∃ d, MMem L0 H0 wr (.slice (some ⟨bo, 0, none⟩) k co) d ∧ Fit k 0 60 d) ∧ Hid (Chg R (R + 1) w wr) ∧ Hid (Rd R (k0 + 2 + 6 * m + j) wr)) (fun jv _ => m - (intOf jv).toNat)
          case atStart => exact ⟨0, Nat.zero_le _, rfl, HI2, HC2, HR2⟩
          case round =>
            clear HI2 HC2 HR2
            obtain ⟨j, hj, rfl, HI2, HC2, HR2⟩ := hrel
            by_cases hjlt : j < m
            · have HP := Lib.hid <| pick_any R _ y _ HR2.out (by omega) (by omega) (by omega)
              go_wp2_with fail
              refine HP.out.mono ?_
              rintro e w3 ⟨z, rfl, hz0, hz1, _, hrd3, hch3⟩
              have hz1 := hz1 (by omega)
              obtain ⟨d, hM0, hF⟩ := HI2.out
              have hM := hM0.chg hch3 (Or.inr HS0.out.1)
              obtain ⟨g, c, c1, g1, g2, hc, hfz, hset⟩ := hM.at_ (i := m) (by rw [hF.len]; exact hmlt)
              rw [hF.rows m hmlt] at c1 hc hset
              have f1 := hfz j
              have c1' := hc j (by omega)
              have hM2 := hset j (1 + z) (by omega)
              have hF2 := hF.set (i := m) (j := j) hmlt (by omega) (x := 1 + z) (by omega) (by omega)
              obtain ⟨g', c', c2, g3, g4, hc', hfz', hset'⟩ := hM2.at_ (i := j) (by rw [hF2.len]; omega)
              rw [hF2.rows j (by omega)] at c2 hc' hset'
              have f2 := hfz' m
              have c2' := hc' m (by omega)
              have HI3 : Hid (∃ d, MMem L0 H0 ((w3.setCell ⟨g, j, none⟩ (.int .i64 (1 + z))).setCell ⟨g', m, none⟩ (.int .i64 (1 + z))) (.slice (some ⟨bo, 0, none⟩) k co) d ∧ Fit k 0 60 d) := ⟨_, hset' m (1 + z) hmlt, hF2.set (by omega) hmlt (by omega) (by omega)⟩
              have hw : Chg L0 H0 w3 ((w3.setCell ⟨g, j, none⟩ (.int .i64 (1 + z))).setCell ⟨g', m, none⟩ (.int .i64 (1 + z))) := ((Chg.refl _ _ _).setCell (p := ⟨g, j, none⟩) g1 g2 _).setCell (p := ⟨g', m, none⟩) g3 g4 _
              have HC3 := Lib.hid ((HC2.out.trans hch3).since hw HS0.out.2.1)
              have HR3 := Lib.hid (hrd3.chg hw HS0.out.1)
              have hmi : (m : Int) < (k : Int) := by omega
              have hji : (j : Int) < (k : Int) := by omega
              clear hw hset' hc' hfz' hset hc hfz hM hM0 hM2 hF hF2 HI2 hrd3 hch3 HP
              go_wp2
              go_roundw
              case rel => exact ⟨j + 1, by omega, by go_num, HI3, HC3, HR3⟩
              case measure => simp [intOf]; omega
            · go_wp2
              go_roundw
              case rel => exact ⟨m + 1, by omega, by go_num, HI2, HC2, HR2.out.more (by omega)⟩
              case measure => simp [intOf]; omega
        · go_wp2
          go_ret
          obtain ⟨d, hM, hF⟩ := HI2.out
          exact ⟨_, _, d, rfl, hM.top.widen HS0.out.2.1 (Nat.le_refl _), hF, hn1, hn6, HR2.out.more (by omega), HC2.out⟩

end Go.Proofs.Ytclffncimaigfaa
