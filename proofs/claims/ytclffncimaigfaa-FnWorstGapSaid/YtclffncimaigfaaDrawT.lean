/- The trees that the laws draw. Conditions: as each theorem says. -/
import Derived.Test.YtclffncimaigfaaCat
namespace Go.Proofs.Ytclffncimaigfaa
set_option linter.unusedVariables false
set_option linter.unusedSimpArgs false
open Go.RowKit Go.Deep

theorem IMem.grown {lo hi : Nat} {w w' : World} {u : Value} {g : List Int} {o : Option Nat} (h : IMem lo hi w u g) (hg : w.grownBy w' o) (hne : u.ownBlock ≠ o) : IMem lo hi w' u g := by
  obtain ⟨b, cap, cur, rfl, h1, h2, h3, h4, h5, h6, h7⟩ := h
  exact ⟨b, cap, cur, rfl, h1, h2, h3, h4, (hg.block b (lt_of_heap h5) hne).trans h5, h6, h7⟩
/-- What holds while two rows are drawn. -/
def InT (R k : Nat) (w wr : World) (v : Value) (f : List Int) (u : Value) (g : List Int) : Prop :=
  IMem w.heap.size wr.heap.size wr v f ∧ IMem w.heap.size wr.heap.size wr u g ∧ v.ownBlock ≠ u.ownBlock ∧ Rd R k wr ∧ Chg R (R + 1) w wr ∧ R + 1 ≤ w.heap.size
section
variable {R k k' : Nat} {w wr w' : World} {v v' u : Value} {f f' g : List Int}
theorem InT.picked (h : InT R k w wr v f u g) (hr : Rd R k' w') (hc : Chg R (R + 1) wr w') : InT R k' w w' v f u g := by
  obtain ⟨h1, h2, h3, h4, h5, h6⟩ := h
  exact ⟨(h1.chg hc (Or.inr h6)).top, (h2.chg hc (Or.inr h6)).top, h3, hr, h5.trans hc, h6⟩
theorem InT.more (h : InT R k w wr v f u g) (hk : k ≤ k') : InT R k' w wr v f u g := by
  obtain ⟨h1, h2, h3, h4, h5⟩ := h
  exact ⟨h1, h2, h3, h4.more hk, h5⟩
theorem InT.swap (h : InT R k w wr v f u g) : InT R k w wr u g v f := by
  obtain ⟨h1, h2, h3, h4⟩ := h
  exact ⟨h2, h1, fun e => h3 e.symm, h4⟩
theorem InT.grown {o : Obj} (h : InT R k w wr v f u g) (hI : IMem w.heap.size w'.heap.size w' v' f') (hb : Below w.heap.size (wr.alloc o) w') (hg : (wr.alloc o).grownBy w' v.ownBlock)
    (hat : v'.ownBlock = v.ownBlock ∨ v'.ownBlock = some (wr.alloc o).heap.size) : InT R k w w' v' f' u g := by
  obtain ⟨h1, h2, h3, h4, h5, h6⟩ := h
  have hw := h5.size
  have hB : Below w.heap.size wr w' := ((Below.refl _ _).alloc hw _).trans hb
  refine ⟨hI, ((h2.alloc o).grown hg fun e => h3 e.symm).top, ?_, h4.chg (chg_below hB) h6, h5.since (chg_below hB) (Nat.le_refl _), h6⟩
  rcases hat with e | e
  · rw [e]; exact h3
  · obtain ⟨q, hq, _, _, hq2, _⟩ := h2.blk
    rw [e, hq]
    intro e2
    injection e2 with e2
    simp at e2
    omega
end
theorem app_all {P : Int → Prop} {f : List Int} {x : Int} (hf : ∀ i, i < f.length → P (iat f i)) (hx : P x) : ∀ i, i < (f ++ [x]).length → P (iat (f ++ [x]) i) := by
  intro i hi
  unfold iat
  rw [List.getD_eq_getElem?_getD, List.getElem?_append]
  by_cases e : i < f.length
  · rw [if_pos e, ← List.getD_eq_getElem?_getD]
    exact hf i e
  · have : i = f.length := by simp at hi; omega
    subst this
    simpa using hx
/-- The rows after some rounds. -/
structure TS (N k : Nat) (f g : List Int) : Prop where
  fl : f.length = N - k
  gl : g.length = min (N - k) (N - 1)
  fb : ∀ i, i < f.length → 1 ≤ iat f i ∧ iat f i ≤ 5
  gb : ∀ i, i < g.length → 0 ≤ iat g i ∧ iat g i ≤ 4
theorem Space.dn {d : List (List Int)} (h : Space d) : Dn d :=
  ⟨h.six, fun i hi => by rw [h.sq i hi]; have := h.six; omega, fun i j hi hj => by rw [h.sq i hi] at hj; exact ⟨(h.ent i j hi hj).1, (h.ent i j hi hj).2.1⟩⟩
/-- What l20Tree leaves. -/
def TreeP (R k : Nat) (w : World) (e : Ending) (w' : World) : Prop := ∃ v d, e = .returned v ∧ MMem w.heap.size w'.heap.size w' v d ∧ Dn d ∧ Rd R (k + 90) w' ∧ Chg R (R + 1) w w'

set_option maxRecDepth 100000 in
set_option maxHeartbeats 4000000 in
theorem tree_any (R k0 : Nat) (m : Int) (w : World) (h : Rd R k0 w) (hk : k0 ≤ 100) (hm1 : 1 ≤ m) (hm2 : m ≤ 1000) : Calls Try.prog 67 #[.pointer (some ⟨R, 0, none⟩), .int .i64 m] w (TreeP R k0 w) := by
  have hRw := h.lt
  have HT0 : Hid (InT R (k0 + 0) w ((w.alloc (.cells #[] 3)).alloc (.cells #[] 3)) (.slice (some ⟨w.heap.size, 0, none⟩) 0 0) [] (.slice (some ⟨w.heap.size + 1, 0, none⟩) 0 0) []) := by
    have hb : Below w.heap.size w ((w.alloc (.cells #[] 3)).alloc (.cells #[] 3)) := ((Below.refl _ _).alloc (Nat.le_refl _) _).alloc (by simp) _
    have h2 := IMem.empty (w.alloc (.cells #[] 3))
    have e1 : (w.alloc (.cells #[] 3)).heap.size = w.heap.size + 1 := by simp
    rw [e1] at h2
    exact ⟨((IMem.empty w).alloc _).widen (Nat.le_refl _) (by simp), h2.widen (by omega) (by simp), by simp [Value.ownBlock], h.fresh hb, chg_of_below hb, hRw⟩
  have HP := Lib.hid <| pick_any R (k0 + 0) 5 _ HT0.out.2.2.2.1 (by omega) (by omega) (by omega)
  clear h
  go_enter Try.func67, Try.ntmps67
  go_wp2_with fail
  refine HP.out.mono ?_
  rintro e w1 ⟨x, rfl, hx0, hx1, _, hrd, hch⟩
  obtain ⟨N, hN⟩ : ∃ N : Nat, 2 + x = (N : Int) := ⟨(2 + x).toNat, by omega⟩
  have hN2 : 2 ≤ N := by omega
  have hN6 : N ≤ 6 := by have := hx1 (by omega); omega
  have HT1 : Hid (InT R (k0 + 0 + 1 + 2 * (N - N)) w w1 (.slice (some ⟨w.heap.size, 0, none⟩) 0 0) [] (.slice (some ⟨w.heap.size + 1, 0, none⟩) 0 0) []) := HT0.out.picked (hrd.more (by omega)) hch
  have HS1 : Hid (TS N N [] []) := by exact ⟨by simp, by simp, fun i hi => absurd hi (by simp), fun i hi => absurd hi (by simp)⟩
  clear hrd hch hx1 HP HT0
  go_wp2
  go_loopw [5, 6, 7] (fun lv sv kv wr => ∃ (k : Nat) (f g : List Int), k ≤ N ∧ kv = .int .i64 k ∧ Hid (TS N k f g) ∧ Hid (InT R (k0 + 0 + 1 + 2 * (N - k)) w wr lv f sv g)) (fun _ _ kv _ => (intOf kv).toNat)
  case atStart => exact ⟨N, [], [], Nat.le_refl _, by first | rfl | (rw [← hN]), HS1, HT1⟩
  case round =>
    clear HS1 HT1 hN hx0
    obtain ⟨k, f, g, hkN, rfl, HS, HT⟩ := hrel
    by_cases hk0 : 0 < k
    · have hk0i : (0 : Int) < (k : Int) := by omega
      have HP := Lib.hid <| pick_any R (k0 + 0 + 1 + 2 * (N - k)) 5 _ HT.out.2.2.2.1 (by omega) (by omega) (by omega)
      go_wp2_with fail
      refine HP.out.mono ?_
      rintro e w2 ⟨x1, rfl, hx0, hx1, _, hrd, hch⟩
      have hx1 := hx1 (by omega)
      have HT2 := Lib.hid (HT.out.picked hrd hch)
      have hlo : w.heap.size ≤ w2.heap.size := HT2.out.2.2.2.2.1.size
      have hlb : f.length ≤ 6 := by have := HS.out.fl; omega
      clear hrd hch HT HP
      by_cases hk1 : 1 < k
      · have hk1i : (1 : Int) < (k : Int) := by omega
        go_wp2_with (at_builtin; refine wp_app_at _ rfl _ _ rfl w.heap.size _ _ f rfl (HT2.out.1.alloc _) w2.heap.size 0 1 1 [1 + x1] rfl rfl one_cell (by omega) (by simp; omega) ?_; intro v2 w3 hI2 hB2 hg2 hat2; have HT3 := Lib.hid (HT2.out.grown hI2 hB2 hg2 hat2); clear hI2 hB2 hg2 hat2 HT2)
        have HP := Lib.hid <| pick_any R (k0 + 0 + 1 + 2 * (N - k) + 1) 5 _ HT3.out.2.2.2.1 (by omega) (by omega) (by omega)
        go_wp2_with fail
        refine HP.out.mono ?_
        rintro e w4 ⟨x2, rfl, hy0, hy1, _, hrd, hch⟩
        have hy1 := hy1 (by omega)
        have HT4 := Lib.hid (HT3.out.picked hrd hch).swap
        have hlo : w.heap.size ≤ w4.heap.size := HT4.out.2.2.2.2.1.size
        have hlg : g.length ≤ 6 := by have := HS.out.gl; omega
        clear hrd hch HT3 HP
        go_wp2_with (at_builtin; refine wp_app_at _ rfl _ _ rfl w.heap.size _ _ g rfl (HT4.out.1.alloc _) w4.heap.size 0 1 1 [x2] rfl rfl one_cell (by omega) (by simp; omega) ?_; intro v3 w5 hI2 hB2 hg2 hat2; have HT5 := Lib.hid (HT4.out.grown hI2 hB2 hg2 hat2).swap; clear hI2 hB2 hg2 hat2 HT4)
        have hkk : N - (k - 1) = N - k + 1 := by omega
        have HS5 : Hid (TS N (k - 1) (f ++ [1 + x1]) (g ++ [x2])) := by
          have h := HS.out
          exact ⟨by rw [List.length_append, h.fl]; simp; omega, by rw [List.length_append, h.gl]; simp; omega, app_all (P := fun z => 1 ≤ z ∧ z ≤ 5) h.fb ⟨by omega, by omega⟩, app_all (P := fun z => 0 ≤ z ∧ z ≤ 4) h.gb ⟨by omega, by omega⟩⟩
        have HT6 : Hid (InT R (k0 + 0 + 1 + 2 * (N - (k - 1))) w w5 v2 (f ++ [1 + x1]) v3 (g ++ [x2])) := by rw [hkk]; exact HT5.out
        clear HT5 HS hkk
        go_wp2
        go_roundw
        case rel => exact ⟨k - 1, _, _, by omega, by congr 1; omega, HS5, HT6⟩
        case measure => simp [intOf]; omega
      · have hk1i : decide ((1 : Int) < (k : Int)) = false := by simp; omega
        have hk1n : decide (1 < k) = false := by simp; omega
        have hkk : k - 1 = 0 := by omega
        go_wp2_with (at_builtin; refine wp_app_at _ rfl _ _ rfl w.heap.size _ _ f rfl (HT2.out.1.alloc _) w2.heap.size 0 1 1 [1 + x1] rfl rfl one_cell (by omega) (by simp; omega) ?_; intro v2 w3 hI2 hB2 hg2 hat2; have HT3 := Lib.hid (HT2.out.grown hI2 hB2 hg2 hat2); clear hI2 hB2 hg2 hat2 HT2)
        have HS5 : Hid (TS N (k - 1) (f ++ [1 + x1]) g) := by
          have h := HS.out
          exact ⟨by rw [List.length_append, h.fl]; simp; omega, by rw [h.gl]; omega, app_all (P := fun z => 1 ≤ z ∧ z ≤ 5) h.fb ⟨by omega, by omega⟩, h.gb⟩
        have HT6 := Lib.hid (HT3.out.more (show _ ≤ k0 + 0 + 1 + 2 * (N - (k - 1)) by omega))
        clear HT3 HS hkk
        go_wp2
        go_roundw
        case rel => exact ⟨k - 1, _, _, by omega, by congr 1; omega, HS5, HT6⟩
        case measure => simp [intOf]; omega
    · have hke : k = 0 := by omega
      subst hke
      have hfl := HS.out.fl
      have hgl := HS.out.gl
      have hc := cat_any _ _ _ _ _ _ g f _ HT.out.2.1 HT.out.1 (by omega) (by omega) (by omega) HS.out.fb HS.out.gb
      have HC := Lib.hid <| hc
      obtain ⟨lb, lc, rfl, -⟩ := id HT.out.1.open
      obtain ⟨sb, sc, rfl, -⟩ := id HT.out.2.1.open
      have HTT : Hid (Rd R (k0 + 13) wr ∧ Chg R (R + 1) w wr) := by
        obtain ⟨h1, h2, h3, h4, h5, h6⟩ := HT.out
        exact ⟨h4.more (by omega), h5⟩
      clear hc hfl hgl HS HT
      go_wp2_with fail
      refine HC.out.mono ?_
      rintro e w4 ⟨vd, d, ok, rfl, hM, hok, hb⟩
      have HR : Hid (Rd R (k0 + 13) w4) := HTT.out.1.fresh hb
      have HC4 : Hid (Chg R (R + 1) w w4) := HTT.out.2.trans (chg_of_below hb)
      have HM := Lib.hid (hM.widen HTT.out.2.size (Nat.le_refl _))
      have hM := HM.out
      obtain ⟨db, dc, _, _, rfl, -⟩ := id hM.open
      have HOK := Lib.hid hok
      clear hM hok hb HC HTT
      cases ok
      · have HC := HC4
        clear HC4 HOK HM
        go_wp2_with fail
        refine (space_any R _ 6 m _ HR.out (by omega) (by omega) (by omega) hm1 hm2).mono ?_
        rintro e w9 ⟨vd, d, rfl, hM, hd, hrd, hch⟩
        have HM := Lib.hid (hM.widen HC.out.size (Nat.le_refl _))
        have HD := Lib.hid hd
        have HR9 := Lib.hid hrd
        have HC9 : Hid (Chg R (R + 1) w w9) := HC.out.trans hch
        clear hM hd hrd hch HR HC
        go_wp2
        go_ret
        exact ⟨_, d, rfl, HM.out, HD.out, HR9.out.more (by omega), HC9.out⟩
      · have HSP := Lib.hid (HOK.out rfl)
        have HP := Lib.hid <| pick_any R (k0 + 13) 3 _ HR.out (by omega) (by omega) (by omega)
        clear HOK HR
        go_wp2_with fail
        refine HP.out.mono ?_
        rintro e w5 ⟨y, rfl, hy0, hy1, _, hrd, hch⟩
        have HR := Lib.hid hrd
        have HC : Hid (Chg R (R + 1) w w5) := HC4.out.trans hch
        have HM5 := Lib.hid (HM.out.chg hch (Or.inr hRw)).top
        clear hrd hch HC4 HM HP
        by_cases hy : y = 0
        · have hyb : (y == 0) = true := by simpa using hy
          clear hy hy0 hy1 HM5
          go_wp2_with fail
          refine (space_any R _ 6 m _ HR.out (by omega) (by omega) (by omega) hm1 hm2).mono ?_
          rintro e w9 ⟨vd, d, rfl, hM, hd, hrd, hch⟩
          have HM := Lib.hid (hM.widen HC.out.size (Nat.le_refl _))
          have HD := Lib.hid hd
          have HR9 := Lib.hid hrd
          have HC9 : Hid (Chg R (R + 1) w w9) := HC.out.trans hch
          clear hM hd hrd hch HR HC
          go_wp2
          go_ret
          exact ⟨_, d, rfl, HM.out, HD.out, HR9.out.more (by omega), HC9.out⟩
        · have hyb : (y == 0) = false := by simpa using hy
          clear hy hy0 hy1
          go_wp2
          go_ret
          exact ⟨_, d, rfl, HM5.out, HSP.out.dn, HR.out.more (by omega), HC.out⟩

end Go.Proofs.Ytclffncimaigfaa
