/- The spaces that DrawTreeOk, DrawWorstGap and DrawTogetherFrom hand back. Conditions: as each theorem says. -/
import Derived.Test.YtclffncimaigfaaDrawT
namespace Go.Proofs.Ytclffncimaigfaa
set_option linter.unusedVariables false
set_option linter.unusedSimpArgs false
open Go.RowKit Go.Deep

theorem results_tmp4 {fn : Func} {t u v x : Tmp} (h : fn.results = #[.tmp t, .tmp u, .tmp v, .tmp x]) (tmps : Array Value) (P : Program) (w : World) :
    (results fn tmps).run P w = .ok (.tuple #[tmps.getD t undef, tmps.getD u undef, tmps.getD v undef, tmps.getD x undef]) w := by
  simp [results, h]
theorem results_tmp5 {fn : Func} {t u v x y : Tmp} (h : fn.results = #[.tmp t, .tmp u, .tmp v, .tmp x, .tmp y]) (tmps : Array Value) (P : Program) (w : World) :
    (results fn tmps).run P w = .ok (.tuple #[tmps.getD t undef, tmps.getD u undef, tmps.getD v undef, tmps.getD x undef, tmps.getD y undef]) w := by
  simp [results, h]

/-- What l20Fours leaves. -/
def FoursP (R k : Nat) (w : World) (e : Ending) (w' : World) : Prop :=
  ∃ v d, ∃ a b c x : Int, e = .returned (.tuple #[v, .int .i64 a, .int .i64 b, .int .i64 c, .int .i64 x]) ∧ MMem w.heap.size w'.heap.size w' v d ∧ Dn d ∧ Chg R (R + 1) w w'
def FHold (R k : Nat) (w wr : World) (v : Value) (d : List (List Int)) : Prop := MMem w.heap.size wr.heap.size wr v d ∧ Rd R k wr ∧ Chg R (R + 1) w wr ∧ R + 1 ≤ w.heap.size
theorem FHold.picked {R k k' : Nat} {w wr w' : World} {v : Value} {d : List (List Int)} (h : FHold R k w wr v d) (hr : Rd R k' w') (hc : Chg R (R + 1) wr w') : FHold R k' w w' v d := by
  obtain ⟨h1, h2, h3, h4⟩ := h
  exact ⟨(h1.chg hc (Or.inr h4)).top, hr, h3.trans hc, h4⟩
set_option maxRecDepth 100000 in
set_option maxHeartbeats 2000000 in
theorem fours_any (R k0 : Nat) (w : World) (h : Rd R k0 w) (hk : k0 ≤ 100) : Calls Try.prog 64 #[.pointer (some ⟨R, 0, none⟩)] w (FoursP R k0 w) := by
  have hRw := h.lt
  have HP := Lib.hid <| tree_any R k0 12 w h hk (by omega) (by omega)
  clear h
  go_enter Try.func64, Try.ntmps64
  go_wp2_with fail
  refine HP.out.mono ?_
  rintro e w1 ⟨v, d, rfl, hM, hd, hrd, hch⟩
  have hd6 := hd.six
  obtain ⟨db, dc, _, _, rfl, -⟩ := id hM.open
  have HS : Hid (FHold R (k0 + 90) w w1 (.slice (some ⟨db, 0, none⟩) d.length dc) d) := ⟨hM, hrd, hch, hRw⟩
  have HD := Lib.hid hd
  clear hM hrd hch hd HP
  by_cases h1 : d.length < 1
  · have h1i : (d.length : Int) < 1 := by omega
    go_wp2_with fail
    refine (pick_any R _ _ _ HS.out.2.1 (by omega) (by omega) (by omega)).mono ?_
    rintro e w2 ⟨x1, rfl, hx0, hx1, hx2, hrd, hch⟩
    have hx6 : x1 ≤ 6 := by omega
    have HS2 := Lib.hid (FHold.picked HS.out hrd hch)
    clear hrd hch HS hx1 hx2
    go_wp2_with fail
    refine (pick_any R _ _ _ HS2.out.2.1 (by omega) (by omega) (by omega)).mono ?_
    rintro e w3 ⟨x2, rfl, hy0, hy1, _, hrd, hch⟩
    have hy1 := hy1 (by omega)
    have HS3 := Lib.hid (FHold.picked HS2.out hrd hch)
    have hq : 0 ≤ x2 / 19 ∧ x2 / 19 ≤ 1 := by omega
    clear hrd hch HS2
    go_wp2_with fail
    refine (pick_any R _ _ _ HS3.out.2.1 (by omega) (by omega) (by omega)).mono ?_
    rintro e w4 ⟨x3, rfl, _, _, _, hrd, hch⟩
    have HS4 := Lib.hid (FHold.picked HS3.out hrd hch)
    clear hrd hch HS3
    go_wp2_with fail
    refine (pick_any R _ _ _ HS4.out.2.1 (by omega) (by omega) (by omega)).mono ?_
    rintro e w5 ⟨x4, rfl, _, _, _, hrd, hch⟩
    have HS5 := Lib.hid (FHold.picked HS4.out hrd hch)
    clear hrd hch HS4
    go_wp2_with fail
    refine (pick_any R _ _ _ HS5.out.2.1 (by omega) (by omega) (by omega)).mono ?_
    rintro e w6 ⟨x5, rfl, _, _, _, hrd, hch⟩
    have HS6 := Lib.hid (FHold.picked HS5.out hrd hch)
    clear hrd hch HS5
    go_wp2
    (try simp only [Exit.inBlock, Exit.then]); refine bodyPost_ret (results_tmp5 rfl _ _ _) rfl ?_
    obtain ⟨h1, h2, h3, h4⟩ := HS6.out
    exact ⟨_, d, _, _, _, _, rfl, h1, HD.out, h3⟩
  · have h1n : decide (d.length < 1) = false := decide_eq_false h1
    have h1i : decide ((d.length : Int) < 1) = false := decide_eq_false (by omega)
    go_wp2_with fail
    refine (pick_any R _ _ _ HS.out.2.1 (by omega) (by omega) (by omega)).mono ?_
    rintro e w2 ⟨x1, rfl, hx0, hx1, hx2, hrd, hch⟩
    have hx6 : x1 ≤ 6 := by omega
    have HS2 := Lib.hid (FHold.picked HS.out hrd hch)
    clear hrd hch HS hx1 hx2
    go_wp2_with fail
    refine (pick_any R _ _ _ HS2.out.2.1 (by omega) (by omega) (by omega)).mono ?_
    rintro e w3 ⟨x2, rfl, hy0, hy1, _, hrd, hch⟩
    have hy1 := hy1 (by omega)
    have HS3 := Lib.hid (FHold.picked HS2.out hrd hch)
    have hq : 0 ≤ x2 / 19 ∧ x2 / 19 ≤ 1 := by omega
    clear hrd hch HS2
    go_wp2_with fail
    refine (pick_any R _ _ _ HS3.out.2.1 (by omega) (by omega) (by omega)).mono ?_
    rintro e w4 ⟨x3, rfl, _, _, _, hrd, hch⟩
    have HS4 := Lib.hid (FHold.picked HS3.out hrd hch)
    clear hrd hch HS3
    go_wp2_with fail
    refine (pick_any R _ _ _ HS4.out.2.1 (by omega) (by omega) (by omega)).mono ?_
    rintro e w5 ⟨x4, rfl, _, _, _, hrd, hch⟩
    have HS5 := Lib.hid (FHold.picked HS4.out hrd hch)
    clear hrd hch HS4
    go_wp2_with fail
    refine (pick_any R _ _ _ HS5.out.2.1 (by omega) (by omega) (by omega)).mono ?_
    rintro e w6 ⟨x5, rfl, _, _, _, hrd, hch⟩
    have HS6 := Lib.hid (FHold.picked HS5.out hrd hch)
    clear hrd hch HS5
    go_wp2
    (try simp only [Exit.inBlock, Exit.then]); refine bodyPost_ret (results_tmp5 rfl _ _ _) rfl ?_
    obtain ⟨h1, h2, h3, h4⟩ := HS6.out
    exact ⟨_, d, _, _, _, _, rfl, h1, HD.out, h3⟩

def DrewT (w : World) (e : Ending) (w' : World) : Prop := ∃ v d, e = .returned v ∧ MMem 0 w'.heap.size w' v d ∧ Dn d ∧ Below w.heap.size w w'
def DrewT4 (w : World) (e : Ending) (w' : World) : Prop := ∃ v d, ∃ a b c : Int, e = .returned (.tuple #[v, .int .i64 a, .int .i64 b, .int .i64 c]) ∧ MMem 0 w'.heap.size w' v d ∧ Dn d ∧ Below w.heap.size w w'
set_option maxHeartbeats 1000000 in
theorem drawTogetherFrom_any (v : Value) (n : Nat) (w : World) (h : BIn w v n) : Calls Try.prog 35 #[v] w (DrewT4 w) := by
  go_enter Try.func35, Try.ntmps35
  go_wp2_with fail
  refine (open_any v n w h).mono ?_
  rintro e w1 ⟨rfl, hrd, hb⟩
  have hl := hrd.lt
  have HL := Lib.hid hl
  have HB := Lib.hid hb
  clear hl hb h
  go_wp2_with fail
  refine (fours_any _ 0 _ hrd (by omega)).mono ?_
  clear hrd
  rintro e w2 ⟨vd, d, a, b, c, x, rfl, hM, hd, hch⟩
  have HM := Lib.hid hM
  have HD := Lib.hid hd
  have HB2 : Hid (Below w.heap.size w w2) := HB.out.trans (hch.below HB.out.size (Nat.le_refl _))
  clear hM hd hch
  go_wp2
  (try simp only [Exit.inBlock, Exit.then]); refine bodyPost_ret (results_tmp4 rfl _ _ _) rfl ?_
  exact ⟨vd, d, a, b, c, rfl, HM.out.widen (Nat.zero_le _) (Nat.le_refl _), HD.out, HB2.out⟩
set_option maxHeartbeats 1000000 in
theorem drawWorstGap_any (v : Value) (n : Nat) (w : World) (h : BIn w v n) : Calls Try.prog 39 #[v] w (DrewT w) := by
  go_enter Try.func39, Try.ntmps39
  go_wp2_with fail
  refine (open_any v n w h).mono ?_
  rintro e w1 ⟨rfl, hrd, hb⟩
  have hl := hrd.lt
  have HL := Lib.hid hl
  have HB := Lib.hid hb
  clear hl hb h
  go_wp2_with fail
  refine (tree_any _ 0 6 _ hrd (by omega) (by omega) (by omega)).mono ?_
  clear hrd
  rintro e w2 ⟨vd, d, rfl, hM, hd, hrd, hch⟩
  have HM := Lib.hid hM
  have HD := Lib.hid hd
  have HB2 : Hid (Below w.heap.size w w2) := HB.out.trans (hch.below HB.out.size (Nat.le_refl _))
  clear hM hd hch hrd
  go_wp2
  go_ret
  exact ⟨vd, d, rfl, HM.out.widen (Nat.zero_le _) (Nat.le_refl _), HD.out, HB2.out⟩

/-- Rows by their numbers. -/
def genM (F : Nat → List Int) (k : Nat) : List (List Int) := (List.range k).map F
theorem genM_length (F : Nat → List Int) (k : Nat) : (genM F k).length = k := by simp [genM]
theorem row_genM {F : Nat → List Int} {k i : Nat} (h : i < k) : row (genM F k) i = F i := by simp [genM, row, h]
theorem genM_succ (F : Nat → List Int) (k : Nat) : genM F (k + 1) = genM F k ++ [F k] := by simp [genM, List.range_succ]
theorem genM_rows (d : List (List Int)) : genM (row d) d.length = d := ext_row (genM_length _ _) fun i hi => by
  rw [genM_length] at hi
  rw [row_genM hi]
theorem row_cells {lo hi b cap m : Nat} {w : World} {f : List Int} (h : IMem lo hi w (.slice (some ⟨b, 0, none⟩) m cap) f) (hm : f.length = m) (o : Obj) : ∀ i, i < m → (w.alloc o).cell? ⟨b, 0 + i, none⟩ = some (.int .i64 (iat f i)) := fun i hi => by
  rw [Nat.zero_add]
  exact (h.alloc o).cellAt (by omega)
set_option maxHeartbeats 1000000 in
theorem l2Copy_any (lo hi : Nat) (v : Value) (d : List (List Int)) (w : World) (hd : MMem lo hi w v d) (h6 : d.length ≤ 6) (hr6 : ∀ i, i < d.length → (row d i).length ≤ 7) : Calls Try.prog 87 #[v] w fun e w' => ∃ r, e = .returned r ∧ MMem w.heap.size w'.heap.size w' r d ∧ Below w.heap.size w w' := by
  obtain ⟨db, dc, BB, CC, rfl, _, _, _, _, hcap, hcell, hrow, -⟩ := id hd.open
  rw [maxLen_val] at hcap
  have HC := Lib.hid hcell
  have HR := Lib.hid fun i hi => (hrow i hi).2.2.2.2.2.2
  have HG := Lib.hid (genM_rows d)
  have H7 := Lib.hid hr6
  clear hcell hrow hd hr6
  go_enter Try.func87, Try.ntmps87
  go_wp2
  go_loopw [3, 4] (fun ov kv wr => ∃ k : Nat, k ≤ d.length ∧ kv = .int .i64 k ∧ Hid (MMem w.heap.size wr.heap.size wr ov (genM (row d) k)) ∧ Hid (Below w.heap.size w wr)) (fun _ kv _ => d.length - (intOf kv).toNat)
  case atStart => exact ⟨0, Nat.zero_le _, rfl, (MMem.empty w).widen (Nat.le_refl _) (by simp), (Below.refl _ _).alloc (Nat.le_refl _) _⟩
  case round =>
    obtain ⟨k, hk, rfl, HM, HB⟩ := hrel
    by_cases hlt : k < d.length
    · have c1 := (HB.out.cell (p := ⟨db, k, none⟩) (World.block_lt_of_cell? w _ (HC.out k hlt))).trans (HC.out k hlt)
      have c2 : (wr.alloc (.cells #[] 3)).cell? ⟨db, k, none⟩ = some (.slice (some ⟨BB k, 0, none⟩) (row d k).length (CC k)) := (((Below.refl wr.heap.size wr).alloc (Nat.le_refl _) _).cell (p := ⟨db, k, none⟩) (World.block_lt_of_cell? wr _ c1)).trans c1
      have HI2 := Lib.hid ((HR.out k hlt).fresh HB.out)
      have hrl := H7.out k hlt
      have hs := HB.out.size
      have hml : (genM (row d) k).length = k := genM_length _ _
      have hki : (k : Int) < (d.length : Int) := by omega
      have HM2 := HM
      clear HM
      go_wp2_with (first
        | (at_builtin; refine wp_app _ rfl _ _ rfl wr.heap.size (wr.heap.size + 1) _ [] rfl (IMem.empty _) (BB k) 0 (row d k).length _ (row d k) rfl rfl (row_cells HI2.out rfl _) (by simp; omega) (by simp) ?_; intro v4 w4 hI4 hB4 _; rw [List.nil_append] at hI4; obtain ⟨rb, rc, rfl, -⟩ := id hI4.open; have HI4 := Lib.hid hI4; have HB4 := Lib.hid (((Below.refl wr.heap.size wr).alloc (Nat.le_refl _) _).trans hB4); have hs4 := HB4.out.size; have HM4 := Lib.hid (HM2.out.fresh HB4.out); clear hI4 hB4)
        | (at_builtin; refine wp_appM _ rfl _ _ rfl w.heap.size wr.heap.size _ _ _ _ (row d k) rfl (HM4.out.alloc _) (HI4.out.alloc _) hs w4.heap.size 1 rfl new_cell (by omega) (by simp; omega) ?_; intro v6 w6 hI6 hB6; rw [← genM_succ (row d) k] at hI6; have HM6 := Lib.hid hI6; have HB6 := Lib.hid (((below_chain HB.out HB4.out).alloc (by omega) _).trans hB6); clear hI6 hB6 HI4 HM4 hs4))
      clear c1 c2
      go_wp2
      go_roundw
      case rel => exact ⟨k + 1, by omega, by go_num, HM6, HB6⟩
      case measure => simp [intOf]; omega
    · have hke : k = d.length := by omega
      subst hke
      rw [HG.out] at HM
      go_wp2
      go_ret
      exact ⟨_, rfl, HM.out, HB.out⟩

end Go.Proofs.Ytclffncimaigfaa
