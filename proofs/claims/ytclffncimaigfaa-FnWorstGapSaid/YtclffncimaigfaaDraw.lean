/- The reader that the laws draw by: what l20Open, pick and odd do. Conditions: as each theorem says. -/
import Derived.Test.YtclffncimaigfaaMade
import Derived.Laws.BitsLemmas
namespace Go.Proofs.Ytclffncimaigfaa
set_option linter.unusedVariables false
set_option linter.unusedSimpArgs false
open Go.RowKit Go.Deep

/-- Of the blocks that were there, none but those from lo to hi has changed. -/
structure Chg (lo hi : Nat) (w w' : World) : Prop where
  os : w'.os = w.os
  tape : w'.tape = w.tape
  output : w'.output = w.output
  size : w.heap.size ≤ w'.heap.size
  block : ∀ k, k < w.heap.size → (k < lo ∨ hi ≤ k) → w'.heap[k]? = w.heap[k]?
theorem Chg.refl (lo hi : Nat) (w : World) : Chg lo hi w w := ⟨rfl, rfl, rfl, Nat.le_refl _, fun _ _ _ => rfl⟩
theorem Chg.trans {lo hi : Nat} {a b c : World} (h : Chg lo hi a b) (k : Chg lo hi b c) : Chg lo hi a c :=
  ⟨k.os.trans h.os, k.tape.trans h.tape, k.output.trans h.output, Nat.le_trans h.size k.size, fun i hi ho => (k.block i (Nat.lt_of_lt_of_le hi h.size) ho).trans (h.block i hi ho)⟩
theorem chg_of_below {lo hi : Nat} {a b : World} (h : Below a.heap.size a b) : Chg lo hi a b := ⟨h.os, h.tape, h.output, h.size, fun k hk _ => h.block k hk⟩
theorem Outside.chg {lo hi : Nat} {a b : World} (h : Outside lo hi a b) : Chg lo hi a b := ⟨h.os, h.tape, h.output, by rw [h.size]; exact Nat.le_refl _, fun k _ ho => h.block k ho⟩
theorem Dr.chg {lo hi : Nat} {a b : World} (h : Dr a b) : Chg lo hi a b := chg_of_below (h.below _)
theorem Chg.below {lo hi B : Nat} {a b : World} (h : Chg lo hi a b) (hB : B ≤ a.heap.size) (hlo : B ≤ lo) : Below B a b := ⟨h.os, h.tape, h.output, h.size, fun k hk => h.block k (by omega) (by omega)⟩
theorem Chg.widen {lo hi lo' hi' : Nat} {a b : World} (h : Chg lo hi a b) (h1 : lo' ≤ lo) (h2 : hi ≤ hi') : Chg lo' hi' a b := ⟨h.os, h.tape, h.output, h.size, fun k hk ho => h.block k hk (by omega)⟩
theorem Chg.setCell {lo hi : Nat} {a b : World} (h : Chg lo hi a b) {p : Addr} (h1 : lo ≤ p.block) (h2 : p.block < hi) (u : Value) : Chg lo hi a (b.setCell p u) :=
  h.trans ⟨rfl, rfl, rfl, by simp [World.setCell], fun k _ hk => Below.heap_setCell _ _ _ _ (by omega)⟩
/-- What was written lies among the blocks made since. -/
theorem Chg.since {lo hi : Nat} {a b c : World} (h : Chg lo hi a b) {l r : Nat} (k : Chg l r b c) (hl : a.heap.size ≤ l) : Chg lo hi a c :=
  ⟨k.os.trans h.os, k.tape.trans h.tape, k.output.trans h.output, Nat.le_trans h.size k.size, fun i hi ho => (k.block i (Nat.lt_of_lt_of_le hi h.size) (by omega)).trans (h.block i hi ho)⟩
section
variable {lo hi lo' hi' : Nat} {w w' : World} {v : Value} {zs : List Int} {d : List (List Int)}
theorem IMem.chg (h : IMem lo hi w v zs) (hc : Chg lo' hi' w w') (ho : hi ≤ lo' ∨ hi' ≤ lo) : IMem lo hi w' v zs := h.keep fun k _ _ hk => hc.block k hk (by omega)
theorem MMem.chg (h : MMem lo hi w v d) (hc : Chg lo' hi' w w') (ho : hi ≤ lo' ∨ hi' ≤ lo) : MMem lo hi w' v d := h.keep fun k _ _ hk => hc.block k hk (by omega)
end

/-- Bytes that came in. -/
def BIn (w : World) (v : Value) (n : Nat) : Prop :=
  ∃ (ao : Option Addr) (cap : Nat), v = .slice ao n cap ∧ n ≤ cap ∧ cap ≤ maxLen ∧ ∀ i, i < n → ∃ (b off : Nat) (x : Int), ao = some ⟨b, off, none⟩ ∧ b < w.heap.size ∧ w.cell? ⟨b, off + i, none⟩ = some (.int .u8 x) ∧ 0 ≤ x ∧ x ≤ 255

/-- A reader in block R, at place p ≤ k of a code of at most 2000 bytes. -/
def Rd (R k : Nat) (w : World) : Prop :=
  ∃ (ao : Option Addr) (n cap p : Nat), w.heap[R]? = some (.cells #[.slice ao n cap, .int .i64 p] 67 (0, 0)) ∧ p ≤ k ∧ n ≤ 2000 ∧
    ∀ i, i < n → ∃ (b off : Nat) (x : Int), ao = some ⟨b, off, none⟩ ∧ b < R ∧ w.cell? ⟨b, off + i, none⟩ = some (.int .u8 x) ∧ 0 ≤ x ∧ x ≤ 255
theorem Rd.lt {R k : Nat} {w : World} (h : Rd R k w) : R < w.heap.size := by
  obtain ⟨_, _, _, _, h, _⟩ := h
  exact lt_of_heap h
theorem Rd.more {R k k' : Nat} {w : World} (h : Rd R k w) (hk : k ≤ k') : Rd R k' w := by
  obtain ⟨ao, n, cap, p, h1, h2, h3⟩ := h
  exact ⟨ao, n, cap, p, h1, by omega, h3⟩
theorem Rd.chg {R k lo hi : Nat} {w w' : World} (h : Rd R k w) (hc : Chg lo hi w w') (hlo : R < lo) : Rd R k w' := by
  have hR := h.lt
  obtain ⟨ao, n, cap, p, h1, h2, h3, h4⟩ := h
  refine ⟨ao, n, cap, p, (hc.block R hR (Or.inl hlo)).trans h1, h2, h3, fun i hi => ?_⟩
  obtain ⟨b, off, x, ha, hb, hcell, hx⟩ := h4 i hi
  exact ⟨b, off, x, ha, hb, (World.cell?_of_block (w := w) (a := ⟨b, off + i, none⟩) (hc.block b (by omega) (Or.inl (by omega)))).trans hcell, hx⟩
theorem Rd.fresh {R k : Nat} {w w' : World} (h : Rd R k w) (hb : Below w.heap.size w w') : Rd R k w' := h.chg (lo := w.heap.size) (hi := w.heap.size) (chg_of_below hb) h.lt
theorem Rd.dr {R k : Nat} {w w' : World} (h : Rd R k w) (hb : Dr w w') : Rd R k w' := h.fresh (hb.below _)

/-- What a pick leaves. -/
def Picked (R k : Nat) (n : Int) (w : World) (e : Ending) (w' : World) : Prop :=
  ∃ x : Int, e = .returned (.int .i64 x) ∧ 0 ≤ x ∧ (1 ≤ n → x < n) ∧ (n < 1 → x = 0) ∧ Rd R (k + 1) w' ∧ Chg R (R + 1) w w'

theorem xor_nonneg {x : Int} (h0 : 0 ≤ x) (h1 : x < 4611686018427387904) : 0 ≤ bits BinOp.xor IntKind.i64 x (x / 64) := by
  obtain ⟨a, rfl⟩ := Int.eq_ofNat_of_zero_le h0
  have e : ((a : Int) / 64) = ((a / 64 : Nat) : Int) := by omega
  rw [e]
  have hp : (2 : Nat) ^ 62 = 4611686018427387904 := by decide
  have ha : a < 2 ^ 62 := by omega
  have hb : a / 64 < 2 ^ 62 := by omega
  have hk : (2 : Nat) ^ IntKind.i64.bits = 18446744073709551616 := by decide
  have ha' : a % 2 ^ IntKind.i64.bits = a := Nat.mod_eq_of_lt (by rw [hk]; omega)
  have hb' : a / 64 % 2 ^ IntKind.i64.bits = a / 64 := Nat.mod_eq_of_lt (by rw [hk]; omega)
  simp only [bits, BitVec.ofInt_natCast, BitVec.toNat_xor, BitVec.toNat_ofNat, ha', hb']
  have hx := Nat.xor_lt_two_pow ha hb
  rw [IntWalk.i64_in _ (by omega)]
  omega

/-- What l20Open leaves. -/
def Opened (w : World) (e : Ending) (w' : World) : Prop := e = .returned (.pointer (some ⟨w.heap.size, 0, none⟩)) ∧ Rd w.heap.size 0 w' ∧ Below w.heap.size w w'

set_option maxHeartbeats 400000 in
theorem open_any (v : Value) (n : Nat) (w : World) (h : BIn w v n) : Calls Try.prog 54 #[v] w (Opened w) := by
  obtain ⟨ao, cap, rfl, hn, hm, hc⟩ := h
  rw [maxLen_val] at hm
  have hrd : ∀ m, m ≤ n → m ≤ 2000 → Rd w.heap.size 0 (w.alloc (.cells #[.slice ao m cap, .int .i64 0] 67)) := by
    intro m hm hm2
    refine ⟨ao, m, cap, 0, heap_alloc_new w _, Nat.le_refl _, hm2, fun i hi => ?_⟩
    obtain ⟨b, off, x, ha, hb, hcell, hx⟩ := hc i (by omega)
    exact ⟨b, off, x, ha, hb, (World.cell?_alloc_lt w _ ⟨b, off + i, none⟩ hb).trans hcell, hx⟩
  have HR := Lib.hid <| hrd
  clear hrd hc
  by_cases h2 : n ≤ 2000
  · go_enter Try.func54, Try.ntmps54
    go_wp2
    go_ret
    exact ⟨rfl, HR.out n (Nat.le_refl _) h2, (Below.refl _ _).alloc (Nat.le_refl _) _⟩
  · have h3 : 2000 < n := by omega
    go_enter Try.func54, Try.ntmps54
    go_wp2
    go_ret
    exact ⟨rfl, HR.out 2000 (by omega) (Nat.le_refl _), (Below.refl _ _).alloc (Nat.le_refl _) _⟩

/-- The reader one place on. -/
theorem Rd.step {R k n cap p : Nat} {ao : Option Addr} {w : World} (h1 : w.heap[R]? = some (.cells #[.slice ao n cap, .int .i64 p] 67 (0, 0))) (h2 : p ≤ k) (h3 : n ≤ 2000)
    (h4 : ∀ i, i < n → ∃ (b off : Nat) (x : Int), ao = some ⟨b, off, none⟩ ∧ b < R ∧ w.cell? ⟨b, off + i, none⟩ = some (.int .u8 x) ∧ 0 ≤ x ∧ x ≤ 255) :
    Rd R (k + 1) (w.setCell ⟨R, 1, none⟩ (.int .i64 ((p : Int) + 1))) ∧ Chg R (R + 1) w (w.setCell ⟨R, 1, none⟩ (.int .i64 ((p : Int) + 1))) := by
  refine ⟨⟨ao, n, cap, p + 1, ?_, by omega, h3, fun i hi => ?_⟩, (Chg.refl _ _ _).setCell (p := ⟨R, 1, none⟩) (Nat.le_refl _) (Nat.lt_succ_self _) _⟩
  · simp [World.setCell, Array.getElem?_modify, h1]
  · obtain ⟨b, off, x, ha, hb, hcell, hx⟩ := h4 i hi
    refine ⟨b, off, x, ha, hb, ?_, hx⟩
    rw [World.cell?_setCell_other w _ _ _ (fun e => by injection e with e; omega)]
    exact hcell

set_option maxHeartbeats 2000000 in
theorem pick_any (R k : Nat) (m : Int) (w : World) (h : Rd R k w) (hk : k ≤ 1000000) (hm0 : -1000000 ≤ m) (hm1 : m ≤ 1000000) :
    Calls Try.prog 56 #[.pointer (some ⟨R, 0, none⟩), .int .i64 m] w (Picked R k m w) := by
  obtain ⟨ao, n, cap, p, h1, h2, h3, h4⟩ := h
  have hst := Rd.step h1 h2 h3 h4
  have hlt := lt_of_heap h1
  have c0 : w.cell? ⟨R, 0, none⟩ = some (.slice ao n cap) := by rw [cell_of_row w R 0 _ _ (0, 0) h1]; rfl
  have c1 : w.cell? ⟨R, 1, none⟩ = some (.int .i64 p) := by rw [cell_of_row w R 1 _ _ (0, 0) h1]; rfl
  have f1 : w.frozen? ⟨R, 1, none⟩ = false := by simp [World.frozen?, h1]
  have d0 : (w.setCell ⟨R, 1, none⟩ (.int .i64 ((p : Int) + 1))).cell? ⟨R, 0, none⟩ = some (.slice ao n cap) := by
    rw [World.cell?_setCell_other w _ _ _ (fun e => by injection e with _ e; cases e)]; exact c0
  have d1 : (w.setCell ⟨R, 1, none⟩ (.int .i64 ((p : Int) + 1))).cell? ⟨R, 1, none⟩ = some (.int .i64 ((p : Int) + 1)) := by
    have := cell_of_row (w.setCell ⟨R, 1, none⟩ (.int .i64 ((p : Int) + 1))) R 1 #[.slice ao n cap, .int .i64 ((p : Int) + 1)] 67 (0, 0) (by simp [World.setCell, Array.getElem?_modify, h1])
    rw [this]; rfl
  have HST := Lib.hid <| hst
  clear hst
  by_cases hm : m < 1
  · go_enter Try.func56, Try.ntmps56
    go_wp2
    go_ret
    exact ⟨0, rfl, by omega, by omega, fun _ => rfl, HST.out.1, HST.out.2⟩
  · by_cases hn : n = 0
    · subst hn
      have hm' : decide (m < 1) = false := by simpa using hm
      go_enter Try.func56, Try.ntmps56
      go_wp2
      go_ret
      exact ⟨0, rfl, by omega, by omega, fun _ => rfl, HST.out.1, HST.out.2⟩
    · have hnb : ((n : Int) == 0) = false := by simpa using hn
      have hm' : decide (m < 1) = false := by simpa using hm
      by_cases hp : p < n
      · obtain ⟨b, off, x, rfl, hb, hcell, hx0, hx1⟩ := h4 p hp
        have hc : (w.setCell ⟨R, 1, none⟩ (.int .i64 ((p : Int) + 1))).cell? ⟨b, off + p, none⟩ = some (.int .u8 x) := by
          rw [World.cell?_setCell_other w _ _ _ (fun e => by injection e with e; omega)]; exact hcell
        have hpi : (p : Int) < (n : Int) := by omega
        have hr0 := Int.emod_nonneg x (show m ≠ 0 by omega)
        have hr1 := Int.emod_lt_of_pos x (show 0 < m by omega)
        clear h4 hcell h1
        go_enter Try.func56, Try.ntmps56
        go_wp2
        go_ret
        exact ⟨x % m, rfl, hr0, fun _ => hr1, fun h => by omega, HST.out.1, HST.out.2⟩
      · have hpn : ¬ (p : Int) < (n : Int) := by omega
        have hn0 : 0 < n := by omega
        have l1 : p % n < n := Nat.mod_lt _ hn0
        have l2 : (p * 7 + 3) % n < n := Nat.mod_lt _ hn0
        obtain ⟨b, off, x, rfl, hb, hcell, hx0, hx1⟩ := h4 (p % n) l1
        obtain ⟨b', off', y, e, _, hcell2, hy0, hy1⟩ := h4 ((p * 7 + 3) % n) l2
        injection e with e
        injection e with e1 e2
        subst e1 e2
        have hc : (w.setCell ⟨R, 1, none⟩ (.int .i64 ((p : Int) + 1))).cell? ⟨b, off + p % n, none⟩ = some (.int .u8 x) := by
          rw [World.cell?_setCell_other w _ _ _ (fun e => by injection e with e; omega)]; exact hcell
        have hc2 : (w.setCell ⟨R, 1, none⟩ (.int .i64 ((p : Int) + 1))).cell? ⟨b, off + (p * 7 + 3) % n, none⟩ = some (.int .u8 y) := by
          rw [World.cell?_setCell_other w _ _ _ (fun e => by injection e with e; omega)]; exact hcell2
        have q0 : (0 : Int) ≤ (p : Int) / (n : Int) := Int.ediv_nonneg (by omega) (by omega)
        have q1 : (p : Int) / (n : Int) ≤ p := Int.ediv_le_self _ (by omega)
        have g1 : (0 : Int) ≤ (p : Int) % (n : Int) := by omega
        have g2 : (p : Int) % (n : Int) < (n : Int) := by omega
        have g3 : (0 : Int) ≤ ((p : Int) * 7 + 3) % (n : Int) := Int.emod_nonneg _ (by omega)
        have g4 : ((p : Int) * 7 + 3) % (n : Int) < (n : Int) := Int.emod_lt_of_pos _ (by omega)
        have g5 : ((p : Int) % (n : Int)).toNat = p % n := by omega
        have g6 : (((p : Int) * 7 + 3) % (n : Int)).toNat = (p * 7 + 3) % n := by
          rw [show ((p : Int) * 7 + 3) = ((p * 7 + 3 : Nat) : Int) by omega, ← Int.natCast_emod, Int.toNat_natCast]
        clear h4 hcell hcell2 h1
        go_enter Try.func56, Try.ntmps56
        go_wp2_with fail
        go_quiet (fail)
        generalize hX : x * 131 + y * 1117 + (p : Int) * 29 + (p : Int) / (n : Int) * 53 = X
        have hX0 : 0 ≤ X := by omega
        have hX1 : X ≤ 100000000 := by omega
        have hxr := xor_nonneg hX0 (by omega)
        clear hX hc hc2 d0 d1 c0 c1 f1 q0 q1 g1 g2 g3 g4 g5 g6 hnb
        go_wp2
        go_ret
        have hr0 := Int.emod_nonneg (bits BinOp.xor IntKind.i64 X (X / 64)) (show m ≠ 0 by omega)
        have hr1 := Int.emod_lt_of_pos (bits BinOp.xor IntKind.i64 X (X / 64)) (show 0 < m by omega)
        exact ⟨_, rfl, hr0, fun _ => hr1, fun h => by omega, HST.out.1.dr ⟨nq, rfl⟩, HST.out.2.trans (Dr.chg ⟨nq, rfl⟩)⟩

end Go.Proofs.Ytclffncimaigfaa
