/- Own words for memory: a row of numbers that a call has made ('IMem'), a list of such rows ('MMem'), and how they are kept. Conditions: none. -/
import Derived.WalkKit
import Derived.Below
import Derived.Lib.Hide
import Derived.Deep.Draws
import Derived.Deep.OwnRows
import Derived.Laws.OwnMore
namespace Go.Proofs.Ytclffncimaigfaa
set_option linter.unusedVariables false
set_option linter.unusedSimpArgs false
open Go.RowKit

/-- The i-th number of a list, 0 behind its end. -/
def iat (zs : List Int) (i : Nat) : Int := zs.getD i 0
/-- The i-th row. -/
def row (d : List (List Int)) (i : Nat) : List Int := d.getD i []
/-- The k-th number of the i-th row. -/
def at2 (d : List (List Int)) (i k : Nat) : Int := iat (row d i) k

/-- Outside the blocks from lo to hi the world w' is as w was; no block has come or gone. -/
structure Outside (lo hi : Nat) (w w' : World) : Prop where
  os : w'.os = w.os
  tape : w'.tape = w.tape
  output : w'.output = w.output
  size : w'.heap.size = w.heap.size
  block : ∀ k, (k < lo ∨ hi ≤ k) → w'.heap[k]? = w.heap[k]?

theorem Outside.refl (lo hi : Nat) (w : World) : Outside lo hi w w := ⟨rfl, rfl, rfl, rfl, fun _ _ => rfl⟩
theorem Outside.trans {lo hi : Nat} {a b c : World} (h : Outside lo hi a b) (k : Outside lo hi b c) : Outside lo hi a c :=
  ⟨k.os.trans h.os, k.tape.trans h.tape, k.output.trans h.output, k.size.trans h.size, fun i hi => (k.block i hi).trans (h.block i hi)⟩
theorem Outside.drewN {lo hi : Nat} {a b : World} (h : Outside lo hi a b) (n : Nat) : Outside lo hi a (b.drewN n) := ⟨h.os, h.tape, h.output, h.size, h.block⟩
theorem Outside.drew {lo hi : Nat} {a b : World} (h : Outside lo hi a b) : Outside lo hi a b.drew := ⟨h.os, h.tape, h.output, h.size, h.block⟩
theorem Outside.setCell {lo hi : Nat} {a b : World} (h : Outside lo hi a b) {p : Addr} (h1 : lo ≤ p.block) (h2 : p.block < hi) (u : Value) : Outside lo hi a (b.setCell p u) :=
  h.trans ⟨rfl, rfl, rfl, by simp [World.setCell], fun k hk => Below.heap_setCell _ _ _ _ (by omega)⟩
theorem Outside.below {lo hi : Nat} {w w' : World} (h : Outside lo hi w w') : Below lo w w' :=
  ⟨h.os, h.tape, h.output, by rw [h.size]; exact Nat.le_refl _, fun k hk => h.block k (Or.inl hk)⟩
theorem Outside.widen {lo hi lo' hi' : Nat} {w w' : World} (h : Outside lo hi w w') (h1 : lo' ≤ lo) (h2 : hi ≤ hi') : Outside lo' hi' w w' :=
  ⟨h.os, h.tape, h.output, h.size, fun k hk => h.block k (by omega)⟩

theorem below_drewN {B : Nat} {a b : World} (h : Below B a b) (n : Nat) : Below B a (b.drewN n) := ⟨h.os, h.tape, h.output, h.size, h.block⟩
theorem below_of_drewN (B : Nat) (a : World) (n : Nat) : Below B a (a.drewN n) := ⟨rfl, rfl, rfl, Nat.le_refl _, fun _ _ => rfl⟩

/-- The world w' is w but for draws. -/
def Dr (w w' : World) : Prop := ∃ n, w' = w.drewN n
theorem Dr.refl (w : World) : Dr w w := ⟨0, rfl⟩
theorem Dr.more {w w' : World} (h : Dr w w') (n : Nat) : Dr w (w'.drewN n) := by
  obtain ⟨m, rfl⟩ := h
  exact ⟨m + n, World.drewN_drewN _ _ _⟩
theorem Dr.one {w w' : World} (h : Dr w w') : Dr w w'.drew := h.more 1
theorem Dr.trans {a b c : World} (h : Dr a b) (k : Dr b c) : Dr a c := by
  obtain ⟨n, rfl⟩ := k
  exact h.more n
theorem Dr.cell {w w' : World} (h : Dr w w') (p : Addr) : w'.cell? p = w.cell? p := by
  obtain ⟨n, rfl⟩ := h
  rfl
theorem Dr.frozen {w w' : World} (h : Dr w w') (p : Addr) : w'.frozen? p = w.frozen? p := by
  obtain ⟨n, rfl⟩ := h
  rfl
theorem Dr.heap {w w' : World} (h : Dr w w') : w'.heap = w.heap := by
  obtain ⟨n, rfl⟩ := h
  rfl
theorem Dr.below {w w' : World} (h : Dr w w') (B : Nat) : Below B w w' := by
  obtain ⟨n, rfl⟩ := h
  exact below_of_drewN _ _ _

/-- A row of numbers in a block of a call's own, its block from lo on and below hi. -/
def IMem (lo hi : Nat) (w : World) (v : Value) (zs : List Int) : Prop :=
  ∃ b cap cur, v = .slice (some ⟨b, 0, none⟩) zs.length cap ∧ lo ≤ b ∧ b < hi ∧ zs.length ≤ cap ∧ cap ≤ maxLen ∧ w.heap[b]? = some (.cells cur 3 (0, 0)) ∧ cur.size = cap ∧
    ∀ i, i < zs.length → cur[i]? = some (.int .i64 (iat zs i))

/-- A list of such rows, their blocks all different. -/
def MMem (lo hi : Nat) (w : World) (v : Value) (d : List (List Int)) : Prop :=
  ∃ (b cap : Nat) (cur : Array Value) (V : Nat → Value), v = .slice (some ⟨b, 0, none⟩) d.length cap ∧ lo ≤ b ∧ b < hi ∧ d.length ≤ cap ∧ cap ≤ maxLen ∧ w.heap[b]? = some (.cells cur 37 (0, 0)) ∧ cur.size = cap ∧
    (∀ i, i < d.length → cur[i]? = some (V i) ∧ IMem lo hi w (V i) (row d i)) ∧ ∀ i j, i < d.length → j < d.length → i ≠ j → (V i).ownBlock ≠ (V j).ownBlock

section
variable {lo hi lo' hi' B : Nat} {w w' : World} {v : Value} {zs : List Int} {d : List (List Int)}

theorem lt_of_heap {b : Nat} {o : Obj} (h : w.heap[b]? = some o) : b < w.heap.size := (Array.getElem?_eq_some_iff.1 h).1

theorem IMem.drewN (h : IMem lo hi w v zs) (n : Nat) : IMem lo hi (w.drewN n) v zs := h
theorem MMem.drewN (h : MMem lo hi w v d) (n : Nat) : MMem lo hi (w.drewN n) v d := h

theorem IMem.keep (h : IMem lo hi w v zs) (hk : ∀ k, lo ≤ k → k < hi → k < w.heap.size → w'.heap[k]? = w.heap[k]?) : IMem lo hi w' v zs := by
  obtain ⟨b, cap, cur, hv, h1, h2, h3, h4, h5, h6⟩ := h
  exact ⟨b, cap, cur, hv, h1, h2, h3, h4, (hk b h1 h2 (lt_of_heap h5)).trans h5, h6⟩

theorem MMem.keep (h : MMem lo hi w v d) (hk : ∀ k, lo ≤ k → k < hi → k < w.heap.size → w'.heap[k]? = w.heap[k]?) : MMem lo hi w' v d := by
  obtain ⟨b, cap, cur, V, hv, h1, h2, h3, h4, h5, h6, h7, h8⟩ := h
  exact ⟨b, cap, cur, V, hv, h1, h2, h3, h4, (hk b h1 h2 (lt_of_heap h5)).trans h5, h6, fun i hi => ⟨(h7 i hi).1, (h7 i hi).2.keep hk⟩, h8⟩

theorem IMem.widen (h : IMem lo hi w v zs) (h1 : lo' ≤ lo) (h2 : hi ≤ hi') : IMem lo' hi' w v zs := by
  obtain ⟨b, cap, cur, hv, k1, k2, h3⟩ := h
  exact ⟨b, cap, cur, hv, by omega, by omega, h3⟩
theorem MMem.widen (h : MMem lo hi w v d) (h1 : lo' ≤ lo) (h2 : hi ≤ hi') : MMem lo' hi' w v d := by
  obtain ⟨b, cap, cur, V, hv, k1, k2, h3, h4, h5, h6, h7, h8⟩ := h
  exact ⟨b, cap, cur, V, hv, by omega, by omega, h3, h4, h5, h6, fun i hi => ⟨(h7 i hi).1, (h7 i hi).2.widen h1 h2⟩, h8⟩
theorem IMem.top (h : IMem lo hi w v zs) : IMem lo w.heap.size w v zs := by
  obtain ⟨b, cap, cur, hv, k1, k2, h3, h4, h5, h6⟩ := h
  exact ⟨b, cap, cur, hv, k1, lt_of_heap h5, h3, h4, h5, h6⟩
theorem MMem.top (h : MMem lo hi w v d) : MMem lo w.heap.size w v d := by
  obtain ⟨b, cap, cur, V, hv, k1, k2, h3, h4, h5, h6, h7, h8⟩ := h
  exact ⟨b, cap, cur, V, hv, k1, lt_of_heap h5, h3, h4, h5, h6, fun i hi => ⟨(h7 i hi).1, (h7 i hi).2.top⟩, h8⟩

theorem IMem.fresh (h : IMem lo hi w v zs) (hb : Below w.heap.size w w') : IMem lo hi w' v zs := h.keep fun k _ _ hk => hb.block k hk
theorem MMem.fresh (h : MMem lo hi w v d) (hb : Below w.heap.size w w') : MMem lo hi w' v d := h.keep fun k _ _ hk => hb.block k hk
theorem IMem.below (h : IMem lo hi w v zs) (hb : Below B w w') (hB : hi ≤ B) : IMem lo hi w' v zs := h.keep fun k _ _ _ => hb.block k (by omega)
theorem MMem.below (h : MMem lo hi w v d) (hb : Below B w w') (hB : hi ≤ B) : MMem lo hi w' v d := h.keep fun k _ _ _ => hb.block k (by omega)
theorem IMem.outside (h : IMem lo hi w v zs) (hb : Outside lo' hi' w w') (ho : hi ≤ lo' ∨ hi' ≤ lo) : IMem lo hi w' v zs := h.keep fun k _ _ _ => hb.block k (by omega)
theorem MMem.outside (h : MMem lo hi w v d) (hb : Outside lo' hi' w w') (ho : hi ≤ lo' ∨ hi' ≤ lo) : MMem lo hi w' v d := h.keep fun k _ _ _ => hb.block k (by omega)
theorem IMem.alloc (h : IMem lo hi w v zs) (o : Obj) : IMem lo hi (w.alloc o) v zs := h.keep fun k _ _ hk => Below.heap_alloc w o k hk
theorem MMem.alloc (h : MMem lo hi w v d) (o : Obj) : MMem lo hi (w.alloc o) v d := h.keep fun k _ _ hk => Below.heap_alloc w o k hk

/-- What the walk wants of a row of numbers. -/
theorem IMem.open (h : IMem lo hi w v zs) : ∃ b cap, v = .slice (some ⟨b, 0, none⟩) zs.length cap ∧ lo ≤ b ∧ b < hi ∧ b < w.heap.size ∧ zs.length ≤ cap ∧ cap ≤ maxLen ∧
    (∀ i, i < zs.length → w.cell? ⟨b, i, none⟩ = some (.int .i64 (iat zs i))) ∧ ∀ i, w.frozen? ⟨b, i, none⟩ = false := by
  obtain ⟨b, cap, cur, hv, k1, k2, h3, h4, h5, h6, h7⟩ := h
  exact ⟨b, cap, hv, k1, k2, lt_of_heap h5, h3, h4, fun i hi => by rw [cell_of_row w b i cur _ (0, 0) h5]; exact h7 i hi, fun i => by simp [World.frozen?, h5]⟩

theorem IMem.of_own {n : Nat} (h : w.ownsRow lo 3 1 v n (zs.map (Value.int .i64))) (hv : v ≠ .slice none 0 0) : IMem lo w.heap.size w v zs := by
  obtain ⟨hl, h⟩ := h
  simp only [List.length_map, Nat.mul_one] at hl
  subst hl
  rcases h with ⟨h, _⟩ | ⟨g, cap, cur, rfl, hg, hh, hn, hc, hs, ht⟩
  · exact absurd h hv
  · refine ⟨g, cap, cur, rfl, hg, lt_of_heap hh, hn, hc, hh, by simpa using hs, fun i hi => ?_⟩
    have : (cur.toList.take (zs.length * 1))[i]? = some (.int .i64 (iat zs i)) := by
      rw [ht]; simp [iat, hi]
    rw [List.getElem?_take] at this
    simp only [Nat.mul_one, hi, if_true] at this
    simpa using this

theorem IMem.own (h : IMem lo hi w v zs) : w.ownsRow lo 3 1 v zs.length (zs.map (Value.int .i64)) ∧ v ≠ .slice none 0 0 := by
  obtain ⟨b, cap, cur, rfl, k1, k2, h3, h4, h5, h6, h7⟩ := h
  refine ⟨⟨by simp, .inr ⟨b, cap, cur, rfl, k1, h5, h3, h4, by simpa using h6, ?_⟩⟩, by simp⟩
  apply List.ext_getElem?
  intro i
  rw [List.getElem?_take]
  by_cases hi : i < zs.length
  · have := h7 i hi
    simp only [Nat.mul_one, hi, if_true]
    simp only [Array.getElem?_toList, this]
    simp [iat, hi]
  · simp [hi]

theorem MMem.rowAt (h : MMem lo hi w v d) {i : Nat} (hi' : i < d.length) : ∃ b cap u, v = .slice (some ⟨b, 0, none⟩) d.length cap ∧ w.cell? ⟨b, i, none⟩ = some u ∧ IMem lo hi w u (row d i) := by
  obtain ⟨b, cap, cur, V, rfl, k1, k2, h3, h4, h5, h6, h7, h8⟩ := h
  exact ⟨b, cap, V i, rfl, by rw [cell_of_row w b i cur _ (0, 0) h5]; exact (h7 i hi').1, (h7 i hi').2⟩

/-- What the walk wants of a list of rows. -/
theorem MMem.open (h : MMem lo hi w v d) : ∃ (b cap : Nat) (BB CC : Nat → Nat), v = .slice (some ⟨b, 0, none⟩) d.length cap ∧ lo ≤ b ∧ b < hi ∧ b < w.heap.size ∧ d.length ≤ cap ∧ cap ≤ maxLen ∧
    (∀ i, i < d.length → w.cell? ⟨b, i, none⟩ = some (.slice (some ⟨BB i, 0, none⟩) (row d i).length (CC i))) ∧
    (∀ i, i < d.length → lo ≤ BB i ∧ BB i < hi ∧ BB i < w.heap.size ∧ BB i ≠ b ∧ (row d i).length ≤ CC i ∧ CC i ≤ maxLen ∧
      IMem lo hi w (.slice (some ⟨BB i, 0, none⟩) (row d i).length (CC i)) (row d i)) ∧
    (∀ i, i < d.length → ∀ j, j < (row d i).length → w.cell? ⟨BB i, j, none⟩ = some (.int .i64 (at2 d i j))) ∧
    (∀ i, i < d.length → ∀ j, w.frozen? ⟨BB i, j, none⟩ = false) ∧ (∀ i, w.frozen? ⟨b, i, none⟩ = false) ∧ ∀ i j, i < d.length → j < d.length → i ≠ j → BB i ≠ BB j := by
  obtain ⟨b, cap, cur, V, rfl, k1, k2, h3, h4, h5, h6, h7, h8⟩ := h
  have each : ∀ i, ∃ g c : Nat, i < d.length → V i = .slice (some ⟨g, 0, none⟩) (row d i).length c := by
    intro i
    by_cases hi : i < d.length
    · obtain ⟨b', cap', _, hv, _⟩ := (h7 i hi).2
      exact ⟨b', cap', fun _ => hv⟩
    · exact ⟨0, 0, fun h => absurd h hi⟩
  obtain ⟨BB, hBB⟩ := Classical.skolem.1 each
  obtain ⟨CC, hV⟩ := Classical.skolem.1 hBB
  have hm : ∀ i, i < d.length → IMem lo hi w (.slice (some ⟨BB i, 0, none⟩) (row d i).length (CC i)) (row d i) := fun i hi => by rw [← hV i hi]; exact (h7 i hi).2
  have ho : ∀ i, i < d.length → lo ≤ BB i ∧ BB i < hi ∧ BB i < w.heap.size ∧ BB i ≠ b ∧ (row d i).length ≤ CC i ∧ CC i ≤ maxLen ∧
      (∀ j, j < (row d i).length → w.cell? ⟨BB i, j, none⟩ = some (.int .i64 (at2 d i j))) ∧ ∀ j, w.frozen? ⟨BB i, j, none⟩ = false := by
    intro i hi
    obtain ⟨b', cap', cur', hv, q1, q2, q3, q4, q5, q6, q7⟩ := hm i hi
    injection hv with e1 e2 e3
    injection e1 with e1
    injection e1 with e1
    subst e1
    subst e3
    refine ⟨q1, q2, lt_of_heap q5, ?_, q3, q4, fun j hj => by rw [cell_of_row w _ j cur' _ (0, 0) q5]; exact q7 j hj, fun j => by simp [World.frozen?, q5]⟩
    intro e
    rw [e, h5] at q5
    injection q5 with q5
    injection q5 with _ q5
    exact absurd q5 (by decide)
  refine ⟨b, cap, BB, CC, rfl, k1, k2, lt_of_heap h5, h3, h4, ?_, ?_, fun i hi => (ho i hi).2.2.2.2.2.2.1, fun i hi => (ho i hi).2.2.2.2.2.2.2, fun i => by simp [World.frozen?, h5], ?_⟩
  · intro i hi
    rw [cell_of_row w b i cur _ (0, 0) h5, (h7 i hi).1, hV i hi]
  · intro i hi
    obtain ⟨o1, o2, o3, o4, o5, o6, _⟩ := ho i hi
    exact ⟨o1, o2, o3, o4, o5, o6, hm i hi⟩
  · intro i j hi hj hij he
    refine h8 i j hi hj hij ?_
    rw [hV i hi, hV j hj]
    simp [Value.ownBlock, he]

end

/-- Two rows whose blocks and numbers are known pointwise. -/
theorem ext_iat {a b : List Int} (h : a.length = b.length) (hh : ∀ i, i < a.length → iat a i = iat b i) : a = b := by
  apply List.ext_getElem h
  intro i h1 h2
  have := hh i h1
  simpa [iat, h1, h2] using this
theorem ext_row {a b : List (List Int)} (h : a.length = b.length) (hh : ∀ i, i < a.length → row a i = row b i) : a = b := by
  apply List.ext_getElem h
  intro i h1 h2
  have := hh i h1
  simpa [row, h1, h2] using this
theorem iat_append_left {a b : List Int} {i : Nat} (h : i < a.length) : iat (a ++ b) i = iat a i := by simp [iat, List.getElem?_append, h]
theorem iat_append_right {a : List Int} {x : Int} : iat (a ++ [x]) a.length = x := by simp [iat]
theorem row_append_left {a b : List (List Int)} {i : Nat} (h : i < a.length) : row (a ++ b) i = row a i := by simp [row, List.getElem?_append, h]
theorem row_append_right {a : List (List Int)} {x : List Int} : row (a ++ [x]) a.length = x := by simp [row]

end Go.Proofs.Ytclffncimaigfaa
