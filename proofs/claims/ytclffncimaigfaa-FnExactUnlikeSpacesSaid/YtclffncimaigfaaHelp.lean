/- What the laws' own helpers do (toIntS, szIntS, eqIntS, markIntS, heldIntS and their twins on rows), each a contract. Conditions: as each theorem says. -/
import Derived.Test.YtclffncimaigfaaMem
import Derived.Test.YtclffncimaigfaaProg
import Derived.WalkKit
import Derived.WalkSmall
import Derived.WalkSpells
import Derived.WalkLawsBesides
import Derived.Outline
import Derived.BigQuiet
import Derived.Deep.QuietTactic
import Derived.Deep.LoopGhost
namespace Go.Proofs.Ytclffncimaigfaa
set_option linter.unusedVariables false
set_option linter.unusedSimpArgs false
open Go.RowKit Go.Deep

theorem info_int : (Try.prog.info? 3).map (fun i => (i.zero, i.size, i.bytes)) = some (some (.int .i64 0), 1, 8) := by kernel_rfl
theorem info_ints : (Try.prog.info? 37).map (fun i => (i.zero, i.size, i.bytes)) = some (some (.slice none 0 0), 1, 24) := by kernel_rfl

/-- Numbers that came in, or nil, or a row of the call's own: what reading asks. -/
def IIn (w : World) (v : Value) (zs : List Int) : Prop :=
  ∃ (ao : Option Addr) (cap : Nat), v = .slice ao zs.length cap ∧ zs.length ≤ maxLen ∧ ∀ i, i < zs.length → ∃ b off : Nat, ao = some ⟨b, off, none⟩ ∧ b < w.heap.size ∧ w.cell? ⟨b, off + i, none⟩ = some (.int .i64 (iat zs i))
def MIn (w : World) (v : Value) (d : List (List Int)) : Prop :=
  ∃ (ao : Option Addr) (cap : Nat), v = .slice ao d.length cap ∧ d.length ≤ maxLen ∧ ∀ i, i < d.length → ∃ (b off : Nat) (u : Value), ao = some ⟨b, off, none⟩ ∧ b < w.heap.size ∧ w.cell? ⟨b, off + i, none⟩ = some u ∧ IIn w u (row d i)

theorem IIn.nil (w : World) : IIn w (.slice none 0 0) [] := ⟨none, 0, rfl, Nat.zero_le _, fun i hi => by simp at hi⟩
theorem MIn.nil (w : World) : MIn w (.slice none 0 0) [] := ⟨none, 0, rfl, Nat.zero_le _, fun i hi => by simp at hi⟩
theorem IIn.keep {w w' : World} {v : Value} {zs : List Int} (h : IIn w v zs) (hb : Below w.heap.size w w') : IIn w' v zs := by
  obtain ⟨ao, cap, hv, hm, hc⟩ := h
  refine ⟨ao, cap, hv, hm, fun i hi => ?_⟩
  obtain ⟨b, off, ha, hl, hc⟩ := hc i hi
  exact ⟨b, off, ha, Nat.lt_of_lt_of_le hl hb.size, (hb.cell (p := ⟨b, off + i, none⟩) hl).trans hc⟩
theorem MIn.keep {w w' : World} {v : Value} {d : List (List Int)} (h : MIn w v d) (hb : Below w.heap.size w w') : MIn w' v d := by
  obtain ⟨ao, cap, hv, hm, hc⟩ := h
  refine ⟨ao, cap, hv, hm, fun i hi => ?_⟩
  obtain ⟨b, off, u, ha, hl, hc, hu⟩ := hc i hi
  exact ⟨b, off, u, ha, Nat.lt_of_lt_of_le hl hb.size, (hb.cell (p := ⟨b, off + i, none⟩) hl).trans hc, hu.keep hb⟩
theorem IMem.inn {lo hi : Nat} {w : World} {v : Value} {zs : List Int} (h : IMem lo hi w v zs) : IIn w v zs := by
  obtain ⟨b, cap, rfl, _, _, hl, hm1, hm2, hc, _⟩ := h.open
  exact ⟨_, cap, rfl, Nat.le_trans hm1 hm2, fun i hi => ⟨b, 0, rfl, hl, by rw [Nat.zero_add]; exact hc i hi⟩⟩
theorem MMem.inn {lo hi : Nat} {w : World} {v : Value} {d : List (List Int)} (h : MMem lo hi w v d) : MIn w v d := by
  obtain ⟨b, cap, BB, CC, rfl, _, _, hl, hm1, hm2, hc, hr, _⟩ := h.open
  exact ⟨_, cap, rfl, Nat.le_trans hm1 hm2, fun i hi => ⟨b, 0, _, rfl, hl, by rw [Nat.zero_add]; exact hc i hi, (hr i hi).2.2.2.2.2.2.inn⟩⟩

theorem IIn.dr {w w' : World} {v : Value} {zs : List Int} (h : IIn w v zs) (hd : Dr w w') : IIn w' v zs := h.keep (hd.below _)
theorem MIn.dr {w w' : World} {v : Value} {d : List (List Int)} (h : MIn w v d) (hd : Dr w w') : MIn w' v d := h.keep (hd.below _)
theorem IIn.drewN {w : World} {v : Value} {zs : List Int} (h : IIn w v zs) (n : Nat) : IIn (w.drewN n) v zs := h
theorem MIn.drewN {w : World} {v : Value} {d : List (List Int)} (h : MIn w v d) (n : Nat) : MIn (w.drewN n) v d := h
theorem IMem.dr {lo hi : Nat} {w w' : World} {v : Value} {zs : List Int} (h : IMem lo hi w v zs) (hd : Dr w w') : IMem lo hi w' v zs := h.fresh (hd.below _)
theorem MMem.dr {lo hi : Nat} {w w' : World} {v : Value} {d : List (List Int)} (h : MMem lo hi w v d) (hd : Dr w w') : MMem lo hi w' v d := h.fresh (hd.below _)

theorem IMem.of_row {w : World} {b lo hi : Nat} {zs : List Int} {f : Nat → Value} (h : w.rowIs b 3 zs.length f) (h1 : lo ≤ b) (h2 : b < hi) (hm : zs.length ≤ maxLen) (hf : ∀ i, i < zs.length → f i = .int .i64 (iat zs i)) :
    IMem lo hi w (.slice (some ⟨b, 0, none⟩) zs.length zs.length) zs := by
  obtain ⟨c, hc, hs, hcc⟩ := h
  exact ⟨b, _, c, rfl, h1, h2, Nat.le_refl _, hm, hc, hs, fun i hi => by rw [hcc i hi, hf i hi]⟩

/-- What a function that makes a row leaves. -/
def MadeI (w : World) (zs : List Int) (e : Ending) (w' : World) : Prop := ∃ r, e = .returned r ∧ IMem w.heap.size w'.heap.size w' r zs ∧ Below w.heap.size w w'
def MadeM (w : World) (d : List (List Int)) (e : Ending) (w' : World) : Prop := ∃ r, e = .returned r ∧ MMem w.heap.size w'.heap.size w' r d ∧ Below w.heap.size w w'
/-- What a function that only reads leaves. -/
def Quiet (v : Value) (w : World) (e : Ending) (w' : World) : Prop := e = .returned v ∧ Dr w w'
theorem quiet_in {P : Program} {f : FuncId} {args : Array Value} {w : World} {n : Nat} {v : Value} (h : Calls P f args (w.drewN n) (Quiet v (w.drewN n))) :
    Calls P f args (w.drewN n) fun e w'' => e = .returned v ∧ ∃ m, w'' = w.drewN m := Calls.quiet_of h

theorem maxLen_val : maxLen = 9223372036854775807 := by unfold maxLen; rfl

theorem toIntS_round {wr : World} {b k n : Nat} {zs : List Int} (hrow : wr.rowIs b 3 n (fun i => .int .i64 (if i < k then iat zs i else 0))) :
    (wr.setCell ⟨b, k, none⟩ (.int .i64 (iat zs k))).rowIs b 3 n (fun i => .int .i64 (if i < k + 1 then iat zs i else 0)) := by
  refine (hrow.set k _).congr fun i hi => ?_
  by_cases h : i = k
  · subst h; simp
  · simp only [h, if_false]
    by_cases h2 : i < k
    · rw [if_pos h2, if_pos (by omega)]
    · rw [if_neg h2, if_neg (by omega)]

set_option maxHeartbeats 400000 in
theorem toIntS_any (v : Value) (zs : List Int) (w : World) (h : IIn w v zs) (hs : zs.length ≤ 1048576) :
    Calls Try.prog 49 #[v] w (MadeI w zs) := by
  obtain ⟨ao, cap, rfl, _, hc⟩ := h
  have hmk := run_make_row' (P := Try.prog) 37 3 (.int .i64 0) 8 Try.underlying37 info_int rfl .i64 .i64 zs.length (by omega) (by omega)
  have HC := Lib.hid hc
  clear hc
  go_enter Try.func49, Try.ntmps49
  go_wp2
  go_loopw [4] (fun i wr => ∃ k : Nat, k ≤ zs.length ∧ i = .int .i64 k ∧ wr.rowIs w.heap.size 3 zs.length (fun i => .int .i64 (if i < k then iat zs i else 0)) ∧ Below w.heap.size w wr)
    (fun i _ => zs.length - (intOf i).toNat)
  case atStart => exact ⟨0, Nat.zero_le _, rfl, by simpa using World.rowIs_made w (.int .i64 0) zs.length 3, (Below.refl _ _).alloc (Nat.le_refl _) _⟩
  case round =>
    obtain ⟨k, hk, rfl, hrow, hbel⟩ := hrel
    by_cases hlt : k < zs.length
    · obtain ⟨b, off, rfl, hb, hcell⟩ := HC.out k hlt
      have h1 : wr.cell? ⟨b, off + k, none⟩ = some (.int .i64 (iat zs k)) := (hbel.cell (p := ⟨b, off + k, none⟩) hb).trans hcell
      have h2 := hrow.cell hlt
      have h3 := hrow.frozen k
      have hr := toIntS_round hrow
      have hbel' : Below w.heap.size w (wr.setCell ⟨w.heap.size, k, none⟩ (.int .i64 (iat zs k))) := hbel.setCell (p := ⟨w.heap.size, k, none⟩) (Nat.le_refl _) _
      have HR := Lib.hid hr
      have HB := Lib.hid hbel'
      clear hr hbel' hrow hbel hcell hmk
      go_wp2
      go_roundw
      case rel => exact ⟨k + 1, by omega, by go_num, HR.out, HB.out⟩
      case measure => simp [intOf]; omega
    · have hke : k = zs.length := by omega
      subst hke
      have hI : IMem w.heap.size wr.heap.size wr (.slice (some ⟨w.heap.size, 0, none⟩) zs.length zs.length) zs := IMem.of_row hrow (Nat.le_refl _) hrow.lt (by rw [maxLen_val]; omega) (fun i hi => by rw [if_pos hi])
      have HI := Lib.hid hI
      have HB := Lib.hid hbel
      clear hI hbel hmk hrow
      go_wp2
      go_ret
      exact ⟨_, rfl, HI.out, HB.out⟩

/-- An outer row that is filled, row by row. -/
def PMem (lo : Nat) (w : World) (b n k : Nat) (d : List (List Int)) : Prop :=
  ∃ V : Nat → Value, w.rowIs b 37 n (fun i => if i < k then V i else .slice none 0 0) ∧ lo ≤ b ∧ (∀ i, i < k → IMem lo w.heap.size w (V i) (row d i)) ∧ ∀ i j, i < k → j < k → i ≠ j → (V i).ownBlock ≠ (V j).ownBlock

theorem IMem.blk {lo hi : Nat} {w : World} {v : Value} {zs : List Int} (h : IMem lo hi w v zs) : ∃ b, v.ownBlock = some b ∧ lo ≤ b ∧ b < hi ∧ b < w.heap.size ∧ ∃ c, w.heap[b]? = some (.cells c 3 (0, 0)) := by
  obtain ⟨b, cap, cur, rfl, h1, h2, _, _, h5, _⟩ := h
  exact ⟨b, rfl, h1, h2, lt_of_heap h5, cur, h5⟩

theorem IMem.setCell_other {lo hi : Nat} {w : World} {v : Value} {zs : List Int} (h : IMem lo hi w v zs) {p : Addr} (hp : v.ownBlock ≠ some p.block) (u : Value) : IMem lo hi (w.setCell p u) v zs := by
  obtain ⟨b, cap, cur, rfl, h1, h2, h3, h4, h5, h6⟩ := h
  exact ⟨b, cap, cur, rfl, h1, h2, h3, h4, (Below.heap_setCell _ _ _ _ (by simpa [Value.ownBlock] using hp)).trans h5, h6⟩

theorem row_blk_ne {w : World} {b n lo hi : Nat} {f : Nat → Value} {v : Value} {zs : List Int} (h : w.rowIs b 37 n f) (hI : IMem lo hi w v zs) : v.ownBlock ≠ some b := by
  obtain ⟨g, hg, _, _, _, c, hc⟩ := hI.blk
  obtain ⟨c', hb, _⟩ := h
  rw [hg]
  intro e
  injection e with e
  subst e
  rw [hb] at hc
  injection hc with hc
  injection hc with _ hc
  exact absurd hc (by decide)

theorem PMem.start {w : World} (n : Nat) (d : List (List Int)) : PMem w.heap.size (w.alloc (.cells (madeCells #[.slice none 0 0] n) 37)) w.heap.size n 0 d :=
  ⟨fun _ => .slice none 0 0, by simpa using World.rowIs_made w (.slice none 0 0) n 37, Nat.le_refl _, fun i hi => absurd hi (by omega), fun i j hi => absurd hi (by omega)⟩

theorem PMem.step {lo b n k : Nat} {w w1 : World} {r : Value} {d : List (List Int)} (h : PMem lo w b n k d) (hb : Below w.heap.size w w1) (hr : IMem w.heap.size w1.heap.size w1 r (row d k)) :
    PMem lo (w1.setCell ⟨b, k, none⟩ r) b n (k + 1) d := by
  obtain ⟨V, h1, h2, h3, h4⟩ := h
  have hlt := h1.lt
  have h1' : w1.rowIs b 37 n (fun i => if i < k then V i else .slice none 0 0) := h1.of_block (hb.block _ hlt)
  have hsz : (w1.setCell ⟨b, k, none⟩ r).heap.size = w1.heap.size := by simp [World.setCell]
  obtain ⟨g, hg, g1, g2, _⟩ := hr.blk
  refine ⟨fun i => if i < k then V i else r, ?_, h2, ?_, ?_⟩
  · refine (h1'.set k r).congr fun i hi => ?_
    by_cases e : i = k
    · subst e; simp
    · simp only [e, if_false]
      by_cases h' : i < k
      · simp [h', Nat.lt_succ_of_lt h']
      · simp [h', show ¬ i < k + 1 by omega]
  · intro i hi
    rw [hsz]
    by_cases h' : i < k
    · simp only [h', if_true]
      have hI := (h3 i h').fresh hb
      exact ((hI.widen (Nat.le_refl _) hb.size).setCell_other (row_blk_ne h1' hI) _)
    · have e : i = k := by omega
      subst e
      simp only [Nat.lt_irrefl, if_false]
      exact (hr.widen (by omega) (Nat.le_refl _)).setCell_other (row_blk_ne h1' hr) _
  · intro i j hi hj hij
    by_cases h' : i < k <;> by_cases h'' : j < k <;> simp only [h', h'', if_true, if_false]
    · exact h4 i j h' h'' hij
    · obtain ⟨g', hg', _, _, g5, _⟩ := (h3 i h').blk
      rw [hg', hg]; simp; omega
    · obtain ⟨g', hg', _, _, g5, _⟩ := (h3 j h'').blk
      rw [hg', hg]; simp; omega
    · omega

theorem PMem.done {lo b : Nat} {w : World} {d : List (List Int)} (h : PMem lo w b d.length d.length d) (hm : d.length ≤ maxLen) : MMem lo w.heap.size w (.slice (some ⟨b, 0, none⟩) d.length d.length) d := by
  obtain ⟨V, ⟨c, hc, hs, hcc⟩, h2, h3, h4⟩ := h
  exact ⟨b, _, c, V, rfl, h2, lt_of_heap hc, Nat.le_refl _, hm, hc, hs, fun i hi => ⟨by rw [hcc i hi]; simp [hi], h3 i hi⟩, h4⟩

set_option maxHeartbeats 400000 in
theorem toIntSS_any (v : Value) (d : List (List Int)) (w : World) (h : MIn w v d) (hs : d.length ≤ 1048576) (hr : ∀ i, i < d.length → (row d i).length ≤ 1048576) :
    Calls Try.prog 17 #[v] w (MadeM w d) := by
  obtain ⟨ao, cap, rfl, _, hc⟩ := h
  have hmk := run_make_row' (P := Try.prog) 22 37 (.slice none 0 0) 24 Try.underlying22 info_ints rfl .i64 .i64 d.length (by omega) (by omega)
  have HC := Lib.hid hc
  have HR := Lib.hid hr
  clear hc hr
  go_enter Try.func17, Try.ntmps17
  go_wp2
  go_loopw [4] (fun i wr => ∃ k : Nat, k ≤ d.length ∧ i = .int .i64 k ∧ PMem w.heap.size wr w.heap.size d.length k d ∧ Below w.heap.size w wr)
    (fun i _ => d.length - (intOf i).toNat)
  case atStart => exact ⟨0, Nat.zero_le _, rfl, PMem.start _ _, (Below.refl _ _).alloc (Nat.le_refl _) _⟩
  case round =>
    obtain ⟨k, hk, rfl, hp, hbel⟩ := hrel
    by_cases hlt : k < d.length
    · obtain ⟨b, off, u, rfl, hb, hcell, hu⟩ := HC.out k hlt
      have h1 : wr.cell? ⟨b, off + k, none⟩ = some u := (hbel.cell (p := ⟨b, off + k, none⟩) hb).trans hcell
      have hu' := hu.keep hbel
      obtain ⟨uo, uc, rfl, hu2⟩ := id hu'
      have HU := Lib.hid hu'
      have HP := Lib.hid hp
      have HB := Lib.hid hbel
      clear hu hu' hu2 hp hbel hcell hmk
      go_wp2_with fail
      refine (toIntS_any _ _ _ HU.out (HR.out k hlt)).mono ?_
      rintro e w1 ⟨r, rfl, hr1, hb1⟩
      obtain ⟨rb, rc, rfl, hr2⟩ := id hr1.open
      have hb2 : Below w.heap.size w w1 := HB.out.trans (hb1.mono HB.out.size)
      have hw1 : w1.rowIs w.heap.size 37 d.length (fun i => if i < k then (Classical.choose HP.out) i else .slice none 0 0) := (Classical.choose_spec HP.out).1.of_block (hb1.block _ (Classical.choose_spec HP.out).1.lt)
      have h2 := hw1.cell hlt
      simp only [Nat.lt_irrefl, if_false] at h2
      have h3 := hw1.frozen k
      have hst := PMem.step HP.out hb1 hr1
      have HS := Lib.hid hst
      have HB2 : Hid (Below w.heap.size w (w1.setCell ⟨w.heap.size, k, none⟩ (.slice (some ⟨rb, 0, none⟩) (row d k).length rc))) := hb2.setCell (p := ⟨w.heap.size, k, none⟩) (Nat.le_refl _) _
      clear hr1 hr2 hb1 hb2 hw1 hst
      go_wp2
      go_roundw
      case rel => exact ⟨k + 1, by omega, by go_num, HS.out, HB2.out⟩
      case measure => simp [intOf]; omega
    · have hke : k = d.length := by omega
      subst hke
      have HI := Lib.hid (hp.done (by rw [maxLen_val]; omega))
      have HB := Lib.hid hbel
      clear hp hbel hmk
      go_wp2
      go_ret
      exact ⟨_, rfl, HI.out, HB.out⟩

end Go.Proofs.Ytclffncimaigfaa
