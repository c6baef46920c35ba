/- Plain facts on tame functions; two rows that grow side by side. Conditions: as each theorem says. -/
import Derived.Test.YtapllhnlngnobaaFnPlain3
import Derived.Test.YtapllhnlngnobaaSteep
import Derived.Test.YtapllhnlngnobaaDrawV
namespace Go.Proofs.Ytapllhnlngnobaa
set_option linter.unusedVariables false
set_option linter.unusedSimpArgs false
open Go.RowKit Go.Deep

def plusL (f : List Int) : List Int := genL (fun i => iat f i + 1) f.length
def topL (f : List Int) (k : Nat) : Int := maxN (fun i => iat f i + 1) 0 k
theorem topL_step (f : List Int) (k : Nat) : (if topL f k < iat f k + 1 then iat f k + 1 else topL f k) = topL f (k + 1) := maxN_step (fun i => iat f i + 1) 0 k
theorem topL_bd {f : List Int} (h : VBd f) {k : Nat} (hk : k ≤ f.length) : 0 ≤ topL f k ∧ topL f k ≤ 202 :=
  ⟨le_maxN _ _ _, maxN_le (by omega) fun i hi => by have := h i (by omega); omega⟩
section
variable {d : List (List Int)} {f : List Int}
theorem iat_plusL {i : Nat} (h : i < f.length) : iat (plusL f) i = iat f i + 1 := iat_genL h
theorem tame_neg (h : Tame d f) : Tame d (negL f) := by
  have hl := h.vals.len
  refine ⟨h.sp, vals_of (by rw [negL_length]; exact hl) fun i hi => ?_, fun i k hi hk => ?_⟩
  · rw [iat_negL (by omega)]
    have := h.vals.bd hi
    omega
  · rw [iat_negL (by omega), iat_negL (by omega)]
    have := h.ok k i hk hi
    have := h.sp.sym hi hk
    omega
theorem negL_negL (f : List Int) : negL (negL f) = f := ext_iat (by rw [negL_length, negL_length]) fun i hi => by
  rw [negL_length, negL_length] at hi
  rw [iat_negL (by rw [negL_length]; exact hi), iat_negL hi]
  omega
theorem tame_neg_iff : Tame d (negL f) ↔ Tame d f := ⟨fun h => by have := tame_neg h; rwa [negL_negL] at this, tame_neg⟩
theorem tame_plus (h : Tame d f) (ht : topL f f.length ≤ 200) : Tame d (plusL f) := by
  have hl := h.vals.len
  refine ⟨h.sp, vals_of (by rw [plusL, genL_length]; exact hl) fun i hi => ?_, fun i k hi hk => ?_⟩
  · rw [iat_plusL (by omega)]
    have h1 := h.vals.bd hi
    have h2 : iat f i + 1 ≤ topL f f.length := maxN_ge (F := fun i => iat f i + 1) (m := 0) (n := f.length) (i := i) (by omega)
    omega
  · rw [iat_plusL (by omega), iat_plusL (by omega)]
    have := h.ok i k hi hk
    omega
theorem steep60 (h : SteepOk d f) : steepV d f ≤ 60 ↔ Tame d f := by
  rw [steepV_yes h]
  constructor
  · intro hle
    refine ⟨h.sp, h.vals, fun i k hi hk => ?_⟩
    by_cases e : i = k
    · subst e
      have := h.sp.own hi
      omega
    · by_cases hlt : iat f k < iat f i
      · have h1 := stI_ge (f := f) hi hk
        unfold stG at h1
        rw [if_pos ⟨e, hlt⟩] at h1
        have hp := ent_pos h.sp hi hk e
        have hb := h.sp.bd hi hk
        by_cases hgt : at2 d i k + 1 ≤ iat f i - iat f k
        · exfalso
          have h2 : 61 * at2 d i k ≤ (iat f i - iat f k) * 60 := by omega
          have h3 : 61 ≤ (iat f i - iat f k) * 60 / at2 d i k := (Int.le_ediv_iff_mul_le (by omega)).2 h2
          omega
        · omega
      · have := h.sp.bd hi hk
        omega
  · intro ht
    refine stI_le (by omega) fun i k hi hk => ?_
    unfold stG
    split
    · rename_i hc
      have hp := ent_pos h.sp hi hk hc.1
      have h1 := ht.ok i k hi hk
      have h2 : (iat f i - iat f k) * 60 ≤ 60 * at2 d i k := by omega
      exact Int.ediv_le_of_le_mul (by omega) h2
    · omega
theorem steep_tame (h : SteepOk d f) : decide (steepV d f ≤ 60) = decP (Tame d f) := by
  by_cases ht : Tame d f
  · rw [decP_yes ht]
    simpa using (steep60 h).2 ht
  · rw [decP_no ht]
    have : ¬ steepV d f ≤ 60 := fun e => ht ((steep60 h).1 e)
    simpa using this
end

/-- Two rows of the call's own in two blocks. -/
def Two (lo : Nat) (w : World) (v u : Value) (a b : List Int) : Prop := IMem lo w.heap.size w v a ∧ IMem lo w.heap.size w u b ∧ v.ownBlock ≠ u.ownBlock
theorem Two.symm {lo : Nat} {w : World} {v u : Value} {a b : List Int} (h : Two lo w v u a b) : Two lo w u v b a := ⟨h.2.1, h.1, fun e => h.2.2 e.symm⟩
theorem Two.left {lo : Nat} {w w' : World} {o : Obj} {v u v' : Value} {a b a' : List Int} (h : Two lo w v u a b) (hI : IMem lo w'.heap.size w' v' a') (hb : Below lo (w.alloc o) w') (hg : (w.alloc o).grownBy w' v.ownBlock)
    (hat : v'.ownBlock = v.ownBlock ∨ v'.ownBlock = some (w.alloc o).heap.size) : Two lo w' v' u a' b := by
  obtain ⟨h1, h2, h3⟩ := h
  obtain ⟨ub, uc, ur, rfl, q1, q2, q3, q4, q5, q6, q7⟩ := h2
  have hne : some ub ≠ v.ownBlock := fun e => h3 e.symm
  have hk : w'.heap[ub]? = w.heap[ub]? := (hg.block ub (by simp; omega) hne).trans (((Below.refl w.heap.size w).alloc (Nat.le_refl _) o).block ub q2)
  have hsz : w.heap.size ≤ w'.heap.size := by have := hb.size; simp at this; omega
  refine ⟨hI, ⟨ub, uc, ur, rfl, q1, by omega, q3, q4, hk.trans q5, q6, q7⟩, ?_⟩
  rcases hat with e | e
  · rw [e]; exact h3
  · rw [e]
    intro e2
    have e2 : (w.alloc o).heap.size = ub := by simpa [Value.ownBlock] using e2
    simp at e2
    omega

end Go.Proofs.Ytapllhnlngnobaa
