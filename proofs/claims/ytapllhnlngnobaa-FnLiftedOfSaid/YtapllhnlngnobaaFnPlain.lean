/- Plain facts on functions over a space, and values opened. Conditions: as each theorem says. -/
import Derived.Test.YtapllhnlngnobaaMiddle
import Derived.Test.YtapllhnlngnobaaLens
import Derived.Test.YtapllhnlngnobaaTame
namespace Go.Proofs.Ytapllhnlngnobaa
set_option linter.unusedVariables false
set_option linter.unusedSimpArgs false
open Go.RowKit Go.Deep

theorem Space.bd {d : List (List Int)} (h : Space d) {i k : Nat} (hi : i < d.length) (hk : k < d.length) : 0 ≤ at2 d i k ∧ at2 d i k ≤ 60 := ⟨(h.ent i k hi hk).1, (h.ent i k hi hk).2.1⟩
theorem Space.sym {d : List (List Int)} (h : Space d) {i k : Nat} (hi : i < d.length) (hk : k < d.length) : at2 d i k = at2 d k i := (h.ent i k hi hk).2.2.1
theorem Space.own {d : List (List Int)} (h : Space d) {i : Nat} (hi : i < d.length) : at2 d i i = 0 := (h.ent i i hi hi).2.2.2.2 rfl
theorem vals_of {f : List Int} {n : Nat} (hl : f.length = n) (h : ∀ i, i < n → -200 ≤ iat f i ∧ iat f i ≤ 200) : Vals f n := ⟨by rw [hl], fun i hi => h i (by omega)⟩
theorem vals_row {d : List (List Int)} (h : Space d) {q : Nat} (hq : q < d.length) : Vals (row d q) d.length :=
  vals_of (h.sq q hq) fun i hi => by have := h.bd hq hi; unfold at2 at this; omega
theorem tame_row {d : List (List Int)} (h : Space d) {q : Nat} (hq : q < d.length) : Tame d (row d q) :=
  ⟨h, vals_row h hq, fun i k hi hk => by
    have h1 := h.tri q k i hq hk hi
    have h2 := h.sym hk hi
    unfold at2 at h1 h2 ⊢
    omega⟩
/-- A value that is handed back and is not empty. -/
theorem IVal.mem {lo hi : Nat} {w : World} {v : Value} {zs : List Int} (h : IVal lo hi w v zs) (hz : zs ≠ []) : IMem lo hi w v zs := by
  rcases h with h | ⟨_, e⟩
  · exact h
  · exact absurd e hz
theorem ne_nil_of {zs : List Int} {n : Nat} (h : zs.length = n) (hn : 1 ≤ n) : zs ≠ [] := fun e => by subst e; simp at h; omega

end Go.Proofs.Ytapllhnlngnobaa
