/- append of numbers as a step of a region that draws its order. Conditions: as the theorem says. -/
import Derived.Test.YtknnelenmedonaaAppend
import Derived.Deep.AppendLies
namespace Go.Proofs.Ytknnelenmedonaa
set_option linter.unusedVariables false
set_option linter.unusedSimpArgs false
open Go.RowKit Go.Deep

theorem IMem.drew {lo hi : Nat} {w : World} {v : Value} {zs : List Int} (h : IMem lo hi w v zs) : IMem lo hi w.drew v zs := h

theorem one_cell_drew {w : World} {x : Int} {t : TypeId} : ∀ i, i < 1 → (w.alloc (.cells #[.int .i64 x] t)).drew.cell? ⟨w.heap.size, 0 + i, none⟩ = some (.int .i64 (iat [x] i)) := one_cell
theorem step_app {ops : Array Oper} {o : Oper} {a : Act} {K : Act → World → Prop} {Q : Exit → Act → World → Prop} {E : Prop} (w : World) (hgd : o.guard = none) (s x : Operand)
    (ho : o.op = .call { callee := .builtin .append, args := #[s, x], argTypes := #[22, 22] })
    (lo hi : Nat) (v : Value) (zs : List Int) (hs : a.eval s = v) (hI : IMem lo hi w v zs) (b off m c : Nat) (ys : List Int) (hx : a.eval x = .slice (some ⟨b, off, none⟩) m c) (hm : ys.length = m)
    (hcell : ∀ i, i < m → w.cell? ⟨b, off + i, none⟩ = some (.int .i64 (iat ys i))) (hpos : 0 < m) (hbound : zs.length + m ≤ 1000000000) (hlo : lo ≤ w.heap.size)
    (h : ∀ g cap w', IMem lo w'.heap.size w' (.slice (some ⟨g, 0, none⟩) (zs.length + m) cap) (zs ++ ys) → Below lo w w' → K (a.put o.dst (.slice (some ⟨g, 0, none⟩) (zs.length + m) cap)) w') :
    if Region.wanted o (yielded ops a.tmps) = true then Oper.wp Try.prog o a w K Q else E := by
  obtain ⟨i0, hi0, hz0, hz1, hz2⟩ := info_parts info_int
  obtain ⟨hown, hne⟩ := hI.own
  subst hm
  have hadd : ∀ i, (⟨b, off, none⟩ : Addr).add i = ⟨b, off + i, none⟩ := by
    intro i
    unfold Addr.add
    split
    · simp_all
    · rfl
  refine step_append_lies w hgd s x 22 ho lo 3 i0 (.int .i64 0) 1 8 Try.underlying22 hi0 hz0 hz1 hz2 rfl (by decide) v zs.length (zs.map (Value.int .i64)) hs hown ⟨b, off, none⟩ ys.length c (ys.map (Value.int .i64)) hx (by simp) ?_ ?_ hpos (by rw [maxLen_val]; omega) (by omega) hlo _ rfl ?_
  · intro j u hu
    rw [hadd]
    by_cases hj : j < ys.length
    · rw [hcell j hj]
      simp [hj] at hu
      rw [← hu]
      simp [iat, hj]
    · simp [hj] at hu
  · intro u hu
    simp only [List.mem_map] at hu
    obtain ⟨n, _, rfl⟩ := hu
    rfl
  · intro g cap w' hown' hg _ _
    exact h g cap w' (IMem.of_own (by simpa using hown') (by simp)) (grown_below hg hlo fun k hk => (hown.lt k hk).1)

end Go.Proofs.Ytknnelenmedonaa
