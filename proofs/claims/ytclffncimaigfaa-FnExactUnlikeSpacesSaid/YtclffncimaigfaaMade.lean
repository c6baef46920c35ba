/- Rows that a call makes: empty ones, pairs, what is handed back. Conditions: as each theorem says. -/
import Derived.Test.YtclffncimaigfaaAppend
import Derived.Test.YtclffncimaigfaaLawKit
namespace Go.Proofs.Ytclffncimaigfaa
set_option linter.unusedVariables false
set_option linter.unusedSimpArgs false
open Go.RowKit Go.Deep

theorem IMem.empty (w : World) : IMem w.heap.size (w.heap.size + 1) (w.alloc (.cells #[] 3)) (.slice (some ⟨w.heap.size, 0, none⟩) 0 0) [] :=
  ⟨w.heap.size, 0, #[], rfl, Nat.le_refl _, Nat.lt_succ_self _, Nat.le_refl _, Nat.zero_le _, heap_alloc_new w _, rfl, fun i hi => by simp at hi⟩
theorem MMem.empty (w : World) : MMem w.heap.size (w.heap.size + 1) (w.alloc (.cells #[] 37)) (.slice (some ⟨w.heap.size, 0, none⟩) 0 0) [] :=
  ⟨w.heap.size, 0, #[], fun _ => .slice none 0 0, rfl, Nat.le_refl _, Nat.lt_succ_self _, Nat.le_refl _, Nat.zero_le _, heap_alloc_new w _, rfl, fun i hi => by simp at hi, fun i j hi => by simp at hi⟩

theorem givesI_of {w w1 w' : World} {r : Value} {zs : List Int} {hi : Nat} (h1 : Below w.heap.size w w1) (hI : IMem w1.heap.size hi w' r zs) (hB : Below w1.heap.size w1 w') : GivesI zs w (.returned r) w' :=
  ⟨r, rfl, .inl (hI.top.widen h1.size (Nat.le_refl _)), h1.trans (hB.mono h1.size)⟩
theorem givesI_nil {w w1 : World} (h1 : Below w.heap.size w w1) : GivesI [] w (.returned (.slice none 0 0)) w1 := ⟨_, rfl, .inr ⟨rfl, rfl⟩, h1⟩
theorem givesI_empty {w w1 : World} (h1 : Below w.heap.size w w1) : GivesI [] w (.returned (.slice (some ⟨w1.heap.size, 0, none⟩) 0 0)) (w1.alloc (.cells #[] 3)) :=
  givesI_of h1 (IMem.empty w1) ((Below.refl _ _).alloc (Nat.le_refl _) _)
theorem givesM_of {w w1 w' : World} {r : Value} {zs : List (List Int)} {hi : Nat} (h1 : Below w.heap.size w w1) (hI : MMem w1.heap.size hi w' r zs) (hB : Below w1.heap.size w1 w') : GivesM zs w (.returned r) w' :=
  ⟨r, rfl, .inl (hI.top.widen h1.size (Nat.le_refl _)), h1.trans (hB.mono h1.size)⟩
theorem givesM_nil {w w1 : World} (h1 : Below w.heap.size w w1) : GivesM [] w (.returned (.slice none 0 0)) w1 := ⟨_, rfl, .inr ⟨rfl, rfl⟩, h1⟩
theorem givesM_empty {w w1 : World} (h1 : Below w.heap.size w w1) : GivesM [] w (.returned (.slice (some ⟨w1.heap.size, 0, none⟩) 0 0)) (w1.alloc (.cells #[] 37)) :=
  givesM_of h1 (MMem.empty w1) ((Below.refl _ _).alloc (Nat.le_refl _) _)

theorem IMem.pair (w : World) (x y : Int) : IMem w.heap.size (w.heap.size + 1) (w.alloc (.cells #[.int .i64 x, .int .i64 y] 3)) (.slice (some ⟨w.heap.size, 0, none⟩) 2 2) [x, y] := by
  refine ⟨w.heap.size, 2, _, rfl, Nat.le_refl _, Nat.lt_succ_self _, Nat.le_refl _, by rw [maxLen_val]; omega, heap_alloc_new w _, rfl, fun i hi => ?_⟩
  match i, hi with
  | 0, _ => rfl
  | 1, _ => rfl
theorem pair_cell {w : World} {x y : Int} {u : Value} {t : TypeId} : ((w.alloc (.cells #[.int .i64 x, .int .i64 y] 3)).alloc (.cells #[u] t)).cell? ⟨w.heap.size + 1, 0, none⟩ = some u := by
  have : w.heap.size + 1 = (w.alloc (.cells #[.int .i64 x, .int .i64 y] 3)).heap.size := by simp
  rw [this, cell_of_row _ _ 0 #[u] t (0, 0) (heap_alloc_new _ _)]
  rfl

end Go.Proofs.Ytclffncimaigfaa
