/- Small words for the laws over drawn codes: SpaceOk, alive. Conditions: as each theorem says. -/
import Derived.Test.YtclffncimaigfaaMade
import Derived.Test.YtclffncimaigfaaFar
import Derived.Test.YtclffncimaigfaaSpace3
namespace Go.Proofs.Ytclffncimaigfaa
set_option linter.unusedVariables false
set_option linter.unusedSimpArgs false
open Go.RowKit Go.Deep


theorem implSpaceOk_any (lo hi : Nat) (v : Value) (d : List (List Int)) (w : World) (h : MMem lo hi w v d) : Calls Try.prog 58 #[v] w (Quiet (.bool (decP (Space d))) w) := by
  have HS := Lib.hid <| isSpace_any lo hi v d w h
  clear h
  go_enter Try.func58, Try.ntmps58
  go_wp2_with fail
  refine HS.out.mono ?_
  rintro e w1 ⟨rfl, hd⟩
  have HD := Lib.hid hd
  clear hd
  go_wp2
  go_ret
  exact ⟨rfl, HD.out⟩

theorem MMem.two (w : World) (x y z t : Int) :
    MMem w.heap.size (w.heap.size + 3) (((w.alloc (.cells #[.int .i64 x, .int .i64 y] 3)).alloc (.cells #[.int .i64 z, .int .i64 t] 3)).alloc (.cells #[.slice (some ⟨w.heap.size, 0, none⟩) 2 2, .slice (some ⟨w.heap.size + 1, 0, none⟩) 2 2] 37))
      (.slice (some ⟨w.heap.size + 2, 0, none⟩) 2 2) [[x, y], [z, t]] := by
  have h1 := ((IMem.pair w x y).alloc (.cells #[.int .i64 z, .int .i64 t] 3)).alloc (.cells #[.slice (some ⟨w.heap.size, 0, none⟩) 2 2, .slice (some ⟨w.heap.size + 1, 0, none⟩) 2 2] 37)
  have h2 := (IMem.pair (w.alloc (.cells #[.int .i64 x, .int .i64 y] 3)) z t).alloc (.cells #[.slice (some ⟨w.heap.size, 0, none⟩) 2 2, .slice (some ⟨w.heap.size + 1, 0, none⟩) 2 2] 37)
  have e1 : (w.alloc (.cells #[.int .i64 x, .int .i64 y] 3)).heap.size = w.heap.size + 1 := by simp
  have e2 : ((w.alloc (.cells #[.int .i64 x, .int .i64 y] 3)).alloc (.cells #[.int .i64 z, .int .i64 t] 3)).heap.size = w.heap.size + 2 := by simp
  rw [e1] at h2
  have h3 := heap_alloc_new ((w.alloc (.cells #[.int .i64 x, .int .i64 y] 3)).alloc (.cells #[.int .i64 z, .int .i64 t] 3)) (.cells #[.slice (some ⟨w.heap.size, 0, none⟩) 2 2, .slice (some ⟨w.heap.size + 1, 0, none⟩) 2 2] 37)
  rw [e2] at h3
  refine ⟨w.heap.size + 2, 2, _, fun i => .slice (some ⟨w.heap.size + i, 0, none⟩) 2 2, rfl, by omega, by omega, Nat.le_refl _, by rw [maxLen_val]; decide, h3, rfl, fun i hi => ?_, fun i j hi hj hij => ?_⟩
  · match i, hi with
    | 0, _ => exact ⟨rfl, h1.widen (Nat.le_refl _) (by omega)⟩
    | 1, _ => exact ⟨rfl, h2.widen (by omega) (by omega)⟩
  · simp [Value.ownBlock]; exact hij

theorem IMem.one (w : World) (x : Int) : IMem w.heap.size (w.heap.size + 1) (w.alloc (.cells #[.int .i64 x] 3)) (.slice (some ⟨w.heap.size, 0, none⟩) 1 1) [x] := by
  refine ⟨w.heap.size, 1, _, rfl, Nat.le_refl _, Nat.lt_succ_self _, Nat.le_refl _, by rw [maxLen_val]; omega, heap_alloc_new w _, rfl, fun i hi => ?_⟩
  match i, hi with
  | 0, _ => rfl
theorem MMem.oneRow (w : World) (x : Int) :
    MMem w.heap.size (w.heap.size + 2) ((w.alloc (.cells #[.int .i64 x] 3)).alloc (.cells #[.slice (some ⟨w.heap.size, 0, none⟩) 1 1] 37)) (.slice (some ⟨w.heap.size + 1, 0, none⟩) 1 1) [[x]] := by
  have h1 := (IMem.one w x).alloc (.cells #[.slice (some ⟨w.heap.size, 0, none⟩) 1 1] 37)
  have e1 : (w.alloc (.cells #[.int .i64 x] 3)).heap.size = w.heap.size + 1 := by simp
  have h3 := heap_alloc_new (w.alloc (.cells #[.int .i64 x] 3)) (.cells #[.slice (some ⟨w.heap.size, 0, none⟩) 1 1] 37)
  rw [e1] at h3
  refine ⟨w.heap.size + 1, 1, _, fun i => .slice (some ⟨w.heap.size + i, 0, none⟩) 1 1, rfl, by omega, by omega, Nat.le_refl _, by rw [maxLen_val]; decide, h3, rfl, fun i hi => ?_, fun i j hi hj hij => ?_⟩
  · match i, hi with
    | 0, _ => exact ⟨rfl, h1.widen (Nat.le_refl _) (by omega)⟩
  · simp at hi hj; omega

theorem space_two : Space [[0, 2], [2, 0]] := by
  refine ⟨⟨by decide, by decide, fun i hi => ?_, fun i j hi hj => ?_⟩, fun i j k hi hj hk => ?_⟩
  · match i, hi with
    | 0, _ => rfl
    | 1, _ => rfl
  · match i, hi, j, hj with
    | 0, _, 0, _ => refine ⟨by decide, by decide, by decide, by decide⟩
    | 0, _, 1, _ => refine ⟨by decide, by decide, by decide, by decide⟩
    | 1, _, 0, _ => refine ⟨by decide, by decide, by decide, by decide⟩
    | 1, _, 1, _ => refine ⟨by decide, by decide, by decide, by decide⟩
  · match i, hi, j, hj, k, hk with
    | 0, _, 0, _, 0, _ => decide
    | 0, _, 0, _, 1, _ => decide
    | 0, _, 1, _, 0, _ => decide
    | 0, _, 1, _, 1, _ => decide
    | 1, _, 0, _, 0, _ => decide
    | 1, _, 0, _, 1, _ => decide
    | 1, _, 1, _, 0, _ => decide
    | 1, _, 1, _, 1, _ => decide
theorem not_space_one : ¬ Space [[1]] := fun h => by
  have := ((h.ent 0 0 (by decide) (by decide)).2.2.2.2 rfl)
  exact absurd this (by decide)

set_option maxHeartbeats 400000 in
theorem alive_any (w : World) : Calls Try.prog 24 #[] w (Gives (.bool true) w) := by
  have h1 := implSpaceOk_any _ _ _ _ _ (MMem.two w 0 2 2 0)
  rw [decP_yes space_two] at h1
  have HA := Lib.hid <| h1
  have h2 : ∀ w' : World, Calls Try.prog 58 #[.slice (some ⟨w'.heap.size + 1, 0, none⟩) 1 1] ((w'.alloc (.cells #[.int .i64 1] 3)).alloc (.cells #[.slice (some ⟨w'.heap.size, 0, none⟩) 1 1] 37)) (Quiet (.bool false) ((w'.alloc (.cells #[.int .i64 1] 3)).alloc (.cells #[.slice (some ⟨w'.heap.size, 0, none⟩) 1 1] 37))) := by
    intro w'
    have := implSpaceOk_any _ _ _ _ _ (MMem.oneRow w' 1)
    rwa [decP_no not_space_one] at this
  have HZ := Lib.hid <| h2
  clear h1 h2
  go_enter Try.func24, Try.ntmps24
  go_wp2_with fail
  refine HA.out.mono ?_
  rintro e w1 ⟨rfl, hd1⟩
  have hb := (((Below.refl w.heap.size w).alloc (Nat.le_refl _) (.cells #[.int .i64 0, .int .i64 2] 3)).alloc (by simp) (.cells #[.int .i64 2, .int .i64 0] 3)).alloc (by simp; omega) (.cells #[.slice (some ⟨w.heap.size, 0, none⟩) 2 2, .slice (some ⟨w.heap.size + 1, 0, none⟩) 2 2] 37)
  have HB1 : Hid (Below w.heap.size w w1) := hb.trans (hd1.below _)
  clear hb hd1
  go_wp2_with fail
  refine (HZ.out w1).mono ?_
  rintro e w2 ⟨rfl, hd2⟩
  have hb := ((HB1.out.alloc HB1.out.size (.cells #[.int .i64 1] 3))).alloc (by have := HB1.out.size; simp; omega) (.cells #[.slice (some ⟨w1.heap.size, 0, none⟩) 1 1] 37)
  have HB2 : Hid (Below w.heap.size w w2) := hb.trans (hd2.below _)
  clear hb hd2
  go_wp2
  go_ret
  exact ⟨rfl, HB2.out⟩

end Go.Proofs.Ytclffncimaigfaa
