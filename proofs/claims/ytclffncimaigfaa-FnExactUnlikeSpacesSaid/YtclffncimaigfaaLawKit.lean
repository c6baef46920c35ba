/- Small words for the laws' own walks. Conditions: as each theorem says. -/
import Derived.Test.YtclffncimaigfaaVal
import Derived.Test.YtclffncimaigfaaOpen
namespace Go.Proofs.Ytclffncimaigfaa
set_option linter.unusedVariables false
set_option linter.unusedSimpArgs false
open Go.RowKit Go.Deep

section
variable {lo hi lo' hi' : Nat} {w w' : World} {v : Value} {zs : List Int} {d : List (List Int)}
theorem IVal.fresh (h : IVal lo hi w v zs) (hb : Below w.heap.size w w') : IVal lo hi w' v zs := h.imp (fun h => h.fresh hb) id
theorem MVal.fresh (h : MVal lo hi w v d) (hb : Below w.heap.size w w') : MVal lo hi w' v d := h.imp (fun h => h.fresh hb) id
theorem IVal.outside (h : IVal lo hi w v zs) (hb : Outside lo' hi' w w') (ho : hi ≤ lo' ∨ hi' ≤ lo) : IVal lo hi w' v zs := h.imp (fun h => h.outside hb ho) id
theorem MVal.outside (h : MVal lo hi w v d) (hb : Outside lo' hi' w w') (ho : hi ≤ lo' ∨ hi' ≤ lo) : MVal lo hi w' v d := h.imp (fun h => h.outside hb ho) id
end

/-- A value is handed back, and what was there is as it was. -/
def Gives (v : Value) (w : World) (e : Ending) (w' : World) : Prop := e = .returned v ∧ Below w.heap.size w w'
def GivesI (zs : List Int) (w : World) (e : Ending) (w' : World) : Prop := ∃ r, e = .returned r ∧ IVal w.heap.size w'.heap.size w' r zs ∧ Below w.heap.size w w'
def GivesM (d : List (List Int)) (w : World) (e : Ending) (w' : World) : Prop := ∃ r, e = .returned r ∧ MVal w.heap.size w'.heap.size w' r d ∧ Below w.heap.size w w'
theorem Quiet.gives {v : Value} {w : World} {e : Ending} {w' : World} (h : Quiet v w e w') : Gives v w e w' := ⟨h.1, h.2.below _⟩
theorem MadeI.gives {zs : List Int} {w : World} {e : Ending} {w' : World} (h : MadeI w zs e w') : GivesI zs w e w' := by
  obtain ⟨r, h1, h2, h3⟩ := h
  exact ⟨r, h1, .inl h2, h3⟩
theorem MadeM.gives {d : List (List Int)} {w : World} {e : Ending} {w' : World} (h : MadeM w d e w') : GivesM d w e w' := by
  obtain ⟨r, h1, h2, h3⟩ := h
  exact ⟨r, h1, .inl h2, h3⟩
theorem gives_of_quiet {P : Program} {f : FuncId} {args : Array Value} {v : Value} {w : World} (h : Calls P f args w (Quiet v w)) : Calls P f args w (Gives v w) := h.mono fun _ _ h => h.gives
theorem gives_of_madeI {P : Program} {f : FuncId} {args : Array Value} {zs : List Int} {w : World} (h : Calls P f args w (MadeI w zs)) : Calls P f args w (GivesI zs w) := h.mono fun _ _ h => h.gives
theorem gives_of_madeM {P : Program} {f : FuncId} {args : Array Value} {d : List (List Int)} {w : World} (h : Calls P f args w (MadeM w d)) : Calls P f args w (GivesM d w) := h.mono fun _ _ h => h.gives

theorem eqIntS_yes (v u : Value) (a : List Int) (w : World) (ha : IIn w v a) (hb : IIn w u a) :
    Calls Try.prog 51 #[v, u] w (Quiet (.bool true) w) := by
  have := eqIntS_any v u a a w ha hb
  rwa [sameB_yes rfl] at this
theorem eqIntSS_yes (v u : Value) (a : List (List Int)) (w : World) (ha : MIn w v a) (hb : MIn w u a) :
    Calls Try.prog 19 #[v, u] w (Quiet (.bool true) w) := by
  have := eqIntSS_any v u a a w ha hb
  rwa [sameMB_yes rfl] at this

theorem tot_bound {d : List (List Int)} {n B : Nat} (h : ∀ i, i < n → (row d i).length ≤ B) : tot d n ≤ n * B := by
  induction n with
  | zero => simp [tot]
  | succ n ih =>
    have h1 := ih (fun i hi => h i (by omega))
    have h2 := h n (by omega)
    simp only [tot, Nat.succ_mul]
    omega
theorem tot_small {d : List (List Int)} (h1 : d.length ≤ 1048576) (h : ∀ i, i < d.length → (row d i).length ≤ 1048576) : tot d d.length ≤ 1152921504606846 := by
  have := tot_bound h
  have h2 : d.length * 1048576 ≤ 1048576 * 1048576 := Nat.mul_le_mul_right _ h1
  omega

end Go.Proofs.Ytclffncimaigfaa
