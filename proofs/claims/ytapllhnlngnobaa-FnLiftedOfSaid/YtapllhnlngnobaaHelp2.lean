/- What szIntS, szIntSS, eqIntS and eqIntSS do, each a contract. Conditions: as each theorem says. -/
import Derived.Test.YtapllhnlngnobaaHelp
namespace Go.Proofs.Ytapllhnlngnobaa
set_option linter.unusedVariables false
set_option linter.unusedSimpArgs false
open Go.RowKit Go.Deep


/-- What szIntSS says. -/
def Sized (left : Int) (d : List (List Int)) (w : World) (e : Ending) (w' : World) : Prop :=
  ∃ r : Int, e = .returned (.int .i64 r) ∧ (r < 0 ∨ (0 ≤ r ∧ r ≤ left ∧ (d.length : Int) ≤ left ∧ ∀ i, i < d.length → ((row d i).length : Int) ≤ left)) ∧ w = w'


/-- Two lists are one. -/
def sameB (a b : List Int) : Bool := decide (a = b)
def sameMB (a b : List (List Int)) : Bool := decide (a = b)
theorem sameB_yes {a b : List Int} (h : a = b) : sameB a b = true := by simp [sameB, h]
theorem sameB_no {a b : List Int} (h : a ≠ b) : sameB a b = false := by simp [sameB, h]
theorem sameB_iff {a b : List Int} : sameB a b = true ↔ a = b := by simp [sameB]
theorem sameMB_yes {a b : List (List Int)} (h : a = b) : sameMB a b = true := by simp [sameMB, h]
theorem sameMB_no {a b : List (List Int)} (h : a ≠ b) : sameMB a b = false := by simp [sameMB, h]
theorem sameMB_iff {a b : List (List Int)} : sameMB a b = true ↔ a = b := by simp [sameMB]




end Go.Proofs.Ytapllhnlngnobaa
