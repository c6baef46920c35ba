/-
  No cell of these rows narrows 'for every input' (looked for: loops, veiled, ifaces, maps, wideKeys, modest, calm, conditions, laid).
  DERIVED. THE GIVEN ROWS OF THIS SEAT. 13 by the template 'for every input the law returns true; each argument reads behind the call as it read before'; 0 by the template 'total and deterministic' (their statements: YtekbmmimmjpjoaaTotals.lean).
  GIVEN WITH THE SEED: the statements are not yours to turn. If you find one false, say at which input.
  Laid BY PROGRAM, IN A SANDBOX (cutbox-rows.mjs): the forced cells as the released guide's own fill.sh prints them over the translation 0bf161eb2fdf0526… (all of the seat's roots in one cut). By AI agents, Wed Nov 11 2026. No macro, syntax, notation, axiom, sorry.
-/
import Derived.Test.YtekbmmimmjpjoaaChecked
import GoSem.Claim
import GoSem.ClaimJoined
import GoSem.ClaimMapViews
import Derived.JoinedTies
import Derived.KernelRfl
namespace Go.Proofs.Ytekbmmimmjpjoaa
/- THE CELL 'sum', in the pinned program and in every row, IS THE sha256 OF THE DUMP (.gsa) THAT YtekbmmimmjpjoaaProg.lean LOADS. Nothing in Lean hashes anything: it is a label: what it is worth is what the hold of that sum in a sandbox is worth. -/
noncomputable def Try.pinned : Pinned := { name := "ytekbmmimmjpjoaa", sum := "0bf161eb2fdf0526caedab7902043cbf34f96d4008069571682ef4be52aa21dc", checked := Try.checked }
namespace Rows
def none {H : Type} : Left H := { results := [], args := [] }

/-- 'laws.FnExactApartBy': WHATEVER THE INPUT: true; the input reads as it did. -/
def fnExactApartBySpec : ChangeSpec := { name := "fnExactApartBy", fn := fun _ => fun
  | [d1, d2] => { results := [.lit (.bool true)], args := [d1, d2] }
  | _ => none }
def fnExactApartByRow : OpenClaim := { program := "ytekbmmimmjpjoaa", sum := "0bf161eb2fdf0526caedab7902043cbf34f96d4008069571682ef4be52aa21dc", func := "loop.example/fewpoints/laws.FnExactApartBy", spec := "fnExactApartBy", apart := false }
def FnExactApartBySaid : Prop := fnExactApartByRow.holds Try.pinned (OpenSpec.ofChange fnExactApartBySpec)

/-- ITS FALSE NEIGHBOUR: 'it returns false'. Refute it at one input. -/
def fnExactApartByWrong : ChangeSpec := { name := "fnExactApartBy", fn := fun _ => fun
  | [d1, d2] => { results := [.lit (.bool false)], args := [d1, d2] }
  | _ => none }
def FnExactApartByWrongFalsely : Prop := fnExactApartByRow.holds Try.pinned (OpenSpec.ofChange fnExactApartByWrong)

/-- 'laws.FnExactTameOk': WHATEVER THE INPUT: true; the input reads as it did. -/
def fnExactTameOkSpec : ChangeSpec := { name := "fnExactTameOk", fn := fun _ => fun
  | [d1, d2] => { results := [.lit (.bool true)], args := [d1, d2] }
  | _ => none }
def fnExactTameOkRow : OpenClaim := { program := "ytekbmmimmjpjoaa", sum := "0bf161eb2fdf0526caedab7902043cbf34f96d4008069571682ef4be52aa21dc", func := "loop.example/fewpoints/laws.FnExactTameOk", spec := "fnExactTameOk", apart := false }
def FnExactTameOkSaid : Prop := fnExactTameOkRow.holds Try.pinned (OpenSpec.ofChange fnExactTameOkSpec)

/-- ITS FALSE NEIGHBOUR: 'it returns false'. Refute it at one input. -/
def fnExactTameOkWrong : ChangeSpec := { name := "fnExactTameOk", fn := fun _ => fun
  | [d1, d2] => { results := [.lit (.bool false)], args := [d1, d2] }
  | _ => none }
def FnExactTameOkWrongFalsely : Prop := fnExactTameOkRow.holds Try.pinned (OpenSpec.ofChange fnExactTameOkWrong)

/-- 'laws.FnExactDistancesFrom': WHATEVER THE INPUT: true; the input reads as it did. -/
def fnExactDistancesFromSpec : ChangeSpec := { name := "fnExactDistancesFrom", fn := fun _ => fun
  | [d1, d2] => { results := [.lit (.bool true)], args := [d1, d2] }
  | _ => none }
def fnExactDistancesFromRow : OpenClaim := { program := "ytekbmmimmjpjoaa", sum := "0bf161eb2fdf0526caedab7902043cbf34f96d4008069571682ef4be52aa21dc", func := "loop.example/fewpoints/laws.FnExactDistancesFrom", spec := "fnExactDistancesFrom", apart := false }
def FnExactDistancesFromSaid : Prop := fnExactDistancesFromRow.holds Try.pinned (OpenSpec.ofChange fnExactDistancesFromSpec)

/-- ITS FALSE NEIGHBOUR: 'it returns false'. Refute it at one input. -/
def fnExactDistancesFromWrong : ChangeSpec := { name := "fnExactDistancesFrom", fn := fun _ => fun
  | [d1, d2] => { results := [.lit (.bool false)], args := [d1, d2] }
  | _ => none }
def FnExactDistancesFromWrongFalsely : Prop := fnExactDistancesFromRow.holds Try.pinned (OpenSpec.ofChange fnExactDistancesFromWrong)

/-- 'laws.FnExactSteepestOf': WHATEVER THE INPUT: true; the input reads as it did. -/
def fnExactSteepestOfSpec : ChangeSpec := { name := "fnExactSteepestOf", fn := fun _ => fun
  | [d1, d2] => { results := [.lit (.bool true)], args := [d1, d2] }
  | _ => none }
def fnExactSteepestOfRow : OpenClaim := { program := "ytekbmmimmjpjoaa", sum := "0bf161eb2fdf0526caedab7902043cbf34f96d4008069571682ef4be52aa21dc", func := "loop.example/fewpoints/laws.FnExactSteepestOf", spec := "fnExactSteepestOf", apart := false }
def FnExactSteepestOfSaid : Prop := fnExactSteepestOfRow.holds Try.pinned (OpenSpec.ofChange fnExactSteepestOfSpec)

/-- ITS FALSE NEIGHBOUR: 'it returns false'. Refute it at one input. -/
def fnExactSteepestOfWrong : ChangeSpec := { name := "fnExactSteepestOf", fn := fun _ => fun
  | [d1, d2] => { results := [.lit (.bool false)], args := [d1, d2] }
  | _ => none }
def FnExactSteepestOfWrongFalsely : Prop := fnExactSteepestOfRow.holds Try.pinned (OpenSpec.ofChange fnExactSteepestOfWrong)

/-- 'laws.FnExactCoversOk': WHATEVER THE INPUT: true; the input reads as it did. -/
def fnExactCoversOkSpec : ChangeSpec := { name := "fnExactCoversOk", fn := fun _ => fun
  | [d1, d2] => { results := [.lit (.bool true)], args := [d1, d2] }
  | _ => none }
def fnExactCoversOkRow : OpenClaim := { program := "ytekbmmimmjpjoaa", sum := "0bf161eb2fdf0526caedab7902043cbf34f96d4008069571682ef4be52aa21dc", func := "loop.example/fewpoints/laws.FnExactCoversOk", spec := "fnExactCoversOk", apart := false }
def FnExactCoversOkSaid : Prop := fnExactCoversOkRow.holds Try.pinned (OpenSpec.ofChange fnExactCoversOkSpec)

/-- ITS FALSE NEIGHBOUR: 'it returns false'. Refute it at one input. -/
def fnExactCoversOkWrong : ChangeSpec := { name := "fnExactCoversOk", fn := fun _ => fun
  | [d1, d2] => { results := [.lit (.bool false)], args := [d1, d2] }
  | _ => none }
def FnExactCoversOkWrongFalsely : Prop := fnExactCoversOkRow.holds Try.pinned (OpenSpec.ofChange fnExactCoversOkWrong)

/-- 'laws.FnExactKnownOk': WHATEVER THE INPUT: true; the input reads as it did. -/
def fnExactKnownOkSpec : ChangeSpec := { name := "fnExactKnownOk", fn := fun _ => fun
  | [d1, d2, d3] => { results := [.lit (.bool true)], args := [d1, d2, d3] }
  | _ => none }
def fnExactKnownOkRow : OpenClaim := { program := "ytekbmmimmjpjoaa", sum := "0bf161eb2fdf0526caedab7902043cbf34f96d4008069571682ef4be52aa21dc", func := "loop.example/fewpoints/laws.FnExactKnownOk", spec := "fnExactKnownOk", apart := false }
def FnExactKnownOkSaid : Prop := fnExactKnownOkRow.holds Try.pinned (OpenSpec.ofChange fnExactKnownOkSpec)

/-- ITS FALSE NEIGHBOUR: 'it returns false'. Refute it at one input. -/
def fnExactKnownOkWrong : ChangeSpec := { name := "fnExactKnownOk", fn := fun _ => fun
  | [d1, d2, d3] => { results := [.lit (.bool false)], args := [d1, d2, d3] }
  | _ => none }
def FnExactKnownOkWrongFalsely : Prop := fnExactKnownOkRow.holds Try.pinned (OpenSpec.ofChange fnExactKnownOkWrong)

/-- 'laws.FnExactMiddleOf': WHATEVER THE INPUT: true; the input reads as it did. -/
def fnExactMiddleOfSpec : ChangeSpec := { name := "fnExactMiddleOf", fn := fun _ => fun
  | [d1, d2, d3] => { results := [.lit (.bool true)], args := [d1, d2, d3] }
  | _ => none }
def fnExactMiddleOfRow : OpenClaim := { program := "ytekbmmimmjpjoaa", sum := "0bf161eb2fdf0526caedab7902043cbf34f96d4008069571682ef4be52aa21dc", func := "loop.example/fewpoints/laws.FnExactMiddleOf", spec := "fnExactMiddleOf", unfollowed := true, recurses := true, apart := false }
def FnExactMiddleOfSaid : Prop := fnExactMiddleOfRow.holds Try.pinned (OpenSpec.ofChange fnExactMiddleOfSpec)

/-- ITS FALSE NEIGHBOUR: 'it returns false'. Refute it at one input. -/
def fnExactMiddleOfWrong : ChangeSpec := { name := "fnExactMiddleOf", fn := fun _ => fun
  | [d1, d2, d3] => { results := [.lit (.bool false)], args := [d1, d2, d3] }
  | _ => none }
def FnExactMiddleOfWrongFalsely : Prop := fnExactMiddleOfRow.holds Try.pinned (OpenSpec.ofChange fnExactMiddleOfWrong)

/-- 'laws.FnExactLiftedOf': WHATEVER THE INPUT: true; the input reads as it did. -/
def fnExactLiftedOfSpec : ChangeSpec := { name := "fnExactLiftedOf", fn := fun _ => fun
  | [d] => { results := [.lit (.bool true)], args := [d] }
  | _ => none }
def fnExactLiftedOfRow : OpenClaim := { program := "ytekbmmimmjpjoaa", sum := "0bf161eb2fdf0526caedab7902043cbf34f96d4008069571682ef4be52aa21dc", func := "loop.example/fewpoints/laws.FnExactLiftedOf", spec := "fnExactLiftedOf", apart := false }
def FnExactLiftedOfSaid : Prop := fnExactLiftedOfRow.holds Try.pinned (OpenSpec.ofChange fnExactLiftedOfSpec)

/-- ITS FALSE NEIGHBOUR: 'it returns false'. Refute it at one input. -/
def fnExactLiftedOfWrong : ChangeSpec := { name := "fnExactLiftedOf", fn := fun _ => fun
  | [d] => { results := [.lit (.bool false)], args := [d] }
  | _ => none }
def FnExactLiftedOfWrongFalsely : Prop := fnExactLiftedOfRow.holds Try.pinned (OpenSpec.ofChange fnExactLiftedOfWrong)

/-- 'laws.FnExactTightOk': WHATEVER THE INPUT: true; the input reads as it did. -/
def fnExactTightOkSpec : ChangeSpec := { name := "fnExactTightOk", fn := fun _ => fun
  | [d1, d2] => { results := [.lit (.bool true)], args := [d1, d2] }
  | _ => none }
def fnExactTightOkRow : OpenClaim := { program := "ytekbmmimmjpjoaa", sum := "0bf161eb2fdf0526caedab7902043cbf34f96d4008069571682ef4be52aa21dc", func := "loop.example/fewpoints/laws.FnExactTightOk", spec := "fnExactTightOk", apart := false }
def FnExactTightOkSaid : Prop := fnExactTightOkRow.holds Try.pinned (OpenSpec.ofChange fnExactTightOkSpec)

/-- ITS FALSE NEIGHBOUR: 'it returns false'. Refute it at one input. -/
def fnExactTightOkWrong : ChangeSpec := { name := "fnExactTightOk", fn := fun _ => fun
  | [d1, d2] => { results := [.lit (.bool false)], args := [d1, d2] }
  | _ => none }
def FnExactTightOkWrongFalsely : Prop := fnExactTightOkRow.holds Try.pinned (OpenSpec.ofChange fnExactTightOkWrong)

/-- 'laws.FnExactTightBelow': WHATEVER THE INPUT: true; the input reads as it did. -/
def fnExactTightBelowSpec : ChangeSpec := { name := "fnExactTightBelow", fn := fun _ => fun
  | [d1, d2] => { results := [.lit (.bool true)], args := [d1, d2] }
  | _ => none }
def fnExactTightBelowRow : OpenClaim := { program := "ytekbmmimmjpjoaa", sum := "0bf161eb2fdf0526caedab7902043cbf34f96d4008069571682ef4be52aa21dc", func := "loop.example/fewpoints/laws.FnExactTightBelow", spec := "fnExactTightBelow", apart := false }
def FnExactTightBelowSaid : Prop := fnExactTightBelowRow.holds Try.pinned (OpenSpec.ofChange fnExactTightBelowSpec)

/-- ITS FALSE NEIGHBOUR: 'it returns false'. Refute it at one input. -/
def fnExactTightBelowWrong : ChangeSpec := { name := "fnExactTightBelow", fn := fun _ => fun
  | [d1, d2] => { results := [.lit (.bool false)], args := [d1, d2] }
  | _ => none }
def FnExactTightBelowWrongFalsely : Prop := fnExactTightBelowRow.holds Try.pinned (OpenSpec.ofChange fnExactTightBelowWrong)

/-- 'laws.FnExactPartnersOf': WHATEVER THE INPUT: true; the input reads as it did. -/
def fnExactPartnersOfSpec : ChangeSpec := { name := "fnExactPartnersOf", fn := fun _ => fun
  | [d1, d2] => { results := [.lit (.bool true)], args := [d1, d2] }
  | _ => none }
def fnExactPartnersOfRow : OpenClaim := { program := "ytekbmmimmjpjoaa", sum := "0bf161eb2fdf0526caedab7902043cbf34f96d4008069571682ef4be52aa21dc", func := "loop.example/fewpoints/laws.FnExactPartnersOf", spec := "fnExactPartnersOf", apart := false }
def FnExactPartnersOfSaid : Prop := fnExactPartnersOfRow.holds Try.pinned (OpenSpec.ofChange fnExactPartnersOfSpec)

/-- ITS FALSE NEIGHBOUR: 'it returns false'. Refute it at one input. -/
def fnExactPartnersOfWrong : ChangeSpec := { name := "fnExactPartnersOf", fn := fun _ => fun
  | [d1, d2] => { results := [.lit (.bool false)], args := [d1, d2] }
  | _ => none }
def FnExactPartnersOfWrongFalsely : Prop := fnExactPartnersOfRow.holds Try.pinned (OpenSpec.ofChange fnExactPartnersOfWrong)

/-- 'laws.FnExactHighestOf': WHATEVER THE INPUT: true; the input reads as it did. -/
def fnExactHighestOfSpec : ChangeSpec := { name := "fnExactHighestOf", fn := fun _ => fun
  | [d1, d2, d3] => { results := [.lit (.bool true)], args := [d1, d2, d3] }
  | _ => none }
def fnExactHighestOfRow : OpenClaim := { program := "ytekbmmimmjpjoaa", sum := "0bf161eb2fdf0526caedab7902043cbf34f96d4008069571682ef4be52aa21dc", func := "loop.example/fewpoints/laws.FnExactHighestOf", spec := "fnExactHighestOf", apart := false }
def FnExactHighestOfSaid : Prop := fnExactHighestOfRow.holds Try.pinned (OpenSpec.ofChange fnExactHighestOfSpec)

/-- ITS FALSE NEIGHBOUR: 'it returns false'. Refute it at one input. -/
def fnExactHighestOfWrong : ChangeSpec := { name := "fnExactHighestOf", fn := fun _ => fun
  | [d1, d2, d3] => { results := [.lit (.bool false)], args := [d1, d2, d3] }
  | _ => none }
def FnExactHighestOfWrongFalsely : Prop := fnExactHighestOfRow.holds Try.pinned (OpenSpec.ofChange fnExactHighestOfWrong)

/-- 'laws.FnExactLowestOf': WHATEVER THE INPUT: true; the input reads as it did. -/
def fnExactLowestOfSpec : ChangeSpec := { name := "fnExactLowestOf", fn := fun _ => fun
  | [d1, d2, d3] => { results := [.lit (.bool true)], args := [d1, d2, d3] }
  | _ => none }
def fnExactLowestOfRow : OpenClaim := { program := "ytekbmmimmjpjoaa", sum := "0bf161eb2fdf0526caedab7902043cbf34f96d4008069571682ef4be52aa21dc", func := "loop.example/fewpoints/laws.FnExactLowestOf", spec := "fnExactLowestOf", apart := false }
def FnExactLowestOfSaid : Prop := fnExactLowestOfRow.holds Try.pinned (OpenSpec.ofChange fnExactLowestOfSpec)

/-- ITS FALSE NEIGHBOUR: 'it returns false'. Refute it at one input. -/
def fnExactLowestOfWrong : ChangeSpec := { name := "fnExactLowestOf", fn := fun _ => fun
  | [d1, d2, d3] => { results := [.lit (.bool false)], args := [d1, d2, d3] }
  | _ => none }
def FnExactLowestOfWrongFalsely : Prop := fnExactLowestOfRow.holds Try.pinned (OpenSpec.ofChange fnExactLowestOfWrong)

/- THE SECOND FORM. 'bulk': how many values and letters a reading holds, each counted each time it is reached (what is shared counts as often as it is met; a slice's spare places count too). A statement '..UptoSaid' is the law's where the arguments, and the package variables that the reading takes, are together of bulk at most 1048576: NARROWER than '..Said'. Prove '..Said' where nothing that the law and all that it calls make is longer than what came in: it says more and counts as full. Else prove '..UptoSaid'. A law counts once. -/
mutual
def uptoBulk {H : Type} : DataW H → Nat
  | .lit (.string bytes) => bytes.length + 1
  | .lit _ => 1
  | .nil => 1
  | .ptr d => uptoBulk d + 1
  | .slice elems spare => uptoBulkAll elems + uptoBulkAll spare + 1
  | .agg parts => uptoBulkAll parts + 1
  | .iface _ d => uptoBulk d + 1
  | .map entries => uptoBulkEntries entries + 1
  | .held _ => 1
def uptoBulkAll {H : Type} : List (DataW H) → Nat
  | [] => 0
  | d :: r => uptoBulk d + uptoBulkAll r
def uptoBulkEntries {H : Type} : List (Lit × DataW H) → Nat
  | [] => 0
  | x :: r => uptoBulkEntry x + uptoBulkEntries r
def uptoBulkEntry {H : Type} : Lit × DataW H → Nat
  | (.string bytes, d) => bytes.length + uptoBulk d + 1
  | (_, d) => uptoBulk d + 1
 end
def uptoSmall : (H : Type) → List (DataW H) → Bool := fun _ ds => decide (uptoBulkAll ds ≤ 1048576)
def OpenSpec.upto (s : _root_.Go.ChangeSpec) : _root_.Go.OpenSpec := { _root_.Go.OpenSpec.ofChange s with cond := some uptoSmall }

/-- 'laws.FnExactApartBy', WHERE WHAT IT READS IS OF BULK AT MOST 1048576: true; the input reads as it did. -/
def fnExactApartByUptoRow : OpenClaim := { program := "ytekbmmimmjpjoaa", sum := "0bf161eb2fdf0526caedab7902043cbf34f96d4008069571682ef4be52aa21dc", func := "loop.example/fewpoints/laws.FnExactApartBy", spec := "fnExactApartBy", apart := false, narrowed := true }
def FnExactApartByUptoSaid : Prop := fnExactApartByUptoRow.holds Try.pinned (OpenSpec.upto fnExactApartBySpec)

/-- 'laws.FnExactTameOk', WHERE WHAT IT READS IS OF BULK AT MOST 1048576: true; the input reads as it did. -/
def fnExactTameOkUptoRow : OpenClaim := { program := "ytekbmmimmjpjoaa", sum := "0bf161eb2fdf0526caedab7902043cbf34f96d4008069571682ef4be52aa21dc", func := "loop.example/fewpoints/laws.FnExactTameOk", spec := "fnExactTameOk", apart := false, narrowed := true }
def FnExactTameOkUptoSaid : Prop := fnExactTameOkUptoRow.holds Try.pinned (OpenSpec.upto fnExactTameOkSpec)

/-- 'laws.FnExactDistancesFrom', WHERE WHAT IT READS IS OF BULK AT MOST 1048576: true; the input reads as it did. -/
def fnExactDistancesFromUptoRow : OpenClaim := { program := "ytekbmmimmjpjoaa", sum := "0bf161eb2fdf0526caedab7902043cbf34f96d4008069571682ef4be52aa21dc", func := "loop.example/fewpoints/laws.FnExactDistancesFrom", spec := "fnExactDistancesFrom", apart := false, narrowed := true }
def FnExactDistancesFromUptoSaid : Prop := fnExactDistancesFromUptoRow.holds Try.pinned (OpenSpec.upto fnExactDistancesFromSpec)

/-- 'laws.FnExactSteepestOf', WHERE WHAT IT READS IS OF BULK AT MOST 1048576: true; the input reads as it did. -/
def fnExactSteepestOfUptoRow : OpenClaim := { program := "ytekbmmimmjpjoaa", sum := "0bf161eb2fdf0526caedab7902043cbf34f96d4008069571682ef4be52aa21dc", func := "loop.example/fewpoints/laws.FnExactSteepestOf", spec := "fnExactSteepestOf", apart := false, narrowed := true }
def FnExactSteepestOfUptoSaid : Prop := fnExactSteepestOfUptoRow.holds Try.pinned (OpenSpec.upto fnExactSteepestOfSpec)

/-- 'laws.FnExactCoversOk', WHERE WHAT IT READS IS OF BULK AT MOST 1048576: true; the input reads as it did. -/
def fnExactCoversOkUptoRow : OpenClaim := { program := "ytekbmmimmjpjoaa", sum := "0bf161eb2fdf0526caedab7902043cbf34f96d4008069571682ef4be52aa21dc", func := "loop.example/fewpoints/laws.FnExactCoversOk", spec := "fnExactCoversOk", apart := false, narrowed := true }
def FnExactCoversOkUptoSaid : Prop := fnExactCoversOkUptoRow.holds Try.pinned (OpenSpec.upto fnExactCoversOkSpec)

/-- 'laws.FnExactKnownOk', WHERE WHAT IT READS IS OF BULK AT MOST 1048576: true; the input reads as it did. -/
def fnExactKnownOkUptoRow : OpenClaim := { program := "ytekbmmimmjpjoaa", sum := "0bf161eb2fdf0526caedab7902043cbf34f96d4008069571682ef4be52aa21dc", func := "loop.example/fewpoints/laws.FnExactKnownOk", spec := "fnExactKnownOk", apart := false, narrowed := true }
def FnExactKnownOkUptoSaid : Prop := fnExactKnownOkUptoRow.holds Try.pinned (OpenSpec.upto fnExactKnownOkSpec)

/-- 'laws.FnExactMiddleOf', WHERE WHAT IT READS IS OF BULK AT MOST 1048576: true; the input reads as it did. -/
def fnExactMiddleOfUptoRow : OpenClaim := { program := "ytekbmmimmjpjoaa", sum := "0bf161eb2fdf0526caedab7902043cbf34f96d4008069571682ef4be52aa21dc", func := "loop.example/fewpoints/laws.FnExactMiddleOf", spec := "fnExactMiddleOf", unfollowed := true, recurses := true, apart := false, narrowed := true }
def FnExactMiddleOfUptoSaid : Prop := fnExactMiddleOfUptoRow.holds Try.pinned (OpenSpec.upto fnExactMiddleOfSpec)

/-- 'laws.FnExactLiftedOf', WHERE WHAT IT READS IS OF BULK AT MOST 1048576: true; the input reads as it did. -/
def fnExactLiftedOfUptoRow : OpenClaim := { program := "ytekbmmimmjpjoaa", sum := "0bf161eb2fdf0526caedab7902043cbf34f96d4008069571682ef4be52aa21dc", func := "loop.example/fewpoints/laws.FnExactLiftedOf", spec := "fnExactLiftedOf", apart := false, narrowed := true }
def FnExactLiftedOfUptoSaid : Prop := fnExactLiftedOfUptoRow.holds Try.pinned (OpenSpec.upto fnExactLiftedOfSpec)

/-- 'laws.FnExactTightOk', WHERE WHAT IT READS IS OF BULK AT MOST 1048576: true; the input reads as it did. -/
def fnExactTightOkUptoRow : OpenClaim := { program := "ytekbmmimmjpjoaa", sum := "0bf161eb2fdf0526caedab7902043cbf34f96d4008069571682ef4be52aa21dc", func := "loop.example/fewpoints/laws.FnExactTightOk", spec := "fnExactTightOk", apart := false, narrowed := true }
def FnExactTightOkUptoSaid : Prop := fnExactTightOkUptoRow.holds Try.pinned (OpenSpec.upto fnExactTightOkSpec)

/-- 'laws.FnExactTightBelow', WHERE WHAT IT READS IS OF BULK AT MOST 1048576: true; the input reads as it did. -/
def fnExactTightBelowUptoRow : OpenClaim := { program := "ytekbmmimmjpjoaa", sum := "0bf161eb2fdf0526caedab7902043cbf34f96d4008069571682ef4be52aa21dc", func := "loop.example/fewpoints/laws.FnExactTightBelow", spec := "fnExactTightBelow", apart := false, narrowed := true }
def FnExactTightBelowUptoSaid : Prop := fnExactTightBelowUptoRow.holds Try.pinned (OpenSpec.upto fnExactTightBelowSpec)

/-- 'laws.FnExactPartnersOf', WHERE WHAT IT READS IS OF BULK AT MOST 1048576: true; the input reads as it did. -/
def fnExactPartnersOfUptoRow : OpenClaim := { program := "ytekbmmimmjpjoaa", sum := "0bf161eb2fdf0526caedab7902043cbf34f96d4008069571682ef4be52aa21dc", func := "loop.example/fewpoints/laws.FnExactPartnersOf", spec := "fnExactPartnersOf", apart := false, narrowed := true }
def FnExactPartnersOfUptoSaid : Prop := fnExactPartnersOfUptoRow.holds Try.pinned (OpenSpec.upto fnExactPartnersOfSpec)

/-- 'laws.FnExactHighestOf', WHERE WHAT IT READS IS OF BULK AT MOST 1048576: true; the input reads as it did. -/
def fnExactHighestOfUptoRow : OpenClaim := { program := "ytekbmmimmjpjoaa", sum := "0bf161eb2fdf0526caedab7902043cbf34f96d4008069571682ef4be52aa21dc", func := "loop.example/fewpoints/laws.FnExactHighestOf", spec := "fnExactHighestOf", apart := false, narrowed := true }
def FnExactHighestOfUptoSaid : Prop := fnExactHighestOfUptoRow.holds Try.pinned (OpenSpec.upto fnExactHighestOfSpec)

/-- 'laws.FnExactLowestOf', WHERE WHAT IT READS IS OF BULK AT MOST 1048576: true; the input reads as it did. -/
def fnExactLowestOfUptoRow : OpenClaim := { program := "ytekbmmimmjpjoaa", sum := "0bf161eb2fdf0526caedab7902043cbf34f96d4008069571682ef4be52aa21dc", func := "loop.example/fewpoints/laws.FnExactLowestOf", spec := "fnExactLowestOf", apart := false, narrowed := true }
def FnExactLowestOfUptoSaid : Prop := fnExactLowestOfUptoRow.holds Try.pinned (OpenSpec.upto fnExactLowestOfSpec)

end Rows
end Go.Proofs.Ytekbmmimmjpjoaa
