/-
  No cell of these rows narrows 'for every input' (looked for: loops, veiled, ifaces, maps, wideKeys, modest, calm, conditions, laid).
  DERIVED. THE GIVEN ROWS OF THIS SEAT. 12 by the template 'for every input the law returns true; each argument reads behind the call as it read before'; 0 by the template 'total and deterministic' (their statements: YtclffncimaigfaaTotals.lean).
  GIVEN WITH THE SEED: the statements are not yours to turn. If you find one false, say at which input.
  Laid BY PROGRAM, IN A SANDBOX (cutbox-rows.mjs): the forced cells as the released guide's own fill.sh prints them over the translation 7c06c5e850e6b9ae… (all of the seat's roots in one cut). By AI agents, Wed Nov 11 2026. No macro, syntax, notation, axiom, sorry.
-/
import Derived.Test.YtclffncimaigfaaChecked
import GoSem.Claim
import GoSem.ClaimJoined
import GoSem.ClaimMapViews
import Derived.JoinedTies
import Derived.KernelRfl
namespace Go.Proofs.Ytclffncimaigfaa
/- THE CELL 'sum', in the pinned program and in every row, IS THE sha256 OF THE DUMP (.gsa) THAT YtclffncimaigfaaProg.lean LOADS. Nothing in Lean hashes anything: it is a label: what it is worth is what the hold of that sum in a sandbox is worth. -/
noncomputable def Try.pinned : Pinned := { name := "ytclffncimaigfaa", sum := "7c06c5e850e6b9aed673b4d61526f2b8ae7ac0ff0cdb21a8ecf1ea86b224ac3d", checked := Try.checked }
namespace Rows
def none {H : Type} : Left H := { results := [], args := [] }

/-- 'laws.FnExactSetOk': WHATEVER THE INPUT: true; the input reads as it did. -/
def fnExactSetOkSpec : ChangeSpec := { name := "fnExactSetOk", fn := fun _ => fun
  | [d1, d2] => { results := [.lit (.bool true)], args := [d1, d2] }
  | _ => none }
def fnExactSetOkRow : OpenClaim := { program := "ytclffncimaigfaa", sum := "7c06c5e850e6b9aed673b4d61526f2b8ae7ac0ff0cdb21a8ecf1ea86b224ac3d", func := "loop.example/fewpoints/laws.FnExactSetOk", spec := "fnExactSetOk", apart := false }
def FnExactSetOkSaid : Prop := fnExactSetOkRow.holds Try.pinned (OpenSpec.ofChange fnExactSetOkSpec)

/-- ITS FALSE NEIGHBOUR: 'it returns false'. Refute it at one input. -/
def fnExactSetOkWrong : ChangeSpec := { name := "fnExactSetOk", fn := fun _ => fun
  | [d1, d2] => { results := [.lit (.bool false)], args := [d1, d2] }
  | _ => none }
def FnExactSetOkWrongFalsely : Prop := fnExactSetOkRow.holds Try.pinned (OpenSpec.ofChange fnExactSetOkWrong)

/-- 'laws.FnExactToSet': WHATEVER THE INPUT: true; the input reads as it did. -/
def fnExactToSetSpec : ChangeSpec := { name := "fnExactToSet", fn := fun _ => fun
  | [d1, d2, d3] => { results := [.lit (.bool true)], args := [d1, d2, d3] }
  | _ => none }
def fnExactToSetRow : OpenClaim := { program := "ytclffncimaigfaa", sum := "7c06c5e850e6b9aed673b4d61526f2b8ae7ac0ff0cdb21a8ecf1ea86b224ac3d", func := "loop.example/fewpoints/laws.FnExactToSet", spec := "fnExactToSet", apart := false }
def FnExactToSetSaid : Prop := fnExactToSetRow.holds Try.pinned (OpenSpec.ofChange fnExactToSetSpec)

/-- ITS FALSE NEIGHBOUR: 'it returns false'. Refute it at one input. -/
def fnExactToSetWrong : ChangeSpec := { name := "fnExactToSet", fn := fun _ => fun
  | [d1, d2, d3] => { results := [.lit (.bool false)], args := [d1, d2, d3] }
  | _ => none }
def FnExactToSetWrongFalsely : Prop := fnExactToSetRow.holds Try.pinned (OpenSpec.ofChange fnExactToSetWrong)

/-- 'laws.FnSetOk': WHATEVER THE INPUT: true; the input reads as it did. -/
def fnSetOkSpec : ChangeSpec := { name := "fnSetOk", fn := fun _ => fun
  | [d] => { results := [.lit (.bool true)], args := [d] }
  | _ => none }
def fnSetOkRow : OpenClaim := { program := "ytclffncimaigfaa", sum := "7c06c5e850e6b9aed673b4d61526f2b8ae7ac0ff0cdb21a8ecf1ea86b224ac3d", func := "loop.example/fewpoints/laws.FnSetOk", spec := "fnSetOk", apart := false }
def FnSetOkSaid : Prop := fnSetOkRow.holds Try.pinned (OpenSpec.ofChange fnSetOkSpec)

/-- ITS FALSE NEIGHBOUR: 'it returns false'. Refute it at one input. -/
def fnSetOkWrong : ChangeSpec := { name := "fnSetOk", fn := fun _ => fun
  | [d] => { results := [.lit (.bool false)], args := [d] }
  | _ => none }
def FnSetOkWrongFalsely : Prop := fnSetOkRow.holds Try.pinned (OpenSpec.ofChange fnSetOkWrong)

/-- 'laws.FnToSet': WHATEVER THE INPUT: true; the input reads as it did. -/
def fnToSetSpec : ChangeSpec := { name := "fnToSet", fn := fun _ => fun
  | [d] => { results := [.lit (.bool true)], args := [d] }
  | _ => none }
def fnToSetRow : OpenClaim := { program := "ytclffncimaigfaa", sum := "7c06c5e850e6b9aed673b4d61526f2b8ae7ac0ff0cdb21a8ecf1ea86b224ac3d", func := "loop.example/fewpoints/laws.FnToSet", spec := "fnToSet", apart := false }
def FnToSetSaid : Prop := fnToSetRow.holds Try.pinned (OpenSpec.ofChange fnToSetSpec)

/-- ITS FALSE NEIGHBOUR: 'it returns false'. Refute it at one input. -/
def fnToSetWrong : ChangeSpec := { name := "fnToSet", fn := fun _ => fun
  | [d] => { results := [.lit (.bool false)], args := [d] }
  | _ => none }
def FnToSetWrongFalsely : Prop := fnToSetRow.holds Try.pinned (OpenSpec.ofChange fnToSetWrong)

/-- 'laws.FnExactSetsApart': WHATEVER THE INPUT: true; the input reads as it did. -/
def fnExactSetsApartSpec : ChangeSpec := { name := "fnExactSetsApart", fn := fun _ => fun
  | [d1, d2, d3] => { results := [.lit (.bool true)], args := [d1, d2, d3] }
  | _ => none }
def fnExactSetsApartRow : OpenClaim := { program := "ytclffncimaigfaa", sum := "7c06c5e850e6b9aed673b4d61526f2b8ae7ac0ff0cdb21a8ecf1ea86b224ac3d", func := "loop.example/fewpoints/laws.FnExactSetsApart", spec := "fnExactSetsApart", apart := false }
def FnExactSetsApartSaid : Prop := fnExactSetsApartRow.holds Try.pinned (OpenSpec.ofChange fnExactSetsApartSpec)

/-- ITS FALSE NEIGHBOUR: 'it returns false'. Refute it at one input. -/
def fnExactSetsApartWrong : ChangeSpec := { name := "fnExactSetsApart", fn := fun _ => fun
  | [d1, d2, d3] => { results := [.lit (.bool false)], args := [d1, d2, d3] }
  | _ => none }
def FnExactSetsApartWrongFalsely : Prop := fnExactSetsApartRow.holds Try.pinned (OpenSpec.ofChange fnExactSetsApartWrong)

/-- 'laws.FnSetsApart': WHATEVER THE INPUT: true; the input reads as it did. -/
def fnSetsApartSpec : ChangeSpec := { name := "fnSetsApart", fn := fun _ => fun
  | [d] => { results := [.lit (.bool true)], args := [d] }
  | _ => none }
def fnSetsApartRow : OpenClaim := { program := "ytclffncimaigfaa", sum := "7c06c5e850e6b9aed673b4d61526f2b8ae7ac0ff0cdb21a8ecf1ea86b224ac3d", func := "loop.example/fewpoints/laws.FnSetsApart", spec := "fnSetsApart", apart := false }
def FnSetsApartSaid : Prop := fnSetsApartRow.holds Try.pinned (OpenSpec.ofChange fnSetsApartSpec)

/-- ITS FALSE NEIGHBOUR: 'it returns false'. Refute it at one input. -/
def fnSetsApartWrong : ChangeSpec := { name := "fnSetsApart", fn := fun _ => fun
  | [d] => { results := [.lit (.bool false)], args := [d] }
  | _ => none }
def FnSetsApartWrongFalsely : Prop := fnSetsApartRow.holds Try.pinned (OpenSpec.ofChange fnSetsApartWrong)

/-- 'laws.FnExactAroundSet': WHATEVER THE INPUT: true; the input reads as it did. -/
def fnExactAroundSetSpec : ChangeSpec := { name := "fnExactAroundSet", fn := fun _ => fun
  | [d1, d2, d3] => { results := [.lit (.bool true)], args := [d1, d2, d3] }
  | _ => none }
def fnExactAroundSetRow : OpenClaim := { program := "ytclffncimaigfaa", sum := "7c06c5e850e6b9aed673b4d61526f2b8ae7ac0ff0cdb21a8ecf1ea86b224ac3d", func := "loop.example/fewpoints/laws.FnExactAroundSet", spec := "fnExactAroundSet", apart := false }
def FnExactAroundSetSaid : Prop := fnExactAroundSetRow.holds Try.pinned (OpenSpec.ofChange fnExactAroundSetSpec)

/-- ITS FALSE NEIGHBOUR: 'it returns false'. Refute it at one input. -/
def fnExactAroundSetWrong : ChangeSpec := { name := "fnExactAroundSet", fn := fun _ => fun
  | [d1, d2, d3] => { results := [.lit (.bool false)], args := [d1, d2, d3] }
  | _ => none }
def FnExactAroundSetWrongFalsely : Prop := fnExactAroundSetRow.holds Try.pinned (OpenSpec.ofChange fnExactAroundSetWrong)

/-- 'laws.FnExactUnlikeBy': WHATEVER THE INPUT: true; the input reads as it did. -/
def fnExactUnlikeBySpec : ChangeSpec := { name := "fnExactUnlikeBy", fn := fun _ => fun
  | [d1, d2, d3] => { results := [.lit (.bool true)], args := [d1, d2, d3] }
  | _ => none }
def fnExactUnlikeByRow : OpenClaim := { program := "ytclffncimaigfaa", sum := "7c06c5e850e6b9aed673b4d61526f2b8ae7ac0ff0cdb21a8ecf1ea86b224ac3d", func := "loop.example/fewpoints/laws.FnExactUnlikeBy", spec := "fnExactUnlikeBy", apart := false }
def FnExactUnlikeBySaid : Prop := fnExactUnlikeByRow.holds Try.pinned (OpenSpec.ofChange fnExactUnlikeBySpec)

/-- ITS FALSE NEIGHBOUR: 'it returns false'. Refute it at one input. -/
def fnExactUnlikeByWrong : ChangeSpec := { name := "fnExactUnlikeBy", fn := fun _ => fun
  | [d1, d2, d3] => { results := [.lit (.bool false)], args := [d1, d2, d3] }
  | _ => none }
def FnExactUnlikeByWrongFalsely : Prop := fnExactUnlikeByRow.holds Try.pinned (OpenSpec.ofChange fnExactUnlikeByWrong)

/-- 'laws.FnExactUnlikeSpaces': WHATEVER THE INPUT: true; the input reads as it did. -/
def fnExactUnlikeSpacesSpec : ChangeSpec := { name := "fnExactUnlikeSpaces", fn := fun _ => fun
  | [d1, d2] => { results := [.lit (.bool true)], args := [d1, d2] }
  | _ => none }
def fnExactUnlikeSpacesRow : OpenClaim := { program := "ytclffncimaigfaa", sum := "7c06c5e850e6b9aed673b4d61526f2b8ae7ac0ff0cdb21a8ecf1ea86b224ac3d", func := "loop.example/fewpoints/laws.FnExactUnlikeSpaces", spec := "fnExactUnlikeSpaces", apart := false }
def FnExactUnlikeSpacesSaid : Prop := fnExactUnlikeSpacesRow.holds Try.pinned (OpenSpec.ofChange fnExactUnlikeSpacesSpec)

/-- ITS FALSE NEIGHBOUR: 'it returns false'. Refute it at one input. -/
def fnExactUnlikeSpacesWrong : ChangeSpec := { name := "fnExactUnlikeSpaces", fn := fun _ => fun
  | [d1, d2] => { results := [.lit (.bool false)], args := [d1, d2] }
  | _ => none }
def FnExactUnlikeSpacesWrongFalsely : Prop := fnExactUnlikeSpacesRow.holds Try.pinned (OpenSpec.ofChange fnExactUnlikeSpacesWrong)

/-- 'laws.FnTogetherFrom': WHATEVER THE INPUT: true; the input reads as it did. -/
def fnTogetherFromSpec : ChangeSpec := { name := "fnTogetherFrom", fn := fun _ => fun
  | [d] => { results := [.lit (.bool true)], args := [d] }
  | _ => none }
def fnTogetherFromRow : OpenClaim := { program := "ytclffncimaigfaa", sum := "7c06c5e850e6b9aed673b4d61526f2b8ae7ac0ff0cdb21a8ecf1ea86b224ac3d", func := "loop.example/fewpoints/laws.FnTogetherFrom", spec := "fnTogetherFrom", unfollowed := true, recurses := true, apart := false }
def FnTogetherFromSaid : Prop := fnTogetherFromRow.holds Try.pinned (OpenSpec.ofChange fnTogetherFromSpec)

/-- ITS FALSE NEIGHBOUR: 'it returns false'. Refute it at one input. -/
def fnTogetherFromWrong : ChangeSpec := { name := "fnTogetherFrom", fn := fun _ => fun
  | [d] => { results := [.lit (.bool false)], args := [d] }
  | _ => none }
def FnTogetherFromWrongFalsely : Prop := fnTogetherFromRow.holds Try.pinned (OpenSpec.ofChange fnTogetherFromWrong)

/-- 'laws.FnWorstGap': WHATEVER THE INPUT: true; the input reads as it did. -/
def fnWorstGapSpec : ChangeSpec := { name := "fnWorstGap", fn := fun _ => fun
  | [d] => { results := [.lit (.bool true)], args := [d] }
  | _ => none }
def fnWorstGapRow : OpenClaim := { program := "ytclffncimaigfaa", sum := "7c06c5e850e6b9aed673b4d61526f2b8ae7ac0ff0cdb21a8ecf1ea86b224ac3d", func := "loop.example/fewpoints/laws.FnWorstGap", spec := "fnWorstGap", recurses := true, apart := false }
def FnWorstGapSaid : Prop := fnWorstGapRow.holds Try.pinned (OpenSpec.ofChange fnWorstGapSpec)

/-- ITS FALSE NEIGHBOUR: 'it returns false'. Refute it at one input. -/
def fnWorstGapWrong : ChangeSpec := { name := "fnWorstGap", fn := fun _ => fun
  | [d] => { results := [.lit (.bool false)], args := [d] }
  | _ => none }
def FnWorstGapWrongFalsely : Prop := fnWorstGapRow.holds Try.pinned (OpenSpec.ofChange fnWorstGapWrong)

/-- 'laws.FnTreeOk': WHATEVER THE INPUT: true; the input reads as it did. -/
def fnTreeOkSpec : ChangeSpec := { name := "fnTreeOk", fn := fun _ => fun
  | [d] => { results := [.lit (.bool true)], args := [d] }
  | _ => none }
def fnTreeOkRow : OpenClaim := { program := "ytclffncimaigfaa", sum := "7c06c5e850e6b9aed673b4d61526f2b8ae7ac0ff0cdb21a8ecf1ea86b224ac3d", func := "loop.example/fewpoints/laws.FnTreeOk", spec := "fnTreeOk", recurses := true, apart := false }
def FnTreeOkSaid : Prop := fnTreeOkRow.holds Try.pinned (OpenSpec.ofChange fnTreeOkSpec)

/-- ITS FALSE NEIGHBOUR: 'it returns false'. Refute it at one input. -/
def fnTreeOkWrong : ChangeSpec := { name := "fnTreeOk", fn := fun _ => fun
  | [d] => { results := [.lit (.bool false)], args := [d] }
  | _ => none }
def FnTreeOkWrongFalsely : Prop := fnTreeOkRow.holds Try.pinned (OpenSpec.ofChange fnTreeOkWrong)

/- THE SECOND FORM. 'bulk': how many values and letters a reading holds, each counted each time it is reached (what is shared counts as often as it is met; a slice's spare places count too). A statement '..UptoSaid' is the law's where the arguments, and the package variables that the reading takes, are together of bulk at most 1048576: NARROWER than '..Said'. Prove '..Said' where nothing that the law and all that it calls make is longer than what came in: it says more and counts as full. Else prove '..UptoSaid'. A law counts once. -/
mutual
def uptoBulk {H : Type} : DataW H → Nat
  | .lit (.string bytes) => bytes.length + 1
  | .lit _ => 1
  | .nil => 1
  | .ptr d => uptoBulk d + 1
  | .slice elems spare => uptoBulkAll elems + uptoBulkAll spare + 1
  | .agg parts => uptoBulkAll parts + 1
  | .iface _ d => uptoBulk d + 1
  | .map entries => uptoBulkEntries entries + 1
  | .held _ => 1
def uptoBulkAll {H : Type} : List (DataW H) → Nat
  | [] => 0
  | d :: r => uptoBulk d + uptoBulkAll r
def uptoBulkEntries {H : Type} : List (Lit × DataW H) → Nat
  | [] => 0
  | x :: r => uptoBulkEntry x + uptoBulkEntries r
def uptoBulkEntry {H : Type} : Lit × DataW H → Nat
  | (.string bytes, d) => bytes.length + uptoBulk d + 1
  | (_, d) => uptoBulk d + 1
 end
def uptoSmall : (H : Type) → List (DataW H) → Bool := fun _ ds => decide (uptoBulkAll ds ≤ 1048576)
def OpenSpec.upto (s : _root_.Go.ChangeSpec) : _root_.Go.OpenSpec := { _root_.Go.OpenSpec.ofChange s with cond := some uptoSmall }

/-- 'laws.FnExactSetOk', WHERE WHAT IT READS IS OF BULK AT MOST 1048576: true; the input reads as it did. -/
def fnExactSetOkUptoRow : OpenClaim := { program := "ytclffncimaigfaa", sum := "7c06c5e850e6b9aed673b4d61526f2b8ae7ac0ff0cdb21a8ecf1ea86b224ac3d", func := "loop.example/fewpoints/laws.FnExactSetOk", spec := "fnExactSetOk", apart := false, narrowed := true }
def FnExactSetOkUptoSaid : Prop := fnExactSetOkUptoRow.holds Try.pinned (OpenSpec.upto fnExactSetOkSpec)

/-- 'laws.FnExactToSet', WHERE WHAT IT READS IS OF BULK AT MOST 1048576: true; the input reads as it did. -/
def fnExactToSetUptoRow : OpenClaim := { program := "ytclffncimaigfaa", sum := "7c06c5e850e6b9aed673b4d61526f2b8ae7ac0ff0cdb21a8ecf1ea86b224ac3d", func := "loop.example/fewpoints/laws.FnExactToSet", spec := "fnExactToSet", apart := false, narrowed := true }
def FnExactToSetUptoSaid : Prop := fnExactToSetUptoRow.holds Try.pinned (OpenSpec.upto fnExactToSetSpec)

/-- 'laws.FnSetOk', WHERE WHAT IT READS IS OF BULK AT MOST 1048576: true; the input reads as it did. -/
def fnSetOkUptoRow : OpenClaim := { program := "ytclffncimaigfaa", sum := "7c06c5e850e6b9aed673b4d61526f2b8ae7ac0ff0cdb21a8ecf1ea86b224ac3d", func := "loop.example/fewpoints/laws.FnSetOk", spec := "fnSetOk", apart := false, narrowed := true }
def FnSetOkUptoSaid : Prop := fnSetOkUptoRow.holds Try.pinned (OpenSpec.upto fnSetOkSpec)

/-- 'laws.FnToSet', WHERE WHAT IT READS IS OF BULK AT MOST 1048576: true; the input reads as it did. -/
def fnToSetUptoRow : OpenClaim := { program := "ytclffncimaigfaa", sum := "7c06c5e850e6b9aed673b4d61526f2b8ae7ac0ff0cdb21a8ecf1ea86b224ac3d", func := "loop.example/fewpoints/laws.FnToSet", spec := "fnToSet", apart := false, narrowed := true }
def FnToSetUptoSaid : Prop := fnToSetUptoRow.holds Try.pinned (OpenSpec.upto fnToSetSpec)

/-- 'laws.FnExactSetsApart', WHERE WHAT IT READS IS OF BULK AT MOST 1048576: true; the input reads as it did. -/
def fnExactSetsApartUptoRow : OpenClaim := { program := "ytclffncimaigfaa", sum := "7c06c5e850e6b9aed673b4d61526f2b8ae7ac0ff0cdb21a8ecf1ea86b224ac3d", func := "loop.example/fewpoints/laws.FnExactSetsApart", spec := "fnExactSetsApart", apart := false, narrowed := true }
def FnExactSetsApartUptoSaid : Prop := fnExactSetsApartUptoRow.holds Try.pinned (OpenSpec.upto fnExactSetsApartSpec)

/-- 'laws.FnSetsApart', WHERE WHAT IT READS IS OF BULK AT MOST 1048576: true; the input reads as it did. -/
def fnSetsApartUptoRow : OpenClaim := { program := "ytclffncimaigfaa", sum := "7c06c5e850e6b9aed673b4d61526f2b8ae7ac0ff0cdb21a8ecf1ea86b224ac3d", func := "loop.example/fewpoints/laws.FnSetsApart", spec := "fnSetsApart", apart := false, narrowed := true }
def FnSetsApartUptoSaid : Prop := fnSetsApartUptoRow.holds Try.pinned (OpenSpec.upto fnSetsApartSpec)

/-- 'laws.FnExactAroundSet', WHERE WHAT IT READS IS OF BULK AT MOST 1048576: true; the input reads as it did. -/
def fnExactAroundSetUptoRow : OpenClaim := { program := "ytclffncimaigfaa", sum := "7c06c5e850e6b9aed673b4d61526f2b8ae7ac0ff0cdb21a8ecf1ea86b224ac3d", func := "loop.example/fewpoints/laws.FnExactAroundSet", spec := "fnExactAroundSet", apart := false, narrowed := true }
def FnExactAroundSetUptoSaid : Prop := fnExactAroundSetUptoRow.holds Try.pinned (OpenSpec.upto fnExactAroundSetSpec)

/-- 'laws.FnExactUnlikeBy', WHERE WHAT IT READS IS OF BULK AT MOST 1048576: true; the input reads as it did. -/
def fnExactUnlikeByUptoRow : OpenClaim := { program := "ytclffncimaigfaa", sum := "7c06c5e850e6b9aed673b4d61526f2b8ae7ac0ff0cdb21a8ecf1ea86b224ac3d", func := "loop.example/fewpoints/laws.FnExactUnlikeBy", spec := "fnExactUnlikeBy", apart := false, narrowed := true }
def FnExactUnlikeByUptoSaid : Prop := fnExactUnlikeByUptoRow.holds Try.pinned (OpenSpec.upto fnExactUnlikeBySpec)

/-- 'laws.FnExactUnlikeSpaces', WHERE WHAT IT READS IS OF BULK AT MOST 1048576: true; the input reads as it did. -/
def fnExactUnlikeSpacesUptoRow : OpenClaim := { program := "ytclffncimaigfaa", sum := "7c06c5e850e6b9aed673b4d61526f2b8ae7ac0ff0cdb21a8ecf1ea86b224ac3d", func := "loop.example/fewpoints/laws.FnExactUnlikeSpaces", spec := "fnExactUnlikeSpaces", apart := false, narrowed := true }
def FnExactUnlikeSpacesUptoSaid : Prop := fnExactUnlikeSpacesUptoRow.holds Try.pinned (OpenSpec.upto fnExactUnlikeSpacesSpec)

/-- 'laws.FnTogetherFrom', WHERE WHAT IT READS IS OF BULK AT MOST 1048576: true; the input reads as it did. -/
def fnTogetherFromUptoRow : OpenClaim := { program := "ytclffncimaigfaa", sum := "7c06c5e850e6b9aed673b4d61526f2b8ae7ac0ff0cdb21a8ecf1ea86b224ac3d", func := "loop.example/fewpoints/laws.FnTogetherFrom", spec := "fnTogetherFrom", unfollowed := true, recurses := true, apart := false, narrowed := true }
def FnTogetherFromUptoSaid : Prop := fnTogetherFromUptoRow.holds Try.pinned (OpenSpec.upto fnTogetherFromSpec)

/-- 'laws.FnWorstGap', WHERE WHAT IT READS IS OF BULK AT MOST 1048576: true; the input reads as it did. -/
def fnWorstGapUptoRow : OpenClaim := { program := "ytclffncimaigfaa", sum := "7c06c5e850e6b9aed673b4d61526f2b8ae7ac0ff0cdb21a8ecf1ea86b224ac3d", func := "loop.example/fewpoints/laws.FnWorstGap", spec := "fnWorstGap", recurses := true, apart := false, narrowed := true }
def FnWorstGapUptoSaid : Prop := fnWorstGapUptoRow.holds Try.pinned (OpenSpec.upto fnWorstGapSpec)

/-- 'laws.FnTreeOk', WHERE WHAT IT READS IS OF BULK AT MOST 1048576: true; the input reads as it did. -/
def fnTreeOkUptoRow : OpenClaim := { program := "ytclffncimaigfaa", sum := "7c06c5e850e6b9aed673b4d61526f2b8ae7ac0ff0cdb21a8ecf1ea86b224ac3d", func := "loop.example/fewpoints/laws.FnTreeOk", spec := "fnTreeOk", recurses := true, apart := false, narrowed := true }
def FnTreeOkUptoSaid : Prop := fnTreeOkUptoRow.holds Try.pinned (OpenSpec.upto fnTreeOkSpec)

end Rows
end Go.Proofs.Ytclffncimaigfaa
