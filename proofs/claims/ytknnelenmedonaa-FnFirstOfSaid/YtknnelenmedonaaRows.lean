/-
  No cell of these rows narrows 'for every input' (looked for: loops, veiled, ifaces, maps, wideKeys, modest, calm, conditions, laid).
  DERIVED. THE GIVEN ROWS OF THIS SEAT. 12 by the template 'for every input the law returns true; each argument reads behind the call as it read before'; 0 by the template 'total and deterministic' (their statements: YtknnelenmedonaaTotals.lean).
  GIVEN WITH THE SEED: the statements are not yours to turn. If you find one false, say at which input.
  Laid BY PROGRAM, IN A SANDBOX (cutbox-rows.mjs): the forced cells as the released guide's own fill.sh prints them over the translation 51685af96addb123… (all of the seat's roots in one cut). By AI agents, Wed Nov 11 2026. No macro, syntax, notation, axiom, sorry.
-/
import Derived.Test.YtknnelenmedonaaChecked
import GoSem.Claim
import GoSem.ClaimJoined
import GoSem.ClaimMapViews
import Derived.JoinedTies
import Derived.KernelRfl
namespace Go.Proofs.Ytknnelenmedonaa
/- THE CELL 'sum', in the pinned program and in every row, IS THE sha256 OF THE DUMP (.gsa) THAT YtknnelenmedonaaProg.lean LOADS. Nothing in Lean hashes anything: it is a label: what it is worth is what the hold of that sum in a sandbox is worth. -/
noncomputable def Try.pinned : Pinned := { name := "ytknnelenmedonaa", sum := "51685af96addb123ba144e7789637bdd7902d3caf1a989dfef08499061cf91db", checked := Try.checked }
namespace Rows
def none {H : Type} : Left H := { results := [], args := [] }

/-- 'laws.FnExactOrderOk': WHATEVER THE INPUT: true; the input reads as it did. -/
def fnExactOrderOkSpec : ChangeSpec := { name := "fnExactOrderOk", fn := fun _ => fun
  | [d] => { results := [.lit (.bool true)], args := [d] }
  | _ => none }
def fnExactOrderOkRow : OpenClaim := { program := "ytknnelenmedonaa", sum := "51685af96addb123ba144e7789637bdd7902d3caf1a989dfef08499061cf91db", func := "loop.example/fewpoints/laws.FnExactOrderOk", spec := "fnExactOrderOk", apart := false }
def FnExactOrderOkSaid : Prop := fnExactOrderOkRow.holds Try.pinned (OpenSpec.ofChange fnExactOrderOkSpec)

/-- ITS FALSE NEIGHBOUR: 'it returns false'. Refute it at one input. -/
def fnExactOrderOkWrong : ChangeSpec := { name := "fnExactOrderOk", fn := fun _ => fun
  | [d] => { results := [.lit (.bool false)], args := [d] }
  | _ => none }
def FnExactOrderOkWrongFalsely : Prop := fnExactOrderOkRow.holds Try.pinned (OpenSpec.ofChange fnExactOrderOkWrong)

/-- 'laws.FnOrderOk': WHATEVER THE INPUT: true; the input reads as it did. -/
def fnOrderOkSpec : ChangeSpec := { name := "fnOrderOk", fn := fun _ => fun
  | [d] => { results := [.lit (.bool true)], args := [d] }
  | _ => none }
def fnOrderOkRow : OpenClaim := { program := "ytknnelenmedonaa", sum := "51685af96addb123ba144e7789637bdd7902d3caf1a989dfef08499061cf91db", func := "loop.example/fewpoints/laws.FnOrderOk", spec := "fnOrderOk", apart := false }
def FnOrderOkSaid : Prop := fnOrderOkRow.holds Try.pinned (OpenSpec.ofChange fnOrderOkSpec)

/-- ITS FALSE NEIGHBOUR: 'it returns false'. Refute it at one input. -/
def fnOrderOkWrong : ChangeSpec := { name := "fnOrderOk", fn := fun _ => fun
  | [d] => { results := [.lit (.bool false)], args := [d] }
  | _ => none }
def FnOrderOkWrongFalsely : Prop := fnOrderOkRow.holds Try.pinned (OpenSpec.ofChange fnOrderOkWrong)

/-- 'laws.FnExactOrdered': WHATEVER THE INPUT: true; the input reads as it did. -/
def fnExactOrderedSpec : ChangeSpec := { name := "fnExactOrdered", fn := fun _ => fun
  | [d1, d2] => { results := [.lit (.bool true)], args := [d1, d2] }
  | _ => none }
def fnExactOrderedRow : OpenClaim := { program := "ytknnelenmedonaa", sum := "51685af96addb123ba144e7789637bdd7902d3caf1a989dfef08499061cf91db", func := "loop.example/fewpoints/laws.FnExactOrdered", spec := "fnExactOrdered", apart := false }
def FnExactOrderedSaid : Prop := fnExactOrderedRow.holds Try.pinned (OpenSpec.ofChange fnExactOrderedSpec)

/-- ITS FALSE NEIGHBOUR: 'it returns false'. Refute it at one input. -/
def fnExactOrderedWrong : ChangeSpec := { name := "fnExactOrdered", fn := fun _ => fun
  | [d1, d2] => { results := [.lit (.bool false)], args := [d1, d2] }
  | _ => none }
def FnExactOrderedWrongFalsely : Prop := fnExactOrderedRow.holds Try.pinned (OpenSpec.ofChange fnExactOrderedWrong)

/-- 'laws.FnOrdered': WHATEVER THE INPUT: true; the input reads as it did. -/
def fnOrderedSpec : ChangeSpec := { name := "fnOrdered", fn := fun _ => fun
  | [d] => { results := [.lit (.bool true)], args := [d] }
  | _ => none }
def fnOrderedRow : OpenClaim := { program := "ytknnelenmedonaa", sum := "51685af96addb123ba144e7789637bdd7902d3caf1a989dfef08499061cf91db", func := "loop.example/fewpoints/laws.FnOrdered", spec := "fnOrdered", apart := false }
def FnOrderedSaid : Prop := fnOrderedRow.holds Try.pinned (OpenSpec.ofChange fnOrderedSpec)

/-- ITS FALSE NEIGHBOUR: 'it returns false'. Refute it at one input. -/
def fnOrderedWrong : ChangeSpec := { name := "fnOrdered", fn := fun _ => fun
  | [d] => { results := [.lit (.bool false)], args := [d] }
  | _ => none }
def FnOrderedWrongFalsely : Prop := fnOrderedRow.holds Try.pinned (OpenSpec.ofChange fnOrderedWrong)

/-- 'laws.FnExactKeepingOf': WHATEVER THE INPUT: true; the input reads as it did. -/
def fnExactKeepingOfSpec : ChangeSpec := { name := "fnExactKeepingOf", fn := fun _ => fun
  | [d] => { results := [.lit (.bool true)], args := [d] }
  | _ => none }
def fnExactKeepingOfRow : OpenClaim := { program := "ytknnelenmedonaa", sum := "51685af96addb123ba144e7789637bdd7902d3caf1a989dfef08499061cf91db", func := "loop.example/fewpoints/laws.FnExactKeepingOf", spec := "fnExactKeepingOf", unfollowed := true, recurses := true, apart := false }
def FnExactKeepingOfSaid : Prop := fnExactKeepingOfRow.holds Try.pinned (OpenSpec.ofChange fnExactKeepingOfSpec)

/-- ITS FALSE NEIGHBOUR: 'it returns false'. Refute it at one input. -/
def fnExactKeepingOfWrong : ChangeSpec := { name := "fnExactKeepingOf", fn := fun _ => fun
  | [d] => { results := [.lit (.bool false)], args := [d] }
  | _ => none }
def FnExactKeepingOfWrongFalsely : Prop := fnExactKeepingOfRow.holds Try.pinned (OpenSpec.ofChange fnExactKeepingOfWrong)

/-- 'laws.FnKeepingOf': WHATEVER THE INPUT: true; the input reads as it did. -/
def fnKeepingOfSpec : ChangeSpec := { name := "fnKeepingOf", fn := fun _ => fun
  | [d] => { results := [.lit (.bool true)], args := [d] }
  | _ => none }
def fnKeepingOfRow : OpenClaim := { program := "ytknnelenmedonaa", sum := "51685af96addb123ba144e7789637bdd7902d3caf1a989dfef08499061cf91db", func := "loop.example/fewpoints/laws.FnKeepingOf", spec := "fnKeepingOf", unfollowed := true, recurses := true, apart := false }
def FnKeepingOfSaid : Prop := fnKeepingOfRow.holds Try.pinned (OpenSpec.ofChange fnKeepingOfSpec)

/-- ITS FALSE NEIGHBOUR: 'it returns false'. Refute it at one input. -/
def fnKeepingOfWrong : ChangeSpec := { name := "fnKeepingOf", fn := fun _ => fun
  | [d] => { results := [.lit (.bool false)], args := [d] }
  | _ => none }
def FnKeepingOfWrongFalsely : Prop := fnKeepingOfRow.holds Try.pinned (OpenSpec.ofChange fnKeepingOfWrong)

/-- 'laws.FnExactSameSpace': WHATEVER THE INPUT: true; the input reads as it did. -/
def fnExactSameSpaceSpec : ChangeSpec := { name := "fnExactSameSpace", fn := fun _ => fun
  | [d1, d2] => { results := [.lit (.bool true)], args := [d1, d2] }
  | _ => none }
def fnExactSameSpaceRow : OpenClaim := { program := "ytknnelenmedonaa", sum := "51685af96addb123ba144e7789637bdd7902d3caf1a989dfef08499061cf91db", func := "loop.example/fewpoints/laws.FnExactSameSpace", spec := "fnExactSameSpace", unfollowed := true, recurses := true, apart := false }
def FnExactSameSpaceSaid : Prop := fnExactSameSpaceRow.holds Try.pinned (OpenSpec.ofChange fnExactSameSpaceSpec)

/-- ITS FALSE NEIGHBOUR: 'it returns false'. Refute it at one input. -/
def fnExactSameSpaceWrong : ChangeSpec := { name := "fnExactSameSpace", fn := fun _ => fun
  | [d1, d2] => { results := [.lit (.bool false)], args := [d1, d2] }
  | _ => none }
def FnExactSameSpaceWrongFalsely : Prop := fnExactSameSpaceRow.holds Try.pinned (OpenSpec.ofChange fnExactSameSpaceWrong)

/-- 'laws.FnSameSpace': WHATEVER THE INPUT: true; the input reads as it did. -/
def fnSameSpaceSpec : ChangeSpec := { name := "fnSameSpace", fn := fun _ => fun
  | [d] => { results := [.lit (.bool true)], args := [d] }
  | _ => none }
def fnSameSpaceRow : OpenClaim := { program := "ytknnelenmedonaa", sum := "51685af96addb123ba144e7789637bdd7902d3caf1a989dfef08499061cf91db", func := "loop.example/fewpoints/laws.FnSameSpace", spec := "fnSameSpace", unfollowed := true, recurses := true, apart := false }
def FnSameSpaceSaid : Prop := fnSameSpaceRow.holds Try.pinned (OpenSpec.ofChange fnSameSpaceSpec)

/-- ITS FALSE NEIGHBOUR: 'it returns false'. Refute it at one input. -/
def fnSameSpaceWrong : ChangeSpec := { name := "fnSameSpace", fn := fun _ => fun
  | [d] => { results := [.lit (.bool false)], args := [d] }
  | _ => none }
def FnSameSpaceWrongFalsely : Prop := fnSameSpaceRow.holds Try.pinned (OpenSpec.ofChange fnSameSpaceWrong)

/-- 'laws.FnExactFirstOf': WHATEVER THE INPUT: true; the input reads as it did. -/
def fnExactFirstOfSpec : ChangeSpec := { name := "fnExactFirstOf", fn := fun _ => fun
  | [d] => { results := [.lit (.bool true)], args := [d] }
  | _ => none }
def fnExactFirstOfRow : OpenClaim := { program := "ytknnelenmedonaa", sum := "51685af96addb123ba144e7789637bdd7902d3caf1a989dfef08499061cf91db", func := "loop.example/fewpoints/laws.FnExactFirstOf", spec := "fnExactFirstOf", unfollowed := true, recurses := true, apart := false }
def FnExactFirstOfSaid : Prop := fnExactFirstOfRow.holds Try.pinned (OpenSpec.ofChange fnExactFirstOfSpec)

/-- ITS FALSE NEIGHBOUR: 'it returns false'. Refute it at one input. -/
def fnExactFirstOfWrong : ChangeSpec := { name := "fnExactFirstOf", fn := fun _ => fun
  | [d] => { results := [.lit (.bool false)], args := [d] }
  | _ => none }
def FnExactFirstOfWrongFalsely : Prop := fnExactFirstOfRow.holds Try.pinned (OpenSpec.ofChange fnExactFirstOfWrong)

/-- 'laws.FnFirstOf': WHATEVER THE INPUT: true; the input reads as it did. -/
def fnFirstOfSpec : ChangeSpec := { name := "fnFirstOf", fn := fun _ => fun
  | [d1, d2] => { results := [.lit (.bool true)], args := [d1, d2] }
  | _ => none }
def fnFirstOfRow : OpenClaim := { program := "ytknnelenmedonaa", sum := "51685af96addb123ba144e7789637bdd7902d3caf1a989dfef08499061cf91db", func := "loop.example/fewpoints/laws.FnFirstOf", spec := "fnFirstOf", unfollowed := true, recurses := true, apart := false }
def FnFirstOfSaid : Prop := fnFirstOfRow.holds Try.pinned (OpenSpec.ofChange fnFirstOfSpec)

/-- ITS FALSE NEIGHBOUR: 'it returns false'. Refute it at one input. -/
def fnFirstOfWrong : ChangeSpec := { name := "fnFirstOf", fn := fun _ => fun
  | [d1, d2] => { results := [.lit (.bool false)], args := [d1, d2] }
  | _ => none }
def FnFirstOfWrongFalsely : Prop := fnFirstOfRow.holds Try.pinned (OpenSpec.ofChange fnFirstOfWrong)

/-- 'laws.FnExactPlacesOf': WHATEVER THE INPUT: true; the input reads as it did. -/
def fnExactPlacesOfSpec : ChangeSpec := { name := "fnExactPlacesOf", fn := fun _ => fun
  | [d] => { results := [.lit (.bool true)], args := [d] }
  | _ => none }
def fnExactPlacesOfRow : OpenClaim := { program := "ytknnelenmedonaa", sum := "51685af96addb123ba144e7789637bdd7902d3caf1a989dfef08499061cf91db", func := "loop.example/fewpoints/laws.FnExactPlacesOf", spec := "fnExactPlacesOf", unfollowed := true, recurses := true, apart := false }
def FnExactPlacesOfSaid : Prop := fnExactPlacesOfRow.holds Try.pinned (OpenSpec.ofChange fnExactPlacesOfSpec)

/-- ITS FALSE NEIGHBOUR: 'it returns false'. Refute it at one input. -/
def fnExactPlacesOfWrong : ChangeSpec := { name := "fnExactPlacesOf", fn := fun _ => fun
  | [d] => { results := [.lit (.bool false)], args := [d] }
  | _ => none }
def FnExactPlacesOfWrongFalsely : Prop := fnExactPlacesOfRow.holds Try.pinned (OpenSpec.ofChange fnExactPlacesOfWrong)

/-- 'laws.FnPlacesOf': WHATEVER THE INPUT: true; the input reads as it did. -/
def fnPlacesOfSpec : ChangeSpec := { name := "fnPlacesOf", fn := fun _ => fun
  | [d] => { results := [.lit (.bool true)], args := [d] }
  | _ => none }
def fnPlacesOfRow : OpenClaim := { program := "ytknnelenmedonaa", sum := "51685af96addb123ba144e7789637bdd7902d3caf1a989dfef08499061cf91db", func := "loop.example/fewpoints/laws.FnPlacesOf", spec := "fnPlacesOf", unfollowed := true, recurses := true, apart := false }
def FnPlacesOfSaid : Prop := fnPlacesOfRow.holds Try.pinned (OpenSpec.ofChange fnPlacesOfSpec)

/-- ITS FALSE NEIGHBOUR: 'it returns false'. Refute it at one input. -/
def fnPlacesOfWrong : ChangeSpec := { name := "fnPlacesOf", fn := fun _ => fun
  | [d] => { results := [.lit (.bool false)], args := [d] }
  | _ => none }
def FnPlacesOfWrongFalsely : Prop := fnPlacesOfRow.holds Try.pinned (OpenSpec.ofChange fnPlacesOfWrong)

/- THE SECOND FORM. 'bulk': how many values and letters a reading holds, each counted each time it is reached (what is shared counts as often as it is met; a slice's spare places count too). A statement '..UptoSaid' is the law's where the arguments, and the package variables that the reading takes, are together of bulk at most 1048576: NARROWER than '..Said'. Prove '..Said' where nothing that the law and all that it calls make is longer than what came in: it says more and counts as full. Else prove '..UptoSaid'. A law counts once. -/
mutual
def uptoBulk {H : Type} : DataW H → Nat
  | .lit (.string bytes) => bytes.length + 1
  | .lit _ => 1
  | .nil => 1
  | .ptr d => uptoBulk d + 1
  | .slice elems spare => uptoBulkAll elems + uptoBulkAll spare + 1
  | .agg parts => uptoBulkAll parts + 1
  | .iface _ d => uptoBulk d + 1
  | .map entries => uptoBulkEntries entries + 1
  | .held _ => 1
def uptoBulkAll {H : Type} : List (DataW H) → Nat
  | [] => 0
  | d :: r => uptoBulk d + uptoBulkAll r
def uptoBulkEntries {H : Type} : List (Lit × DataW H) → Nat
  | [] => 0
  | x :: r => uptoBulkEntry x + uptoBulkEntries r
def uptoBulkEntry {H : Type} : Lit × DataW H → Nat
  | (.string bytes, d) => bytes.length + uptoBulk d + 1
  | (_, d) => uptoBulk d + 1
 end
def uptoSmall : (H : Type) → List (DataW H) → Bool := fun _ ds => decide (uptoBulkAll ds ≤ 1048576)
def OpenSpec.upto (s : _root_.Go.ChangeSpec) : _root_.Go.OpenSpec := { _root_.Go.OpenSpec.ofChange s with cond := some uptoSmall }

/-- 'laws.FnExactOrderOk', WHERE WHAT IT READS IS OF BULK AT MOST 1048576: true; the input reads as it did. -/
def fnExactOrderOkUptoRow : OpenClaim := { program := "ytknnelenmedonaa", sum := "51685af96addb123ba144e7789637bdd7902d3caf1a989dfef08499061cf91db", func := "loop.example/fewpoints/laws.FnExactOrderOk", spec := "fnExactOrderOk", apart := false, narrowed := true }
def FnExactOrderOkUptoSaid : Prop := fnExactOrderOkUptoRow.holds Try.pinned (OpenSpec.upto fnExactOrderOkSpec)

/-- 'laws.FnOrderOk', WHERE WHAT IT READS IS OF BULK AT MOST 1048576: true; the input reads as it did. -/
def fnOrderOkUptoRow : OpenClaim := { program := "ytknnelenmedonaa", sum := "51685af96addb123ba144e7789637bdd7902d3caf1a989dfef08499061cf91db", func := "loop.example/fewpoints/laws.FnOrderOk", spec := "fnOrderOk", apart := false, narrowed := true }
def FnOrderOkUptoSaid : Prop := fnOrderOkUptoRow.holds Try.pinned (OpenSpec.upto fnOrderOkSpec)

/-- 'laws.FnExactOrdered', WHERE WHAT IT READS IS OF BULK AT MOST 1048576: true; the input reads as it did. -/
def fnExactOrderedUptoRow : OpenClaim := { program := "ytknnelenmedonaa", sum := "51685af96addb123ba144e7789637bdd7902d3caf1a989dfef08499061cf91db", func := "loop.example/fewpoints/laws.FnExactOrdered", spec := "fnExactOrdered", apart := false, narrowed := true }
def FnExactOrderedUptoSaid : Prop := fnExactOrderedUptoRow.holds Try.pinned (OpenSpec.upto fnExactOrderedSpec)

/-- 'laws.FnOrdered', WHERE WHAT IT READS IS OF BULK AT MOST 1048576: true; the input reads as it did. -/
def fnOrderedUptoRow : OpenClaim := { program := "ytknnelenmedonaa", sum := "51685af96addb123ba144e7789637bdd7902d3caf1a989dfef08499061cf91db", func := "loop.example/fewpoints/laws.FnOrdered", spec := "fnOrdered", apart := false, narrowed := true }
def FnOrderedUptoSaid : Prop := fnOrderedUptoRow.holds Try.pinned (OpenSpec.upto fnOrderedSpec)

/-- 'laws.FnExactKeepingOf', WHERE WHAT IT READS IS OF BULK AT MOST 1048576: true; the input reads as it did. -/
def fnExactKeepingOfUptoRow : OpenClaim := { program := "ytknnelenmedonaa", sum := "51685af96addb123ba144e7789637bdd7902d3caf1a989dfef08499061cf91db", func := "loop.example/fewpoints/laws.FnExactKeepingOf", spec := "fnExactKeepingOf", unfollowed := true, recurses := true, apart := false, narrowed := true }
def FnExactKeepingOfUptoSaid : Prop := fnExactKeepingOfUptoRow.holds Try.pinned (OpenSpec.upto fnExactKeepingOfSpec)

/-- 'laws.FnKeepingOf', WHERE WHAT IT READS IS OF BULK AT MOST 1048576: true; the input reads as it did. -/
def fnKeepingOfUptoRow : OpenClaim := { program := "ytknnelenmedonaa", sum := "51685af96addb123ba144e7789637bdd7902d3caf1a989dfef08499061cf91db", func := "loop.example/fewpoints/laws.FnKeepingOf", spec := "fnKeepingOf", unfollowed := true, recurses := true, apart := false, narrowed := true }
def FnKeepingOfUptoSaid : Prop := fnKeepingOfUptoRow.holds Try.pinned (OpenSpec.upto fnKeepingOfSpec)

/-- 'laws.FnExactSameSpace', WHERE WHAT IT READS IS OF BULK AT MOST 1048576: true; the input reads as it did. -/
def fnExactSameSpaceUptoRow : OpenClaim := { program := "ytknnelenmedonaa", sum := "51685af96addb123ba144e7789637bdd7902d3caf1a989dfef08499061cf91db", func := "loop.example/fewpoints/laws.FnExactSameSpace", spec := "fnExactSameSpace", unfollowed := true, recurses := true, apart := false, narrowed := true }
def FnExactSameSpaceUptoSaid : Prop := fnExactSameSpaceUptoRow.holds Try.pinned (OpenSpec.upto fnExactSameSpaceSpec)

/-- 'laws.FnSameSpace', WHERE WHAT IT READS IS OF BULK AT MOST 1048576: true; the input reads as it did. -/
def fnSameSpaceUptoRow : OpenClaim := { program := "ytknnelenmedonaa", sum := "51685af96addb123ba144e7789637bdd7902d3caf1a989dfef08499061cf91db", func := "loop.example/fewpoints/laws.FnSameSpace", spec := "fnSameSpace", unfollowed := true, recurses := true, apart := false, narrowed := true }
def FnSameSpaceUptoSaid : Prop := fnSameSpaceUptoRow.holds Try.pinned (OpenSpec.upto fnSameSpaceSpec)

/-- 'laws.FnExactFirstOf', WHERE WHAT IT READS IS OF BULK AT MOST 1048576: true; the input reads as it did. -/
def fnExactFirstOfUptoRow : OpenClaim := { program := "ytknnelenmedonaa", sum := "51685af96addb123ba144e7789637bdd7902d3caf1a989dfef08499061cf91db", func := "loop.example/fewpoints/laws.FnExactFirstOf", spec := "fnExactFirstOf", unfollowed := true, recurses := true, apart := false, narrowed := true }
def FnExactFirstOfUptoSaid : Prop := fnExactFirstOfUptoRow.holds Try.pinned (OpenSpec.upto fnExactFirstOfSpec)

/-- 'laws.FnFirstOf', WHERE WHAT IT READS IS OF BULK AT MOST 1048576: true; the input reads as it did. -/
def fnFirstOfUptoRow : OpenClaim := { program := "ytknnelenmedonaa", sum := "51685af96addb123ba144e7789637bdd7902d3caf1a989dfef08499061cf91db", func := "loop.example/fewpoints/laws.FnFirstOf", spec := "fnFirstOf", unfollowed := true, recurses := true, apart := false, narrowed := true }
def FnFirstOfUptoSaid : Prop := fnFirstOfUptoRow.holds Try.pinned (OpenSpec.upto fnFirstOfSpec)

/-- 'laws.FnExactPlacesOf', WHERE WHAT IT READS IS OF BULK AT MOST 1048576: true; the input reads as it did. -/
def fnExactPlacesOfUptoRow : OpenClaim := { program := "ytknnelenmedonaa", sum := "51685af96addb123ba144e7789637bdd7902d3caf1a989dfef08499061cf91db", func := "loop.example/fewpoints/laws.FnExactPlacesOf", spec := "fnExactPlacesOf", unfollowed := true, recurses := true, apart := false, narrowed := true }
def FnExactPlacesOfUptoSaid : Prop := fnExactPlacesOfUptoRow.holds Try.pinned (OpenSpec.upto fnExactPlacesOfSpec)

/-- 'laws.FnPlacesOf', WHERE WHAT IT READS IS OF BULK AT MOST 1048576: true; the input reads as it did. -/
def fnPlacesOfUptoRow : OpenClaim := { program := "ytknnelenmedonaa", sum := "51685af96addb123ba144e7789637bdd7902d3caf1a989dfef08499061cf91db", func := "loop.example/fewpoints/laws.FnPlacesOf", spec := "fnPlacesOf", unfollowed := true, recurses := true, apart := false, narrowed := true }
def FnPlacesOfUptoSaid : Prop := fnPlacesOfUptoRow.holds Try.pinned (OpenSpec.upto fnPlacesOfSpec)

end Rows
end Go.Proofs.Ytknnelenmedonaa
