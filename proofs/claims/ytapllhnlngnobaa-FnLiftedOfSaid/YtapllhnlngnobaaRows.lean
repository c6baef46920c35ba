/-
  No cell of these rows narrows 'for every input' (looked for: loops, veiled, ifaces, maps, wideKeys, modest, calm, conditions, laid).
  DERIVED. THE GIVEN ROWS OF THIS SEAT. 13 by the template 'for every input the law returns true; each argument reads behind the call as it read before'; 0 by the template 'total and deterministic' (their statements: YtapllhnlngnobaaTotals.lean).
  GIVEN WITH THE SEED: the statements are not yours to turn. If you find one false, say at which input.
  Laid BY PROGRAM, IN A SANDBOX (cutbox-rows.mjs): the forced cells as the released guide's own fill.sh prints them over the translation 28761e06b2892b9c… (all of the seat's roots in one cut). By AI agents, Wed Nov 11 2026. No macro, syntax, notation, axiom, sorry.
-/
import Derived.Test.YtapllhnlngnobaaChecked
import GoSem.Claim
import GoSem.ClaimJoined
import GoSem.ClaimMapViews
import Derived.JoinedTies
import Derived.KernelRfl
namespace Go.Proofs.Ytapllhnlngnobaa
/- THE CELL 'sum', in the pinned program and in every row, IS THE sha256 OF THE DUMP (.gsa) THAT YtapllhnlngnobaaProg.lean LOADS. Nothing in Lean hashes anything: it is a label: what it is worth is what the hold of that sum in a sandbox is worth. -/
noncomputable def Try.pinned : Pinned := { name := "ytapllhnlngnobaa", sum := "28761e06b2892b9ce34ddc4cf73691c071a63064bcd56654689511cb4638ef37", checked := Try.checked }
namespace Rows
def none {H : Type} : Left H := { results := [], args := [] }

/-- 'laws.FnApartBy': WHATEVER THE INPUT: true; the input reads as it did. -/
def fnApartBySpec : ChangeSpec := { name := "fnApartBy", fn := fun _ => fun
  | [d] => { results := [.lit (.bool true)], args := [d] }
  | _ => none }
def fnApartByRow : OpenClaim := { program := "ytapllhnlngnobaa", sum := "28761e06b2892b9ce34ddc4cf73691c071a63064bcd56654689511cb4638ef37", func := "loop.example/fewpoints/laws.FnApartBy", spec := "fnApartBy", apart := false }
def FnApartBySaid : Prop := fnApartByRow.holds Try.pinned (OpenSpec.ofChange fnApartBySpec)

/-- ITS FALSE NEIGHBOUR: 'it returns false'. Refute it at one input. -/
def fnApartByWrong : ChangeSpec := { name := "fnApartBy", fn := fun _ => fun
  | [d] => { results := [.lit (.bool false)], args := [d] }
  | _ => none }
def FnApartByWrongFalsely : Prop := fnApartByRow.holds Try.pinned (OpenSpec.ofChange fnApartByWrong)

/-- 'laws.FnTameOk': WHATEVER THE INPUT: true; the input reads as it did. -/
def fnTameOkSpec : ChangeSpec := { name := "fnTameOk", fn := fun _ => fun
  | [d] => { results := [.lit (.bool true)], args := [d] }
  | _ => none }
def fnTameOkRow : OpenClaim := { program := "ytapllhnlngnobaa", sum := "28761e06b2892b9ce34ddc4cf73691c071a63064bcd56654689511cb4638ef37", func := "loop.example/fewpoints/laws.FnTameOk", spec := "fnTameOk", apart := false }
def FnTameOkSaid : Prop := fnTameOkRow.holds Try.pinned (OpenSpec.ofChange fnTameOkSpec)

/-- ITS FALSE NEIGHBOUR: 'it returns false'. Refute it at one input. -/
def fnTameOkWrong : ChangeSpec := { name := "fnTameOk", fn := fun _ => fun
  | [d] => { results := [.lit (.bool false)], args := [d] }
  | _ => none }
def FnTameOkWrongFalsely : Prop := fnTameOkRow.holds Try.pinned (OpenSpec.ofChange fnTameOkWrong)

/-- 'laws.FnDistancesFrom': WHATEVER THE INPUT: true; the input reads as it did. -/
def fnDistancesFromSpec : ChangeSpec := { name := "fnDistancesFrom", fn := fun _ => fun
  | [d] => { results := [.lit (.bool true)], args := [d] }
  | _ => none }
def fnDistancesFromRow : OpenClaim := { program := "ytapllhnlngnobaa", sum := "28761e06b2892b9ce34ddc4cf73691c071a63064bcd56654689511cb4638ef37", func := "loop.example/fewpoints/laws.FnDistancesFrom", spec := "fnDistancesFrom", apart := false }
def FnDistancesFromSaid : Prop := fnDistancesFromRow.holds Try.pinned (OpenSpec.ofChange fnDistancesFromSpec)

/-- ITS FALSE NEIGHBOUR: 'it returns false'. Refute it at one input. -/
def fnDistancesFromWrong : ChangeSpec := { name := "fnDistancesFrom", fn := fun _ => fun
  | [d] => { results := [.lit (.bool false)], args := [d] }
  | _ => none }
def FnDistancesFromWrongFalsely : Prop := fnDistancesFromRow.holds Try.pinned (OpenSpec.ofChange fnDistancesFromWrong)

/-- 'laws.FnSteepestOf': WHATEVER THE INPUT: true; the input reads as it did. -/
def fnSteepestOfSpec : ChangeSpec := { name := "fnSteepestOf", fn := fun _ => fun
  | [d] => { results := [.lit (.bool true)], args := [d] }
  | _ => none }
def fnSteepestOfRow : OpenClaim := { program := "ytapllhnlngnobaa", sum := "28761e06b2892b9ce34ddc4cf73691c071a63064bcd56654689511cb4638ef37", func := "loop.example/fewpoints/laws.FnSteepestOf", spec := "fnSteepestOf", apart := false }
def FnSteepestOfSaid : Prop := fnSteepestOfRow.holds Try.pinned (OpenSpec.ofChange fnSteepestOfSpec)

/-- ITS FALSE NEIGHBOUR: 'it returns false'. Refute it at one input. -/
def fnSteepestOfWrong : ChangeSpec := { name := "fnSteepestOf", fn := fun _ => fun
  | [d] => { results := [.lit (.bool false)], args := [d] }
  | _ => none }
def FnSteepestOfWrongFalsely : Prop := fnSteepestOfRow.holds Try.pinned (OpenSpec.ofChange fnSteepestOfWrong)

/-- 'laws.FnCoversOk': WHATEVER THE INPUT: true; the input reads as it did. -/
def fnCoversOkSpec : ChangeSpec := { name := "fnCoversOk", fn := fun _ => fun
  | [d] => { results := [.lit (.bool true)], args := [d] }
  | _ => none }
def fnCoversOkRow : OpenClaim := { program := "ytapllhnlngnobaa", sum := "28761e06b2892b9ce34ddc4cf73691c071a63064bcd56654689511cb4638ef37", func := "loop.example/fewpoints/laws.FnCoversOk", spec := "fnCoversOk", apart := false }
def FnCoversOkSaid : Prop := fnCoversOkRow.holds Try.pinned (OpenSpec.ofChange fnCoversOkSpec)

/-- ITS FALSE NEIGHBOUR: 'it returns false'. Refute it at one input. -/
def fnCoversOkWrong : ChangeSpec := { name := "fnCoversOk", fn := fun _ => fun
  | [d] => { results := [.lit (.bool false)], args := [d] }
  | _ => none }
def FnCoversOkWrongFalsely : Prop := fnCoversOkRow.holds Try.pinned (OpenSpec.ofChange fnCoversOkWrong)

/-- 'laws.FnKnownOk': WHATEVER THE INPUT: true; the input reads as it did. -/
def fnKnownOkSpec : ChangeSpec := { name := "fnKnownOk", fn := fun _ => fun
  | [d] => { results := [.lit (.bool true)], args := [d] }
  | _ => none }
def fnKnownOkRow : OpenClaim := { program := "ytapllhnlngnobaa", sum := "28761e06b2892b9ce34ddc4cf73691c071a63064bcd56654689511cb4638ef37", func := "loop.example/fewpoints/laws.FnKnownOk", spec := "fnKnownOk", apart := false }
def FnKnownOkSaid : Prop := fnKnownOkRow.holds Try.pinned (OpenSpec.ofChange fnKnownOkSpec)

/-- ITS FALSE NEIGHBOUR: 'it returns false'. Refute it at one input. -/
def fnKnownOkWrong : ChangeSpec := { name := "fnKnownOk", fn := fun _ => fun
  | [d] => { results := [.lit (.bool false)], args := [d] }
  | _ => none }
def FnKnownOkWrongFalsely : Prop := fnKnownOkRow.holds Try.pinned (OpenSpec.ofChange fnKnownOkWrong)

/-- 'laws.FnMiddleOf': WHATEVER THE INPUT: true; the input reads as it did. -/
def fnMiddleOfSpec : ChangeSpec := { name := "fnMiddleOf", fn := fun _ => fun
  | [d] => { results := [.lit (.bool true)], args := [d] }
  | _ => none }
def fnMiddleOfRow : OpenClaim := { program := "ytapllhnlngnobaa", sum := "28761e06b2892b9ce34ddc4cf73691c071a63064bcd56654689511cb4638ef37", func := "loop.example/fewpoints/laws.FnMiddleOf", spec := "fnMiddleOf", unfollowed := true, recurses := true, apart := false }
def FnMiddleOfSaid : Prop := fnMiddleOfRow.holds Try.pinned (OpenSpec.ofChange fnMiddleOfSpec)

/-- ITS FALSE NEIGHBOUR: 'it returns false'. Refute it at one input. -/
def fnMiddleOfWrong : ChangeSpec := { name := "fnMiddleOf", fn := fun _ => fun
  | [d] => { results := [.lit (.bool false)], args := [d] }
  | _ => none }
def FnMiddleOfWrongFalsely : Prop := fnMiddleOfRow.holds Try.pinned (OpenSpec.ofChange fnMiddleOfWrong)

/-- 'laws.FnLiftedOf': WHATEVER THE INPUT: true; the input reads as it did. -/
def fnLiftedOfSpec : ChangeSpec := { name := "fnLiftedOf", fn := fun _ => fun
  | [d] => { results := [.lit (.bool true)], args := [d] }
  | _ => none }
def fnLiftedOfRow : OpenClaim := { program := "ytapllhnlngnobaa", sum := "28761e06b2892b9ce34ddc4cf73691c071a63064bcd56654689511cb4638ef37", func := "loop.example/fewpoints/laws.FnLiftedOf", spec := "fnLiftedOf", apart := false }
def FnLiftedOfSaid : Prop := fnLiftedOfRow.holds Try.pinned (OpenSpec.ofChange fnLiftedOfSpec)

/-- ITS FALSE NEIGHBOUR: 'it returns false'. Refute it at one input. -/
def fnLiftedOfWrong : ChangeSpec := { name := "fnLiftedOf", fn := fun _ => fun
  | [d] => { results := [.lit (.bool false)], args := [d] }
  | _ => none }
def FnLiftedOfWrongFalsely : Prop := fnLiftedOfRow.holds Try.pinned (OpenSpec.ofChange fnLiftedOfWrong)

/-- 'laws.FnTightOk': WHATEVER THE INPUT: true; the input reads as it did. -/
def fnTightOkSpec : ChangeSpec := { name := "fnTightOk", fn := fun _ => fun
  | [d] => { results := [.lit (.bool true)], args := [d] }
  | _ => none }
def fnTightOkRow : OpenClaim := { program := "ytapllhnlngnobaa", sum := "28761e06b2892b9ce34ddc4cf73691c071a63064bcd56654689511cb4638ef37", func := "loop.example/fewpoints/laws.FnTightOk", spec := "fnTightOk", apart := false }
def FnTightOkSaid : Prop := fnTightOkRow.holds Try.pinned (OpenSpec.ofChange fnTightOkSpec)

/-- ITS FALSE NEIGHBOUR: 'it returns false'. Refute it at one input. -/
def fnTightOkWrong : ChangeSpec := { name := "fnTightOk", fn := fun _ => fun
  | [d] => { results := [.lit (.bool false)], args := [d] }
  | _ => none }
def FnTightOkWrongFalsely : Prop := fnTightOkRow.holds Try.pinned (OpenSpec.ofChange fnTightOkWrong)

/-- 'laws.FnTightBelow': WHATEVER THE INPUT: true; the input reads as it did. -/
def fnTightBelowSpec : ChangeSpec := { name := "fnTightBelow", fn := fun _ => fun
  | [d] => { results := [.lit (.bool true)], args := [d] }
  | _ => none }
def fnTightBelowRow : OpenClaim := { program := "ytapllhnlngnobaa", sum := "28761e06b2892b9ce34ddc4cf73691c071a63064bcd56654689511cb4638ef37", func := "loop.example/fewpoints/laws.FnTightBelow", spec := "fnTightBelow", apart := false }
def FnTightBelowSaid : Prop := fnTightBelowRow.holds Try.pinned (OpenSpec.ofChange fnTightBelowSpec)

/-- ITS FALSE NEIGHBOUR: 'it returns false'. Refute it at one input. -/
def fnTightBelowWrong : ChangeSpec := { name := "fnTightBelow", fn := fun _ => fun
  | [d] => { results := [.lit (.bool false)], args := [d] }
  | _ => none }
def FnTightBelowWrongFalsely : Prop := fnTightBelowRow.holds Try.pinned (OpenSpec.ofChange fnTightBelowWrong)

/-- 'laws.FnPartnersOf': WHATEVER THE INPUT: true; the input reads as it did. -/
def fnPartnersOfSpec : ChangeSpec := { name := "fnPartnersOf", fn := fun _ => fun
  | [d] => { results := [.lit (.bool true)], args := [d] }
  | _ => none }
def fnPartnersOfRow : OpenClaim := { program := "ytapllhnlngnobaa", sum := "28761e06b2892b9ce34ddc4cf73691c071a63064bcd56654689511cb4638ef37", func := "loop.example/fewpoints/laws.FnPartnersOf", spec := "fnPartnersOf", apart := false }
def FnPartnersOfSaid : Prop := fnPartnersOfRow.holds Try.pinned (OpenSpec.ofChange fnPartnersOfSpec)

/-- ITS FALSE NEIGHBOUR: 'it returns false'. Refute it at one input. -/
def fnPartnersOfWrong : ChangeSpec := { name := "fnPartnersOf", fn := fun _ => fun
  | [d] => { results := [.lit (.bool false)], args := [d] }
  | _ => none }
def FnPartnersOfWrongFalsely : Prop := fnPartnersOfRow.holds Try.pinned (OpenSpec.ofChange fnPartnersOfWrong)

/-- 'laws.FnHighestOf': WHATEVER THE INPUT: true; the input reads as it did. -/
def fnHighestOfSpec : ChangeSpec := { name := "fnHighestOf", fn := fun _ => fun
  | [d1, d2] => { results := [.lit (.bool true)], args := [d1, d2] }
  | _ => none }
def fnHighestOfRow : OpenClaim := { program := "ytapllhnlngnobaa", sum := "28761e06b2892b9ce34ddc4cf73691c071a63064bcd56654689511cb4638ef37", func := "loop.example/fewpoints/laws.FnHighestOf", spec := "fnHighestOf", apart := false }
def FnHighestOfSaid : Prop := fnHighestOfRow.holds Try.pinned (OpenSpec.ofChange fnHighestOfSpec)

/-- ITS FALSE NEIGHBOUR: 'it returns false'. Refute it at one input. -/
def fnHighestOfWrong : ChangeSpec := { name := "fnHighestOf", fn := fun _ => fun
  | [d1, d2] => { results := [.lit (.bool false)], args := [d1, d2] }
  | _ => none }
def FnHighestOfWrongFalsely : Prop := fnHighestOfRow.holds Try.pinned (OpenSpec.ofChange fnHighestOfWrong)

/-- 'laws.FnLowestOf': WHATEVER THE INPUT: true; the input reads as it did. -/
def fnLowestOfSpec : ChangeSpec := { name := "fnLowestOf", fn := fun _ => fun
  | [d] => { results := [.lit (.bool true)], args := [d] }
  | _ => none }
def fnLowestOfRow : OpenClaim := { program := "ytapllhnlngnobaa", sum := "28761e06b2892b9ce34ddc4cf73691c071a63064bcd56654689511cb4638ef37", func := "loop.example/fewpoints/laws.FnLowestOf", spec := "fnLowestOf", apart := false }
def FnLowestOfSaid : Prop := fnLowestOfRow.holds Try.pinned (OpenSpec.ofChange fnLowestOfSpec)

/-- ITS FALSE NEIGHBOUR: 'it returns false'. Refute it at one input. -/
def fnLowestOfWrong : ChangeSpec := { name := "fnLowestOf", fn := fun _ => fun
  | [d] => { results := [.lit (.bool false)], args := [d] }
  | _ => none }
def FnLowestOfWrongFalsely : Prop := fnLowestOfRow.holds Try.pinned (OpenSpec.ofChange fnLowestOfWrong)

/- THE SECOND FORM. 'bulk': how many values and letters a reading holds, each counted each time it is reached (what is shared counts as often as it is met; a slice's spare places count too). A statement '..UptoSaid' is the law's where the arguments, and the package variables that the reading takes, are together of bulk at most 1048576: NARROWER than '..Said'. Prove '..Said' where nothing that the law and all that it calls make is longer than what came in: it says more and counts as full. Else prove '..UptoSaid'. A law counts once. -/
mutual
def uptoBulk {H : Type} : DataW H → Nat
  | .lit (.string bytes) => bytes.length + 1
  | .lit _ => 1
  | .nil => 1
  | .ptr d => uptoBulk d + 1
  | .slice elems spare => uptoBulkAll elems + uptoBulkAll spare + 1
  | .agg parts => uptoBulkAll parts + 1
  | .iface _ d => uptoBulk d + 1
  | .map entries => uptoBulkEntries entries + 1
  | .held _ => 1
def uptoBulkAll {H : Type} : List (DataW H) → Nat
  | [] => 0
  | d :: r => uptoBulk d + uptoBulkAll r
def uptoBulkEntries {H : Type} : List (Lit × DataW H) → Nat
  | [] => 0
  | x :: r => uptoBulkEntry x + uptoBulkEntries r
def uptoBulkEntry {H : Type} : Lit × DataW H → Nat
  | (.string bytes, d) => bytes.length + uptoBulk d + 1
  | (_, d) => uptoBulk d + 1
 end
def uptoSmall : (H : Type) → List (DataW H) → Bool := fun _ ds => decide (uptoBulkAll ds ≤ 1048576)
def OpenSpec.upto (s : _root_.Go.ChangeSpec) : _root_.Go.OpenSpec := { _root_.Go.OpenSpec.ofChange s with cond := some uptoSmall }

/-- 'laws.FnApartBy', WHERE WHAT IT READS IS OF BULK AT MOST 1048576: true; the input reads as it did. -/
def fnApartByUptoRow : OpenClaim := { program := "ytapllhnlngnobaa", sum := "28761e06b2892b9ce34ddc4cf73691c071a63064bcd56654689511cb4638ef37", func := "loop.example/fewpoints/laws.FnApartBy", spec := "fnApartBy", apart := false, narrowed := true }
def FnApartByUptoSaid : Prop := fnApartByUptoRow.holds Try.pinned (OpenSpec.upto fnApartBySpec)

/-- 'laws.FnTameOk', WHERE WHAT IT READS IS OF BULK AT MOST 1048576: true; the input reads as it did. -/
def fnTameOkUptoRow : OpenClaim := { program := "ytapllhnlngnobaa", sum := "28761e06b2892b9ce34ddc4cf73691c071a63064bcd56654689511cb4638ef37", func := "loop.example/fewpoints/laws.FnTameOk", spec := "fnTameOk", apart := false, narrowed := true }
def FnTameOkUptoSaid : Prop := fnTameOkUptoRow.holds Try.pinned (OpenSpec.upto fnTameOkSpec)

/-- 'laws.FnDistancesFrom', WHERE WHAT IT READS IS OF BULK AT MOST 1048576: true; the input reads as it did. -/
def fnDistancesFromUptoRow : OpenClaim := { program := "ytapllhnlngnobaa", sum := "28761e06b2892b9ce34ddc4cf73691c071a63064bcd56654689511cb4638ef37", func := "loop.example/fewpoints/laws.FnDistancesFrom", spec := "fnDistancesFrom", apart := false, narrowed := true }
def FnDistancesFromUptoSaid : Prop := fnDistancesFromUptoRow.holds Try.pinned (OpenSpec.upto fnDistancesFromSpec)

/-- 'laws.FnSteepestOf', WHERE WHAT IT READS IS OF BULK AT MOST 1048576: true; the input reads as it did. -/
def fnSteepestOfUptoRow : OpenClaim := { program := "ytapllhnlngnobaa", sum := "28761e06b2892b9ce34ddc4cf73691c071a63064bcd56654689511cb4638ef37", func := "loop.example/fewpoints/laws.FnSteepestOf", spec := "fnSteepestOf", apart := false, narrowed := true }
def FnSteepestOfUptoSaid : Prop := fnSteepestOfUptoRow.holds Try.pinned (OpenSpec.upto fnSteepestOfSpec)

/-- 'laws.FnCoversOk', WHERE WHAT IT READS IS OF BULK AT MOST 1048576: true; the input reads as it did. -/
def fnCoversOkUptoRow : OpenClaim := { program := "ytapllhnlngnobaa", sum := "28761e06b2892b9ce34ddc4cf73691c071a63064bcd56654689511cb4638ef37", func := "loop.example/fewpoints/laws.FnCoversOk", spec := "fnCoversOk", apart := false, narrowed := true }
def FnCoversOkUptoSaid : Prop := fnCoversOkUptoRow.holds Try.pinned (OpenSpec.upto fnCoversOkSpec)

/-- 'laws.FnKnownOk', WHERE WHAT IT READS IS OF BULK AT MOST 1048576: true; the input reads as it did. -/
def fnKnownOkUptoRow : OpenClaim := { program := "ytapllhnlngnobaa", sum := "28761e06b2892b9ce34ddc4cf73691c071a63064bcd56654689511cb4638ef37", func := "loop.example/fewpoints/laws.FnKnownOk", spec := "fnKnownOk", apart := false, narrowed := true }
def FnKnownOkUptoSaid : Prop := fnKnownOkUptoRow.holds Try.pinned (OpenSpec.upto fnKnownOkSpec)

/-- 'laws.FnMiddleOf', WHERE WHAT IT READS IS OF BULK AT MOST 1048576: true; the input reads as it did. -/
def fnMiddleOfUptoRow : OpenClaim := { program := "ytapllhnlngnobaa", sum := "28761e06b2892b9ce34ddc4cf73691c071a63064bcd56654689511cb4638ef37", func := "loop.example/fewpoints/laws.FnMiddleOf", spec := "fnMiddleOf", unfollowed := true, recurses := true, apart := false, narrowed := true }
def FnMiddleOfUptoSaid : Prop := fnMiddleOfUptoRow.holds Try.pinned (OpenSpec.upto fnMiddleOfSpec)

/-- 'laws.FnLiftedOf', WHERE WHAT IT READS IS OF BULK AT MOST 1048576: true; the input reads as it did. -/
def fnLiftedOfUptoRow : OpenClaim := { program := "ytapllhnlngnobaa", sum := "28761e06b2892b9ce34ddc4cf73691c071a63064bcd56654689511cb4638ef37", func := "loop.example/fewpoints/laws.FnLiftedOf", spec := "fnLiftedOf", apart := false, narrowed := true }
def FnLiftedOfUptoSaid : Prop := fnLiftedOfUptoRow.holds Try.pinned (OpenSpec.upto fnLiftedOfSpec)

/-- 'laws.FnTightOk', WHERE WHAT IT READS IS OF BULK AT MOST 1048576: true; the input reads as it did. -/
def fnTightOkUptoRow : OpenClaim := { program := "ytapllhnlngnobaa", sum := "28761e06b2892b9ce34ddc4cf73691c071a63064bcd56654689511cb4638ef37", func := "loop.example/fewpoints/laws.FnTightOk", spec := "fnTightOk", apart := false, narrowed := true }
def FnTightOkUptoSaid : Prop := fnTightOkUptoRow.holds Try.pinned (OpenSpec.upto fnTightOkSpec)

/-- 'laws.FnTightBelow', WHERE WHAT IT READS IS OF BULK AT MOST 1048576: true; the input reads as it did. -/
def fnTightBelowUptoRow : OpenClaim := { program := "ytapllhnlngnobaa", sum := "28761e06b2892b9ce34ddc4cf73691c071a63064bcd56654689511cb4638ef37", func := "loop.example/fewpoints/laws.FnTightBelow", spec := "fnTightBelow", apart := false, narrowed := true }
def FnTightBelowUptoSaid : Prop := fnTightBelowUptoRow.holds Try.pinned (OpenSpec.upto fnTightBelowSpec)

/-- 'laws.FnPartnersOf', WHERE WHAT IT READS IS OF BULK AT MOST 1048576: true; the input reads as it did. -/
def fnPartnersOfUptoRow : OpenClaim := { program := "ytapllhnlngnobaa", sum := "28761e06b2892b9ce34ddc4cf73691c071a63064bcd56654689511cb4638ef37", func := "loop.example/fewpoints/laws.FnPartnersOf", spec := "fnPartnersOf", apart := false, narrowed := true }
def FnPartnersOfUptoSaid : Prop := fnPartnersOfUptoRow.holds Try.pinned (OpenSpec.upto fnPartnersOfSpec)

/-- 'laws.FnHighestOf', WHERE WHAT IT READS IS OF BULK AT MOST 1048576: true; the input reads as it did. -/
def fnHighestOfUptoRow : OpenClaim := { program := "ytapllhnlngnobaa", sum := "28761e06b2892b9ce34ddc4cf73691c071a63064bcd56654689511cb4638ef37", func := "loop.example/fewpoints/laws.FnHighestOf", spec := "fnHighestOf", apart := false, narrowed := true }
def FnHighestOfUptoSaid : Prop := fnHighestOfUptoRow.holds Try.pinned (OpenSpec.upto fnHighestOfSpec)

/-- 'laws.FnLowestOf', WHERE WHAT IT READS IS OF BULK AT MOST 1048576: true; the input reads as it did. -/
def fnLowestOfUptoRow : OpenClaim := { program := "ytapllhnlngnobaa", sum := "28761e06b2892b9ce34ddc4cf73691c071a63064bcd56654689511cb4638ef37", func := "loop.example/fewpoints/laws.FnLowestOf", spec := "fnLowestOf", apart := false, narrowed := true }
def FnLowestOfUptoSaid : Prop := fnLowestOfUptoRow.holds Try.pinned (OpenSpec.upto fnLowestOfSpec)

end Rows
end Go.Proofs.Ytapllhnlngnobaa
