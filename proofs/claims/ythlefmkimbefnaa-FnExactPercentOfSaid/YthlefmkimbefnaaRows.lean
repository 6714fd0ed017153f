/-
  No cell of these rows narrows 'for every input' (looked for: loops, veiled, ifaces, maps, wideKeys, modest, calm, conditions, laid).
  DERIVED. THE GIVEN ROWS OF THIS SEAT. 11 by the template 'for every input the law returns true; each argument reads behind the call as it read before'; 0 by the template 'total and deterministic' (their statements: YthlefmkimbefnaaTotals.lean).
  GIVEN WITH THE SEED: the statements are not yours to turn. If you find one false, say at which input.
  Laid BY PROGRAM, IN A SANDBOX (cutbox-rows.mjs): the forced cells as the released guide's own fill.sh prints them over the translation 9a40c2e625b91c56… (all of the seat's roots in one cut). By AI agents, Wed Nov 11 2026. No macro, syntax, notation, axiom, sorry.
-/
import Derived.Test.YthlefmkimbefnaaChecked
import GoSem.Claim
import GoSem.ClaimJoined
import GoSem.ClaimMapViews
import Derived.JoinedTies
import Derived.KernelRfl
namespace Go.Proofs.Ythlefmkimbefnaa
/- THE CELL 'sum', in the pinned program and in every row, IS THE sha256 OF THE DUMP (.gsa) THAT YthlefmkimbefnaaProg.lean LOADS. Nothing in Lean hashes anything: it is a label: what it is worth is what the hold of that sum in a sandbox is worth. -/
noncomputable def Try.pinned : Pinned := { name := "ythlefmkimbefnaa", sum := "9a40c2e625b91c56688497127cf93316b627632cd306635b6072db12234188e6", checked := Try.checked }
namespace Rows
def none {H : Type} : Left H := { results := [], args := [] }

/-- 'laws.FnExactConstants': WHATEVER THE INPUT: true; the input reads as it did. -/
def fnExactConstantsSpec : ChangeSpec := { name := "fnExactConstants", fn := fun _ => fun
  | [] => { results := [.lit (.bool true)], args := [] }
  | _ => none }
def fnExactConstantsRow : OpenClaim := { program := "ythlefmkimbefnaa", sum := "9a40c2e625b91c56688497127cf93316b627632cd306635b6072db12234188e6", func := "loop.example/g00912/laws.FnExactConstants", spec := "fnExactConstants", apart := false }
def FnExactConstantsSaid : Prop := fnExactConstantsRow.holds Try.pinned (OpenSpec.ofChange fnExactConstantsSpec)

/-- ITS FALSE NEIGHBOUR: 'it returns false'. Refute it at one input. -/
def fnExactConstantsWrong : ChangeSpec := { name := "fnExactConstants", fn := fun _ => fun
  | [] => { results := [.lit (.bool false)], args := [] }
  | _ => none }
def FnExactConstantsWrongFalsely : Prop := fnExactConstantsRow.holds Try.pinned (OpenSpec.ofChange fnExactConstantsWrong)

/-- 'laws.FnExactCompareParts': WHATEVER THE INPUT: true; the input reads as it did. -/
def fnExactComparePartsSpec : ChangeSpec := { name := "fnExactCompareParts", fn := fun _ => fun
  | [d1, d2, d3, d4] => { results := [.lit (.bool true)], args := [d1, d2, d3, d4] }
  | _ => none }
def fnExactComparePartsRow : OpenClaim := { program := "ythlefmkimbefnaa", sum := "9a40c2e625b91c56688497127cf93316b627632cd306635b6072db12234188e6", func := "loop.example/g00912/laws.FnExactCompareParts", spec := "fnExactCompareParts", apart := false }
def FnExactComparePartsSaid : Prop := fnExactComparePartsRow.holds Try.pinned (OpenSpec.ofChange fnExactComparePartsSpec)

/-- ITS FALSE NEIGHBOUR: 'it returns false'. Refute it at one input. -/
def fnExactComparePartsWrong : ChangeSpec := { name := "fnExactCompareParts", fn := fun _ => fun
  | [d1, d2, d3, d4] => { results := [.lit (.bool false)], args := [d1, d2, d3, d4] }
  | _ => none }
def FnExactComparePartsWrongFalsely : Prop := fnExactComparePartsRow.holds Try.pinned (OpenSpec.ofChange fnExactComparePartsWrong)

/-- 'laws.FnExactLowestPart': WHATEVER THE INPUT: true; the input reads as it did. -/
def fnExactLowestPartSpec : ChangeSpec := { name := "fnExactLowestPart", fn := fun _ => fun
  | [d1, d2] => { results := [.lit (.bool true)], args := [d1, d2] }
  | _ => none }
def fnExactLowestPartRow : OpenClaim := { program := "ythlefmkimbefnaa", sum := "9a40c2e625b91c56688497127cf93316b627632cd306635b6072db12234188e6", func := "loop.example/g00912/laws.FnExactLowestPart", spec := "fnExactLowestPart", apart := false }
def FnExactLowestPartSaid : Prop := fnExactLowestPartRow.holds Try.pinned (OpenSpec.ofChange fnExactLowestPartSpec)

/-- ITS FALSE NEIGHBOUR: 'it returns false'. Refute it at one input. -/
def fnExactLowestPartWrong : ChangeSpec := { name := "fnExactLowestPart", fn := fun _ => fun
  | [d1, d2] => { results := [.lit (.bool false)], args := [d1, d2] }
  | _ => none }
def FnExactLowestPartWrongFalsely : Prop := fnExactLowestPartRow.holds Try.pinned (OpenSpec.ofChange fnExactLowestPartWrong)

/-- 'laws.FnExactAddParts': WHATEVER THE INPUT: true; the input reads as it did. -/
def fnExactAddPartsSpec : ChangeSpec := { name := "fnExactAddParts", fn := fun _ => fun
  | [d1, d2, d3, d4] => { results := [.lit (.bool true)], args := [d1, d2, d3, d4] }
  | _ => none }
def fnExactAddPartsRow : OpenClaim := { program := "ythlefmkimbefnaa", sum := "9a40c2e625b91c56688497127cf93316b627632cd306635b6072db12234188e6", func := "loop.example/g00912/laws.FnExactAddParts", spec := "fnExactAddParts", apart := false }
def FnExactAddPartsSaid : Prop := fnExactAddPartsRow.holds Try.pinned (OpenSpec.ofChange fnExactAddPartsSpec)

/-- ITS FALSE NEIGHBOUR: 'it returns false'. Refute it at one input. -/
def fnExactAddPartsWrong : ChangeSpec := { name := "fnExactAddParts", fn := fun _ => fun
  | [d1, d2, d3, d4] => { results := [.lit (.bool false)], args := [d1, d2, d3, d4] }
  | _ => none }
def FnExactAddPartsWrongFalsely : Prop := fnExactAddPartsRow.holds Try.pinned (OpenSpec.ofChange fnExactAddPartsWrong)

/-- 'laws.FnExactRoundPart': WHATEVER THE INPUT: true; the input reads as it did. -/
def fnExactRoundPartSpec : ChangeSpec := { name := "fnExactRoundPart", fn := fun _ => fun
  | [d1, d2, d3] => { results := [.lit (.bool true)], args := [d1, d2, d3] }
  | _ => none }
def fnExactRoundPartRow : OpenClaim := { program := "ythlefmkimbefnaa", sum := "9a40c2e625b91c56688497127cf93316b627632cd306635b6072db12234188e6", func := "loop.example/g00912/laws.FnExactRoundPart", spec := "fnExactRoundPart", apart := false }
def FnExactRoundPartSaid : Prop := fnExactRoundPartRow.holds Try.pinned (OpenSpec.ofChange fnExactRoundPartSpec)

/-- ITS FALSE NEIGHBOUR: 'it returns false'. Refute it at one input. -/
def fnExactRoundPartWrong : ChangeSpec := { name := "fnExactRoundPart", fn := fun _ => fun
  | [d1, d2, d3] => { results := [.lit (.bool false)], args := [d1, d2, d3] }
  | _ => none }
def FnExactRoundPartWrongFalsely : Prop := fnExactRoundPartRow.holds Try.pinned (OpenSpec.ofChange fnExactRoundPartWrong)

/-- 'laws.FnExactPercentOf': WHATEVER THE INPUT: true; the input reads as it did. -/
def fnExactPercentOfSpec : ChangeSpec := { name := "fnExactPercentOf", fn := fun _ => fun
  | [d1, d2, d3] => { results := [.lit (.bool true)], args := [d1, d2, d3] }
  | _ => none }
def fnExactPercentOfRow : OpenClaim := { program := "ythlefmkimbefnaa", sum := "9a40c2e625b91c56688497127cf93316b627632cd306635b6072db12234188e6", func := "loop.example/g00912/laws.FnExactPercentOf", spec := "fnExactPercentOf", apart := false }
def FnExactPercentOfSaid : Prop := fnExactPercentOfRow.holds Try.pinned (OpenSpec.ofChange fnExactPercentOfSpec)

/-- ITS FALSE NEIGHBOUR: 'it returns false'. Refute it at one input. -/
def fnExactPercentOfWrong : ChangeSpec := { name := "fnExactPercentOf", fn := fun _ => fun
  | [d1, d2, d3] => { results := [.lit (.bool false)], args := [d1, d2, d3] }
  | _ => none }
def FnExactPercentOfWrongFalsely : Prop := fnExactPercentOfRow.holds Try.pinned (OpenSpec.ofChange fnExactPercentOfWrong)

/-- 'laws.FnExactSumPoints': WHATEVER THE INPUT: true; the input reads as it did. -/
def fnExactSumPointsSpec : ChangeSpec := { name := "fnExactSumPoints", fn := fun _ => fun
  | [d] => { results := [.lit (.bool true)], args := [d] }
  | _ => none }
def fnExactSumPointsRow : OpenClaim := { program := "ythlefmkimbefnaa", sum := "9a40c2e625b91c56688497127cf93316b627632cd306635b6072db12234188e6", func := "loop.example/g00912/laws.FnExactSumPoints", spec := "fnExactSumPoints", apart := false }
def FnExactSumPointsSaid : Prop := fnExactSumPointsRow.holds Try.pinned (OpenSpec.ofChange fnExactSumPointsSpec)

/-- ITS FALSE NEIGHBOUR: 'it returns false'. Refute it at one input. -/
def fnExactSumPointsWrong : ChangeSpec := { name := "fnExactSumPoints", fn := fun _ => fun
  | [d] => { results := [.lit (.bool false)], args := [d] }
  | _ => none }
def FnExactSumPointsWrongFalsely : Prop := fnExactSumPointsRow.holds Try.pinned (OpenSpec.ofChange fnExactSumPointsWrong)

/-- 'laws.FnExactPlaceOfPoints': WHATEVER THE INPUT: true; the input reads as it did. -/
def fnExactPlaceOfPointsSpec : ChangeSpec := { name := "fnExactPlaceOfPoints", fn := fun _ => fun
  | [d1, d2] => { results := [.lit (.bool true)], args := [d1, d2] }
  | _ => none }
def fnExactPlaceOfPointsRow : OpenClaim := { program := "ythlefmkimbefnaa", sum := "9a40c2e625b91c56688497127cf93316b627632cd306635b6072db12234188e6", func := "loop.example/g00912/laws.FnExactPlaceOfPoints", spec := "fnExactPlaceOfPoints", apart := false }
def FnExactPlaceOfPointsSaid : Prop := fnExactPlaceOfPointsRow.holds Try.pinned (OpenSpec.ofChange fnExactPlaceOfPointsSpec)

/-- ITS FALSE NEIGHBOUR: 'it returns false'. Refute it at one input. -/
def fnExactPlaceOfPointsWrong : ChangeSpec := { name := "fnExactPlaceOfPoints", fn := fun _ => fun
  | [d1, d2] => { results := [.lit (.bool false)], args := [d1, d2] }
  | _ => none }
def FnExactPlaceOfPointsWrongFalsely : Prop := fnExactPlaceOfPointsRow.holds Try.pinned (OpenSpec.ofChange fnExactPlaceOfPointsWrong)

/-- 'laws.FnExactMeanPoints': WHATEVER THE INPUT: true; the input reads as it did. -/
def fnExactMeanPointsSpec : ChangeSpec := { name := "fnExactMeanPoints", fn := fun _ => fun
  | [d] => { results := [.lit (.bool true)], args := [d] }
  | _ => none }
def fnExactMeanPointsRow : OpenClaim := { program := "ythlefmkimbefnaa", sum := "9a40c2e625b91c56688497127cf93316b627632cd306635b6072db12234188e6", func := "loop.example/g00912/laws.FnExactMeanPoints", spec := "fnExactMeanPoints", apart := false }
def FnExactMeanPointsSaid : Prop := fnExactMeanPointsRow.holds Try.pinned (OpenSpec.ofChange fnExactMeanPointsSpec)

/-- ITS FALSE NEIGHBOUR: 'it returns false'. Refute it at one input. -/
def fnExactMeanPointsWrong : ChangeSpec := { name := "fnExactMeanPoints", fn := fun _ => fun
  | [d] => { results := [.lit (.bool false)], args := [d] }
  | _ => none }
def FnExactMeanPointsWrongFalsely : Prop := fnExactMeanPointsRow.holds Try.pinned (OpenSpec.ofChange fnExactMeanPointsWrong)

/-- 'laws.FnExactSortedPoints': WHATEVER THE INPUT: true; the input reads as it did. -/
def fnExactSortedPointsSpec : ChangeSpec := { name := "fnExactSortedPoints", fn := fun _ => fun
  | [d] => { results := [.lit (.bool true)], args := [d] }
  | _ => none }
def fnExactSortedPointsRow : OpenClaim := { program := "ythlefmkimbefnaa", sum := "9a40c2e625b91c56688497127cf93316b627632cd306635b6072db12234188e6", func := "loop.example/g00912/laws.FnExactSortedPoints", spec := "fnExactSortedPoints", recurses := true, apart := false }
def FnExactSortedPointsSaid : Prop := fnExactSortedPointsRow.holds Try.pinned (OpenSpec.ofChange fnExactSortedPointsSpec)

/-- ITS FALSE NEIGHBOUR: 'it returns false'. Refute it at one input. -/
def fnExactSortedPointsWrong : ChangeSpec := { name := "fnExactSortedPoints", fn := fun _ => fun
  | [d] => { results := [.lit (.bool false)], args := [d] }
  | _ => none }
def FnExactSortedPointsWrongFalsely : Prop := fnExactSortedPointsRow.holds Try.pinned (OpenSpec.ofChange fnExactSortedPointsWrong)

/-- 'laws.FnParts': WHATEVER THE INPUT: true; the input reads as it did. -/
def fnPartsSpec : ChangeSpec := { name := "fnParts", fn := fun _ => fun
  | [d1, d2] => { results := [.lit (.bool true)], args := [d1, d2] }
  | _ => none }
def fnPartsRow : OpenClaim := { program := "ythlefmkimbefnaa", sum := "9a40c2e625b91c56688497127cf93316b627632cd306635b6072db12234188e6", func := "loop.example/g00912/laws.FnParts", spec := "fnParts", apart := false }
def FnPartsSaid : Prop := fnPartsRow.holds Try.pinned (OpenSpec.ofChange fnPartsSpec)

/-- ITS FALSE NEIGHBOUR: 'it returns false'. Refute it at one input. -/
def fnPartsWrong : ChangeSpec := { name := "fnParts", fn := fun _ => fun
  | [d1, d2] => { results := [.lit (.bool false)], args := [d1, d2] }
  | _ => none }
def FnPartsWrongFalsely : Prop := fnPartsRow.holds Try.pinned (OpenSpec.ofChange fnPartsWrong)

/- THE SECOND FORM. 'bulk': how many values and letters a reading holds, each counted each time it is reached (what is shared counts as often as it is met; a slice's spare places count too). A statement '..UptoSaid' is the law's where the arguments, and the package variables that the reading takes, are together of bulk at most 1048576: NARROWER than '..Said'. Prove '..Said' where nothing that the law and all that it calls make is longer than what came in: it says more and counts as full. Else prove '..UptoSaid'. A law counts once. -/
mutual
def uptoBulk {H : Type} : DataW H → Nat
  | .lit (.string bytes) => bytes.length + 1
  | .lit _ => 1
  | .nil => 1
  | .ptr d => uptoBulk d + 1
  | .slice elems spare => uptoBulkAll elems + uptoBulkAll spare + 1
  | .agg parts => uptoBulkAll parts + 1
  | .iface _ d => uptoBulk d + 1
  | .map entries => uptoBulkEntries entries + 1
  | .held _ => 1
def uptoBulkAll {H : Type} : List (DataW H) → Nat
  | [] => 0
  | d :: r => uptoBulk d + uptoBulkAll r
def uptoBulkEntries {H : Type} : List (Lit × DataW H) → Nat
  | [] => 0
  | x :: r => uptoBulkEntry x + uptoBulkEntries r
def uptoBulkEntry {H : Type} : Lit × DataW H → Nat
  | (.string bytes, d) => bytes.length + uptoBulk d + 1
  | (_, d) => uptoBulk d + 1
 end
def uptoSmall : (H : Type) → List (DataW H) → Bool := fun _ ds => decide (uptoBulkAll ds ≤ 1048576)
def OpenSpec.upto (s : _root_.Go.ChangeSpec) : _root_.Go.OpenSpec := { _root_.Go.OpenSpec.ofChange s with cond := some uptoSmall }

/-- 'laws.FnExactConstants', WHERE WHAT IT READS IS OF BULK AT MOST 1048576: true; the input reads as it did. -/
def fnExactConstantsUptoRow : OpenClaim := { program := "ythlefmkimbefnaa", sum := "9a40c2e625b91c56688497127cf93316b627632cd306635b6072db12234188e6", func := "loop.example/g00912/laws.FnExactConstants", spec := "fnExactConstants", apart := false, narrowed := true }
def FnExactConstantsUptoSaid : Prop := fnExactConstantsUptoRow.holds Try.pinned (OpenSpec.upto fnExactConstantsSpec)

/-- 'laws.FnExactCompareParts', WHERE WHAT IT READS IS OF BULK AT MOST 1048576: true; the input reads as it did. -/
def fnExactComparePartsUptoRow : OpenClaim := { program := "ythlefmkimbefnaa", sum := "9a40c2e625b91c56688497127cf93316b627632cd306635b6072db12234188e6", func := "loop.example/g00912/laws.FnExactCompareParts", spec := "fnExactCompareParts", apart := false, narrowed := true }
def FnExactComparePartsUptoSaid : Prop := fnExactComparePartsUptoRow.holds Try.pinned (OpenSpec.upto fnExactComparePartsSpec)

/-- 'laws.FnExactLowestPart', WHERE WHAT IT READS IS OF BULK AT MOST 1048576: true; the input reads as it did. -/
def fnExactLowestPartUptoRow : OpenClaim := { program := "ythlefmkimbefnaa", sum := "9a40c2e625b91c56688497127cf93316b627632cd306635b6072db12234188e6", func := "loop.example/g00912/laws.FnExactLowestPart", spec := "fnExactLowestPart", apart := false, narrowed := true }
def FnExactLowestPartUptoSaid : Prop := fnExactLowestPartUptoRow.holds Try.pinned (OpenSpec.upto fnExactLowestPartSpec)

/-- 'laws.FnExactAddParts', WHERE WHAT IT READS IS OF BULK AT MOST 1048576: true; the input reads as it did. -/
def fnExactAddPartsUptoRow : OpenClaim := { program := "ythlefmkimbefnaa", sum := "9a40c2e625b91c56688497127cf93316b627632cd306635b6072db12234188e6", func := "loop.example/g00912/laws.FnExactAddParts", spec := "fnExactAddParts", apart := false, narrowed := true }
def FnExactAddPartsUptoSaid : Prop := fnExactAddPartsUptoRow.holds Try.pinned (OpenSpec.upto fnExactAddPartsSpec)

/-- 'laws.FnExactRoundPart', WHERE WHAT IT READS IS OF BULK AT MOST 1048576: true; the input reads as it did. -/
def fnExactRoundPartUptoRow : OpenClaim := { program := "ythlefmkimbefnaa", sum := "9a40c2e625b91c56688497127cf93316b627632cd306635b6072db12234188e6", func := "loop.example/g00912/laws.FnExactRoundPart", spec := "fnExactRoundPart", apart := false, narrowed := true }
def FnExactRoundPartUptoSaid : Prop := fnExactRoundPartUptoRow.holds Try.pinned (OpenSpec.upto fnExactRoundPartSpec)

/-- 'laws.FnExactPercentOf', WHERE WHAT IT READS IS OF BULK AT MOST 1048576: true; the input reads as it did. -/
def fnExactPercentOfUptoRow : OpenClaim := { program := "ythlefmkimbefnaa", sum := "9a40c2e625b91c56688497127cf93316b627632cd306635b6072db12234188e6", func := "loop.example/g00912/laws.FnExactPercentOf", spec := "fnExactPercentOf", apart := false, narrowed := true }
def FnExactPercentOfUptoSaid : Prop := fnExactPercentOfUptoRow.holds Try.pinned (OpenSpec.upto fnExactPercentOfSpec)

/-- 'laws.FnExactSumPoints', WHERE WHAT IT READS IS OF BULK AT MOST 1048576: true; the input reads as it did. -/
def fnExactSumPointsUptoRow : OpenClaim := { program := "ythlefmkimbefnaa", sum := "9a40c2e625b91c56688497127cf93316b627632cd306635b6072db12234188e6", func := "loop.example/g00912/laws.FnExactSumPoints", spec := "fnExactSumPoints", apart := false, narrowed := true }
def FnExactSumPointsUptoSaid : Prop := fnExactSumPointsUptoRow.holds Try.pinned (OpenSpec.upto fnExactSumPointsSpec)

/-- 'laws.FnExactPlaceOfPoints', WHERE WHAT IT READS IS OF BULK AT MOST 1048576: true; the input reads as it did. -/
def fnExactPlaceOfPointsUptoRow : OpenClaim := { program := "ythlefmkimbefnaa", sum := "9a40c2e625b91c56688497127cf93316b627632cd306635b6072db12234188e6", func := "loop.example/g00912/laws.FnExactPlaceOfPoints", spec := "fnExactPlaceOfPoints", apart := false, narrowed := true }
def FnExactPlaceOfPointsUptoSaid : Prop := fnExactPlaceOfPointsUptoRow.holds Try.pinned (OpenSpec.upto fnExactPlaceOfPointsSpec)

/-- 'laws.FnExactMeanPoints', WHERE WHAT IT READS IS OF BULK AT MOST 1048576: true; the input reads as it did. -/
def fnExactMeanPointsUptoRow : OpenClaim := { program := "ythlefmkimbefnaa", sum := "9a40c2e625b91c56688497127cf93316b627632cd306635b6072db12234188e6", func := "loop.example/g00912/laws.FnExactMeanPoints", spec := "fnExactMeanPoints", apart := false, narrowed := true }
def FnExactMeanPointsUptoSaid : Prop := fnExactMeanPointsUptoRow.holds Try.pinned (OpenSpec.upto fnExactMeanPointsSpec)

/-- 'laws.FnExactSortedPoints', WHERE WHAT IT READS IS OF BULK AT MOST 1048576: true; the input reads as it did. -/
def fnExactSortedPointsUptoRow : OpenClaim := { program := "ythlefmkimbefnaa", sum := "9a40c2e625b91c56688497127cf93316b627632cd306635b6072db12234188e6", func := "loop.example/g00912/laws.FnExactSortedPoints", spec := "fnExactSortedPoints", recurses := true, apart := false, narrowed := true }
def FnExactSortedPointsUptoSaid : Prop := fnExactSortedPointsUptoRow.holds Try.pinned (OpenSpec.upto fnExactSortedPointsSpec)

/-- 'laws.FnParts', WHERE WHAT IT READS IS OF BULK AT MOST 1048576: true; the input reads as it did. -/
def fnPartsUptoRow : OpenClaim := { program := "ythlefmkimbefnaa", sum := "9a40c2e625b91c56688497127cf93316b627632cd306635b6072db12234188e6", func := "loop.example/g00912/laws.FnParts", spec := "fnParts", apart := false, narrowed := true }
def FnPartsUptoSaid : Prop := fnPartsUptoRow.holds Try.pinned (OpenSpec.upto fnPartsSpec)

end Rows
end Go.Proofs.Ythlefmkimbefnaa
