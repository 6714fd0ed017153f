/-
  No cell of these rows narrows 'for every input' (looked for: loops, veiled, ifaces, maps, wideKeys, modest, calm, conditions, laid).
  DERIVED. THE GIVEN ROWS OF THIS SEAT. 14 by the template 'for every input the law returns true; each argument reads behind the call as it read before'; 0 by the template 'total and deterministic' (their statements: YthadbgeafcepoaaTotals.lean).
  GIVEN WITH THE SEED: the statements are not yours to turn. If you find one false, say at which input.
  Laid BY PROGRAM, IN A SANDBOX (cutbox-rows.mjs): the forced cells as the released guide's own fill.sh prints them over the translation 439ef3f8cb1ff691… (all of the seat's roots in one cut). By AI agents, Wed Nov 11 2026. No macro, syntax, notation, axiom, sorry.
-/
import Derived.Test.YthadbgeafcepoaaChecked
import GoSem.Claim
import GoSem.ClaimJoined
import GoSem.ClaimMapViews
import Derived.JoinedTies
import Derived.KernelRfl
namespace Go.Proofs.Ythadbgeafcepoaa
/- THE CELL 'sum', in the pinned program and in every row, IS THE sha256 OF THE DUMP (.gsa) THAT YthadbgeafcepoaaProg.lean LOADS. Nothing in Lean hashes anything: it is a label: what it is worth is what the hold of that sum in a sandbox is worth. -/
noncomputable def Try.pinned : Pinned := { name := "ythadbgeafcepoaa", sum := "439ef3f8cb1ff691361608de8c2fdcba721d8affca94392f72892f24406a204f", checked := Try.checked }
namespace Rows
def none {H : Type} : Left H := { results := [], args := [] }

/-- 'laws.FnExactAddElement': WHATEVER THE INPUT: true; the input reads as it did. -/
def fnExactAddElementSpec : ChangeSpec := { name := "fnExactAddElement", fn := fun _ => fun
  | [d1, d2] => { results := [.lit (.bool true)], args := [d1, d2] }
  | _ => none }
def fnExactAddElementRow : OpenClaim := { program := "ythadbgeafcepoaa", sum := "439ef3f8cb1ff691361608de8c2fdcba721d8affca94392f72892f24406a204f", func := "loop.example/g00912/laws.FnExactAddElement", spec := "fnExactAddElement", inPlace := ["slices.overlaps[loop.example/g00912/impl.Element]"], apart := false }
def FnExactAddElementSaid : Prop := fnExactAddElementRow.holds Try.pinned (OpenSpec.ofChange fnExactAddElementSpec)

/-- ITS FALSE NEIGHBOUR: 'it returns false'. Refute it at one input. -/
def fnExactAddElementWrong : ChangeSpec := { name := "fnExactAddElement", fn := fun _ => fun
  | [d1, d2] => { results := [.lit (.bool false)], args := [d1, d2] }
  | _ => none }
def FnExactAddElementWrongFalsely : Prop := fnExactAddElementRow.holds Try.pinned (OpenSpec.ofChange fnExactAddElementWrong)

/-- 'laws.FnExactFamilyOf': WHATEVER THE INPUT: true; the input reads as it did. -/
def fnExactFamilyOfSpec : ChangeSpec := { name := "fnExactFamilyOf", fn := fun _ => fun
  | [d1, d2] => { results := [.lit (.bool true)], args := [d1, d2] }
  | _ => none }
def fnExactFamilyOfRow : OpenClaim := { program := "ythadbgeafcepoaa", sum := "439ef3f8cb1ff691361608de8c2fdcba721d8affca94392f72892f24406a204f", func := "loop.example/g00912/laws.FnExactFamilyOf", spec := "fnExactFamilyOf", unfollowed := true, recurses := true, apart := false }
def FnExactFamilyOfSaid : Prop := fnExactFamilyOfRow.holds Try.pinned (OpenSpec.ofChange fnExactFamilyOfSpec)

/-- ITS FALSE NEIGHBOUR: 'it returns false'. Refute it at one input. -/
def fnExactFamilyOfWrong : ChangeSpec := { name := "fnExactFamilyOf", fn := fun _ => fun
  | [d1, d2] => { results := [.lit (.bool false)], args := [d1, d2] }
  | _ => none }
def FnExactFamilyOfWrongFalsely : Prop := fnExactFamilyOfRow.holds Try.pinned (OpenSpec.ofChange fnExactFamilyOfWrong)

/-- 'laws.FnExactItemFamily': WHATEVER THE INPUT: true; the input reads as it did. -/
def fnExactItemFamilySpec : ChangeSpec := { name := "fnExactItemFamily", fn := fun _ => fun
  | [d1, d2] => { results := [.lit (.bool true)], args := [d1, d2] }
  | _ => none }
def fnExactItemFamilyRow : OpenClaim := { program := "ythadbgeafcepoaa", sum := "439ef3f8cb1ff691361608de8c2fdcba721d8affca94392f72892f24406a204f", func := "loop.example/g00912/laws.FnExactItemFamily", spec := "fnExactItemFamily", unfollowed := true, recurses := true, apart := false }
def FnExactItemFamilySaid : Prop := fnExactItemFamilyRow.holds Try.pinned (OpenSpec.ofChange fnExactItemFamilySpec)

/-- ITS FALSE NEIGHBOUR: 'it returns false'. Refute it at one input. -/
def fnExactItemFamilyWrong : ChangeSpec := { name := "fnExactItemFamily", fn := fun _ => fun
  | [d1, d2] => { results := [.lit (.bool false)], args := [d1, d2] }
  | _ => none }
def FnExactItemFamilyWrongFalsely : Prop := fnExactItemFamilyRow.holds Try.pinned (OpenSpec.ofChange fnExactItemFamilyWrong)

/-- 'laws.FnExactKnowsItems': WHATEVER THE INPUT: true; the input reads as it did. -/
def fnExactKnowsItemsSpec : ChangeSpec := { name := "fnExactKnowsItems", fn := fun _ => fun
  | [d1, d2] => { results := [.lit (.bool true)], args := [d1, d2] }
  | _ => none }
def fnExactKnowsItemsRow : OpenClaim := { program := "ythadbgeafcepoaa", sum := "439ef3f8cb1ff691361608de8c2fdcba721d8affca94392f72892f24406a204f", func := "loop.example/g00912/laws.FnExactKnowsItems", spec := "fnExactKnowsItems", unfollowed := true, recurses := true, apart := false }
def FnExactKnowsItemsSaid : Prop := fnExactKnowsItemsRow.holds Try.pinned (OpenSpec.ofChange fnExactKnowsItemsSpec)

/-- ITS FALSE NEIGHBOUR: 'it returns false'. Refute it at one input. -/
def fnExactKnowsItemsWrong : ChangeSpec := { name := "fnExactKnowsItems", fn := fun _ => fun
  | [d1, d2] => { results := [.lit (.bool false)], args := [d1, d2] }
  | _ => none }
def FnExactKnowsItemsWrongFalsely : Prop := fnExactKnowsItemsRow.holds Try.pinned (OpenSpec.ofChange fnExactKnowsItemsWrong)

/-- 'laws.FnExactRepeatsOf': WHATEVER THE INPUT: true; the input reads as it did. -/
def fnExactRepeatsOfSpec : ChangeSpec := { name := "fnExactRepeatsOf", fn := fun _ => fun
  | [d1, d2, d3] => { results := [.lit (.bool true)], args := [d1, d2, d3] }
  | _ => none }
def fnExactRepeatsOfRow : OpenClaim := { program := "ythadbgeafcepoaa", sum := "439ef3f8cb1ff691361608de8c2fdcba721d8affca94392f72892f24406a204f", func := "loop.example/g00912/laws.FnExactRepeatsOf", spec := "fnExactRepeatsOf", unfollowed := true, recurses := true, apart := false }
def FnExactRepeatsOfSaid : Prop := fnExactRepeatsOfRow.holds Try.pinned (OpenSpec.ofChange fnExactRepeatsOfSpec)

/-- ITS FALSE NEIGHBOUR: 'it returns false'. Refute it at one input. -/
def fnExactRepeatsOfWrong : ChangeSpec := { name := "fnExactRepeatsOf", fn := fun _ => fun
  | [d1, d2, d3] => { results := [.lit (.bool false)], args := [d1, d2, d3] }
  | _ => none }
def FnExactRepeatsOfWrongFalsely : Prop := fnExactRepeatsOfRow.holds Try.pinned (OpenSpec.ofChange fnExactRepeatsOfWrong)

/-- 'laws.FnExactFullBase': WHATEVER THE INPUT: true; the input reads as it did. -/
def fnExactFullBaseSpec : ChangeSpec := { name := "fnExactFullBase", fn := fun _ => fun
  | [d1, d2] => { results := [.lit (.bool true)], args := [d1, d2] }
  | _ => none }
def fnExactFullBaseRow : OpenClaim := { program := "ythadbgeafcepoaa", sum := "439ef3f8cb1ff691361608de8c2fdcba721d8affca94392f72892f24406a204f", func := "loop.example/g00912/laws.FnExactFullBase", spec := "fnExactFullBase", unfollowed := true, recurses := true, apart := false }
def FnExactFullBaseSaid : Prop := fnExactFullBaseRow.holds Try.pinned (OpenSpec.ofChange fnExactFullBaseSpec)

/-- ITS FALSE NEIGHBOUR: 'it returns false'. Refute it at one input. -/
def fnExactFullBaseWrong : ChangeSpec := { name := "fnExactFullBase", fn := fun _ => fun
  | [d1, d2] => { results := [.lit (.bool false)], args := [d1, d2] }
  | _ => none }
def FnExactFullBaseWrongFalsely : Prop := fnExactFullBaseRow.holds Try.pinned (OpenSpec.ofChange fnExactFullBaseWrong)

/-- 'laws.FnExactFamilyCounts': WHATEVER THE INPUT: true; the input reads as it did. -/
def fnExactFamilyCountsSpec : ChangeSpec := { name := "fnExactFamilyCounts", fn := fun _ => fun
  | [d1, d2] => { results := [.lit (.bool true)], args := [d1, d2] }
  | _ => none }
def fnExactFamilyCountsRow : OpenClaim := { program := "ythadbgeafcepoaa", sum := "439ef3f8cb1ff691361608de8c2fdcba721d8affca94392f72892f24406a204f", func := "loop.example/g00912/laws.FnExactFamilyCounts", spec := "fnExactFamilyCounts", unfollowed := true, recurses := true, apart := false }
def FnExactFamilyCountsSaid : Prop := fnExactFamilyCountsRow.holds Try.pinned (OpenSpec.ofChange fnExactFamilyCountsSpec)

/-- ITS FALSE NEIGHBOUR: 'it returns false'. Refute it at one input. -/
def fnExactFamilyCountsWrong : ChangeSpec := { name := "fnExactFamilyCounts", fn := fun _ => fun
  | [d1, d2] => { results := [.lit (.bool false)], args := [d1, d2] }
  | _ => none }
def FnExactFamilyCountsWrongFalsely : Prop := fnExactFamilyCountsRow.holds Try.pinned (OpenSpec.ofChange fnExactFamilyCountsWrong)

/-- 'laws.FnExactRoomIn': WHATEVER THE INPUT: true; the input reads as it did. -/
def fnExactRoomInSpec : ChangeSpec := { name := "fnExactRoomIn", fn := fun _ => fun
  | [d1, d2] => { results := [.lit (.bool true)], args := [d1, d2] }
  | _ => none }
def fnExactRoomInRow : OpenClaim := { program := "ythadbgeafcepoaa", sum := "439ef3f8cb1ff691361608de8c2fdcba721d8affca94392f72892f24406a204f", func := "loop.example/g00912/laws.FnExactRoomIn", spec := "fnExactRoomIn", unfollowed := true, recurses := true, apart := false }
def FnExactRoomInSaid : Prop := fnExactRoomInRow.holds Try.pinned (OpenSpec.ofChange fnExactRoomInSpec)

/-- ITS FALSE NEIGHBOUR: 'it returns false'. Refute it at one input. -/
def fnExactRoomInWrong : ChangeSpec := { name := "fnExactRoomIn", fn := fun _ => fun
  | [d1, d2] => { results := [.lit (.bool false)], args := [d1, d2] }
  | _ => none }
def FnExactRoomInWrongFalsely : Prop := fnExactRoomInRow.holds Try.pinned (OpenSpec.ofChange fnExactRoomInWrong)

/-- 'laws.FnExactLateGain': WHATEVER THE INPUT: true; the input reads as it did. -/
def fnExactLateGainSpec : ChangeSpec := { name := "fnExactLateGain", fn := fun _ => fun
  | [d1, d2, d3] => { results := [.lit (.bool true)], args := [d1, d2, d3] }
  | _ => none }
def fnExactLateGainRow : OpenClaim := { program := "ythadbgeafcepoaa", sum := "439ef3f8cb1ff691361608de8c2fdcba721d8affca94392f72892f24406a204f", func := "loop.example/g00912/laws.FnExactLateGain", spec := "fnExactLateGain", unfollowed := true, recurses := true, apart := false }
def FnExactLateGainSaid : Prop := fnExactLateGainRow.holds Try.pinned (OpenSpec.ofChange fnExactLateGainSpec)

/-- ITS FALSE NEIGHBOUR: 'it returns false'. Refute it at one input. -/
def fnExactLateGainWrong : ChangeSpec := { name := "fnExactLateGain", fn := fun _ => fun
  | [d1, d2, d3] => { results := [.lit (.bool false)], args := [d1, d2, d3] }
  | _ => none }
def FnExactLateGainWrongFalsely : Prop := fnExactLateGainRow.holds Try.pinned (OpenSpec.ofChange fnExactLateGainWrong)

/-- 'laws.FnExactItemBase': WHATEVER THE INPUT: true; the input reads as it did. -/
def fnExactItemBaseSpec : ChangeSpec := { name := "fnExactItemBase", fn := fun _ => fun
  | [d1, d2, d3] => { results := [.lit (.bool true)], args := [d1, d2, d3] }
  | _ => none }
def fnExactItemBaseRow : OpenClaim := { program := "ythadbgeafcepoaa", sum := "439ef3f8cb1ff691361608de8c2fdcba721d8affca94392f72892f24406a204f", func := "loop.example/g00912/laws.FnExactItemBase", spec := "fnExactItemBase", unfollowed := true, recurses := true, apart := false }
def FnExactItemBaseSaid : Prop := fnExactItemBaseRow.holds Try.pinned (OpenSpec.ofChange fnExactItemBaseSpec)

/-- ITS FALSE NEIGHBOUR: 'it returns false'. Refute it at one input. -/
def fnExactItemBaseWrong : ChangeSpec := { name := "fnExactItemBase", fn := fun _ => fun
  | [d1, d2, d3] => { results := [.lit (.bool false)], args := [d1, d2, d3] }
  | _ => none }
def FnExactItemBaseWrongFalsely : Prop := fnExactItemBaseRow.holds Try.pinned (OpenSpec.ofChange fnExactItemBaseWrong)

/-- 'laws.FnExactProgrammeBase': WHATEVER THE INPUT: true; the input reads as it did. -/
def fnExactProgrammeBaseSpec : ChangeSpec := { name := "fnExactProgrammeBase", fn := fun _ => fun
  | [d1, d2] => { results := [.lit (.bool true)], args := [d1, d2] }
  | _ => none }
def fnExactProgrammeBaseRow : OpenClaim := { program := "ythadbgeafcepoaa", sum := "439ef3f8cb1ff691361608de8c2fdcba721d8affca94392f72892f24406a204f", func := "loop.example/g00912/laws.FnExactProgrammeBase", spec := "fnExactProgrammeBase", unfollowed := true, recurses := true, apart := false }
def FnExactProgrammeBaseSaid : Prop := fnExactProgrammeBaseRow.holds Try.pinned (OpenSpec.ofChange fnExactProgrammeBaseSpec)

/-- ITS FALSE NEIGHBOUR: 'it returns false'. Refute it at one input. -/
def fnExactProgrammeBaseWrong : ChangeSpec := { name := "fnExactProgrammeBase", fn := fun _ => fun
  | [d1, d2] => { results := [.lit (.bool false)], args := [d1, d2] }
  | _ => none }
def FnExactProgrammeBaseWrongFalsely : Prop := fnExactProgrammeBaseRow.holds Try.pinned (OpenSpec.ofChange fnExactProgrammeBaseWrong)

/-- 'laws.FnExactBaseValues': WHATEVER THE INPUT: true; the input reads as it did. -/
def fnExactBaseValuesSpec : ChangeSpec := { name := "fnExactBaseValues", fn := fun _ => fun
  | [d1, d2] => { results := [.lit (.bool true)], args := [d1, d2] }
  | _ => none }
def fnExactBaseValuesRow : OpenClaim := { program := "ythadbgeafcepoaa", sum := "439ef3f8cb1ff691361608de8c2fdcba721d8affca94392f72892f24406a204f", func := "loop.example/g00912/laws.FnExactBaseValues", spec := "fnExactBaseValues", unfollowed := true, recurses := true, apart := false }
def FnExactBaseValuesSaid : Prop := fnExactBaseValuesRow.holds Try.pinned (OpenSpec.ofChange fnExactBaseValuesSpec)

/-- ITS FALSE NEIGHBOUR: 'it returns false'. Refute it at one input. -/
def fnExactBaseValuesWrong : ChangeSpec := { name := "fnExactBaseValues", fn := fun _ => fun
  | [d1, d2] => { results := [.lit (.bool false)], args := [d1, d2] }
  | _ => none }
def FnExactBaseValuesWrongFalsely : Prop := fnExactBaseValuesRow.holds Try.pinned (OpenSpec.ofChange fnExactBaseValuesWrong)

/-- 'laws.FnItemWorths': WHATEVER THE INPUT: true; the input reads as it did. -/
def fnItemWorthsSpec : ChangeSpec := { name := "fnItemWorths", fn := fun _ => fun
  | [d1, d2] => { results := [.lit (.bool true)], args := [d1, d2] }
  | _ => none }
def fnItemWorthsRow : OpenClaim := { program := "ythadbgeafcepoaa", sum := "439ef3f8cb1ff691361608de8c2fdcba721d8affca94392f72892f24406a204f", func := "loop.example/g00912/laws.FnItemWorths", spec := "fnItemWorths", unfollowed := true, recurses := true, apart := false }
def FnItemWorthsSaid : Prop := fnItemWorthsRow.holds Try.pinned (OpenSpec.ofChange fnItemWorthsSpec)

/-- ITS FALSE NEIGHBOUR: 'it returns false'. Refute it at one input. -/
def fnItemWorthsWrong : ChangeSpec := { name := "fnItemWorths", fn := fun _ => fun
  | [d1, d2] => { results := [.lit (.bool false)], args := [d1, d2] }
  | _ => none }
def FnItemWorthsWrongFalsely : Prop := fnItemWorthsRow.holds Try.pinned (OpenSpec.ofChange fnItemWorthsWrong)

/-- 'laws.FnElements': WHATEVER THE INPUT: true; the input reads as it did. -/
def fnElementsSpec : ChangeSpec := { name := "fnElements", fn := fun _ => fun
  | [d1, d2] => { results := [.lit (.bool true)], args := [d1, d2] }
  | _ => none }
def fnElementsRow : OpenClaim := { program := "ythadbgeafcepoaa", sum := "439ef3f8cb1ff691361608de8c2fdcba721d8affca94392f72892f24406a204f", func := "loop.example/g00912/laws.FnElements", spec := "fnElements", unfollowed := true, recurses := true, apart := false }
def FnElementsSaid : Prop := fnElementsRow.holds Try.pinned (OpenSpec.ofChange fnElementsSpec)

/-- ITS FALSE NEIGHBOUR: 'it returns false'. Refute it at one input. -/
def fnElementsWrong : ChangeSpec := { name := "fnElements", fn := fun _ => fun
  | [d1, d2] => { results := [.lit (.bool false)], args := [d1, d2] }
  | _ => none }
def FnElementsWrongFalsely : Prop := fnElementsRow.holds Try.pinned (OpenSpec.ofChange fnElementsWrong)

/- THE SECOND FORM. 'bulk': how many values and letters a reading holds, each counted each time it is reached (what is shared counts as often as it is met; a slice's spare places count too). A statement '..UptoSaid' is the law's where the arguments, and the package variables that the reading takes, are together of bulk at most 1048576: NARROWER than '..Said'. Prove '..Said' where nothing that the law and all that it calls make is longer than what came in: it says more and counts as full. Else prove '..UptoSaid'. A law counts once. -/
mutual
def uptoBulk {H : Type} : DataW H → Nat
  | .lit (.string bytes) => bytes.length + 1
  | .lit _ => 1
  | .nil => 1
  | .ptr d => uptoBulk d + 1
  | .slice elems spare => uptoBulkAll elems + uptoBulkAll spare + 1
  | .agg parts => uptoBulkAll parts + 1
  | .iface _ d => uptoBulk d + 1
  | .map entries => uptoBulkEntries entries + 1
  | .held _ => 1
def uptoBulkAll {H : Type} : List (DataW H) → Nat
  | [] => 0
  | d :: r => uptoBulk d + uptoBulkAll r
def uptoBulkEntries {H : Type} : List (Lit × DataW H) → Nat
  | [] => 0
  | x :: r => uptoBulkEntry x + uptoBulkEntries r
def uptoBulkEntry {H : Type} : Lit × DataW H → Nat
  | (.string bytes, d) => bytes.length + uptoBulk d + 1
  | (_, d) => uptoBulk d + 1
 end
def uptoSmall : (H : Type) → List (DataW H) → Bool := fun _ ds => decide (uptoBulkAll ds ≤ 1048576)
def OpenSpec.upto (s : _root_.Go.ChangeSpec) : _root_.Go.OpenSpec := { _root_.Go.OpenSpec.ofChange s with cond := some uptoSmall }

/-- 'laws.FnExactAddElement', WHERE WHAT IT READS IS OF BULK AT MOST 1048576: true; the input reads as it did. -/
def fnExactAddElementUptoRow : OpenClaim := { program := "ythadbgeafcepoaa", sum := "439ef3f8cb1ff691361608de8c2fdcba721d8affca94392f72892f24406a204f", func := "loop.example/g00912/laws.FnExactAddElement", spec := "fnExactAddElement", inPlace := ["slices.overlaps[loop.example/g00912/impl.Element]"], apart := false, narrowed := true }
def FnExactAddElementUptoSaid : Prop := fnExactAddElementUptoRow.holds Try.pinned (OpenSpec.upto fnExactAddElementSpec)

/-- 'laws.FnExactFamilyOf', WHERE WHAT IT READS IS OF BULK AT MOST 1048576: true; the input reads as it did. -/
def fnExactFamilyOfUptoRow : OpenClaim := { program := "ythadbgeafcepoaa", sum := "439ef3f8cb1ff691361608de8c2fdcba721d8affca94392f72892f24406a204f", func := "loop.example/g00912/laws.FnExactFamilyOf", spec := "fnExactFamilyOf", unfollowed := true, recurses := true, apart := false, narrowed := true }
def FnExactFamilyOfUptoSaid : Prop := fnExactFamilyOfUptoRow.holds Try.pinned (OpenSpec.upto fnExactFamilyOfSpec)

/-- 'laws.FnExactItemFamily', WHERE WHAT IT READS IS OF BULK AT MOST 1048576: true; the input reads as it did. -/
def fnExactItemFamilyUptoRow : OpenClaim := { program := "ythadbgeafcepoaa", sum := "439ef3f8cb1ff691361608de8c2fdcba721d8affca94392f72892f24406a204f", func := "loop.example/g00912/laws.FnExactItemFamily", spec := "fnExactItemFamily", unfollowed := true, recurses := true, apart := false, narrowed := true }
def FnExactItemFamilyUptoSaid : Prop := fnExactItemFamilyUptoRow.holds Try.pinned (OpenSpec.upto fnExactItemFamilySpec)

/-- 'laws.FnExactKnowsItems', WHERE WHAT IT READS IS OF BULK AT MOST 1048576: true; the input reads as it did. -/
def fnExactKnowsItemsUptoRow : OpenClaim := { program := "ythadbgeafcepoaa", sum := "439ef3f8cb1ff691361608de8c2fdcba721d8affca94392f72892f24406a204f", func := "loop.example/g00912/laws.FnExactKnowsItems", spec := "fnExactKnowsItems", unfollowed := true, recurses := true, apart := false, narrowed := true }
def FnExactKnowsItemsUptoSaid : Prop := fnExactKnowsItemsUptoRow.holds Try.pinned (OpenSpec.upto fnExactKnowsItemsSpec)

/-- 'laws.FnExactRepeatsOf', WHERE WHAT IT READS IS OF BULK AT MOST 1048576: true; the input reads as it did. -/
def fnExactRepeatsOfUptoRow : OpenClaim := { program := "ythadbgeafcepoaa", sum := "439ef3f8cb1ff691361608de8c2fdcba721d8affca94392f72892f24406a204f", func := "loop.example/g00912/laws.FnExactRepeatsOf", spec := "fnExactRepeatsOf", unfollowed := true, recurses := true, apart := false, narrowed := true }
def FnExactRepeatsOfUptoSaid : Prop := fnExactRepeatsOfUptoRow.holds Try.pinned (OpenSpec.upto fnExactRepeatsOfSpec)

/-- 'laws.FnExactFullBase', WHERE WHAT IT READS IS OF BULK AT MOST 1048576: true; the input reads as it did. -/
def fnExactFullBaseUptoRow : OpenClaim := { program := "ythadbgeafcepoaa", sum := "439ef3f8cb1ff691361608de8c2fdcba721d8affca94392f72892f24406a204f", func := "loop.example/g00912/laws.FnExactFullBase", spec := "fnExactFullBase", unfollowed := true, recurses := true, apart := false, narrowed := true }
def FnExactFullBaseUptoSaid : Prop := fnExactFullBaseUptoRow.holds Try.pinned (OpenSpec.upto fnExactFullBaseSpec)

/-- 'laws.FnExactFamilyCounts', WHERE WHAT IT READS IS OF BULK AT MOST 1048576: true; the input reads as it did. -/
def fnExactFamilyCountsUptoRow : OpenClaim := { program := "ythadbgeafcepoaa", sum := "439ef3f8cb1ff691361608de8c2fdcba721d8affca94392f72892f24406a204f", func := "loop.example/g00912/laws.FnExactFamilyCounts", spec := "fnExactFamilyCounts", unfollowed := true, recurses := true, apart := false, narrowed := true }
def FnExactFamilyCountsUptoSaid : Prop := fnExactFamilyCountsUptoRow.holds Try.pinned (OpenSpec.upto fnExactFamilyCountsSpec)

/-- 'laws.FnExactRoomIn', WHERE WHAT IT READS IS OF BULK AT MOST 1048576: true; the input reads as it did. -/
def fnExactRoomInUptoRow : OpenClaim := { program := "ythadbgeafcepoaa", sum := "439ef3f8cb1ff691361608de8c2fdcba721d8affca94392f72892f24406a204f", func := "loop.example/g00912/laws.FnExactRoomIn", spec := "fnExactRoomIn", unfollowed := true, recurses := true, apart := false, narrowed := true }
def FnExactRoomInUptoSaid : Prop := fnExactRoomInUptoRow.holds Try.pinned (OpenSpec.upto fnExactRoomInSpec)

/-- 'laws.FnExactLateGain', WHERE WHAT IT READS IS OF BULK AT MOST 1048576: true; the input reads as it did. -/
def fnExactLateGainUptoRow : OpenClaim := { program := "ythadbgeafcepoaa", sum := "439ef3f8cb1ff691361608de8c2fdcba721d8affca94392f72892f24406a204f", func := "loop.example/g00912/laws.FnExactLateGain", spec := "fnExactLateGain", unfollowed := true, recurses := true, apart := false, narrowed := true }
def FnExactLateGainUptoSaid : Prop := fnExactLateGainUptoRow.holds Try.pinned (OpenSpec.upto fnExactLateGainSpec)

/-- 'laws.FnExactItemBase', WHERE WHAT IT READS IS OF BULK AT MOST 1048576: true; the input reads as it did. -/
def fnExactItemBaseUptoRow : OpenClaim := { program := "ythadbgeafcepoaa", sum := "439ef3f8cb1ff691361608de8c2fdcba721d8affca94392f72892f24406a204f", func := "loop.example/g00912/laws.FnExactItemBase", spec := "fnExactItemBase", unfollowed := true, recurses := true, apart := false, narrowed := true }
def FnExactItemBaseUptoSaid : Prop := fnExactItemBaseUptoRow.holds Try.pinned (OpenSpec.upto fnExactItemBaseSpec)

/-- 'laws.FnExactProgrammeBase', WHERE WHAT IT READS IS OF BULK AT MOST 1048576: true; the input reads as it did. -/
def fnExactProgrammeBaseUptoRow : OpenClaim := { program := "ythadbgeafcepoaa", sum := "439ef3f8cb1ff691361608de8c2fdcba721d8affca94392f72892f24406a204f", func := "loop.example/g00912/laws.FnExactProgrammeBase", spec := "fnExactProgrammeBase", unfollowed := true, recurses := true, apart := false, narrowed := true }
def FnExactProgrammeBaseUptoSaid : Prop := fnExactProgrammeBaseUptoRow.holds Try.pinned (OpenSpec.upto fnExactProgrammeBaseSpec)

/-- 'laws.FnExactBaseValues', WHERE WHAT IT READS IS OF BULK AT MOST 1048576: true; the input reads as it did. -/
def fnExactBaseValuesUptoRow : OpenClaim := { program := "ythadbgeafcepoaa", sum := "439ef3f8cb1ff691361608de8c2fdcba721d8affca94392f72892f24406a204f", func := "loop.example/g00912/laws.FnExactBaseValues", spec := "fnExactBaseValues", unfollowed := true, recurses := true, apart := false, narrowed := true }
def FnExactBaseValuesUptoSaid : Prop := fnExactBaseValuesUptoRow.holds Try.pinned (OpenSpec.upto fnExactBaseValuesSpec)

/-- 'laws.FnItemWorths', WHERE WHAT IT READS IS OF BULK AT MOST 1048576: true; the input reads as it did. -/
def fnItemWorthsUptoRow : OpenClaim := { program := "ythadbgeafcepoaa", sum := "439ef3f8cb1ff691361608de8c2fdcba721d8affca94392f72892f24406a204f", func := "loop.example/g00912/laws.FnItemWorths", spec := "fnItemWorths", unfollowed := true, recurses := true, apart := false, narrowed := true }
def FnItemWorthsUptoSaid : Prop := fnItemWorthsUptoRow.holds Try.pinned (OpenSpec.upto fnItemWorthsSpec)

/-- 'laws.FnElements', WHERE WHAT IT READS IS OF BULK AT MOST 1048576: true; the input reads as it did. -/
def fnElementsUptoRow : OpenClaim := { program := "ythadbgeafcepoaa", sum := "439ef3f8cb1ff691361608de8c2fdcba721d8affca94392f72892f24406a204f", func := "loop.example/g00912/laws.FnElements", spec := "fnElements", unfollowed := true, recurses := true, apart := false, narrowed := true }
def FnElementsUptoSaid : Prop := fnElementsUptoRow.holds Try.pinned (OpenSpec.upto fnElementsSpec)

end Rows
end Go.Proofs.Ythadbgeafcepoaa
