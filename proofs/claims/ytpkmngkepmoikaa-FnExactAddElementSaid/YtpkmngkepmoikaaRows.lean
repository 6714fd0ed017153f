/-
  No cell of these rows narrows 'for every input' (looked for: loops, veiled, ifaces, maps, wideKeys, modest, calm, conditions, laid).
  DERIVED. THE GIVEN ROWS OF THIS SEAT. 5 by the template 'for every input the law returns true; each argument reads behind the call as it read before'; 0 by the template 'total and deterministic' (their statements: YtpkmngkepmoikaaTotals.lean).
  GIVEN WITH THE SEED: the statements are not yours to turn. If you find one false, say at which input.
  Laid BY PROGRAM, IN A SANDBOX (cutbox-rows.mjs): the forced cells as the released guide's own fill.sh prints them over the translation 3f4db169470def20… (all of the seat's roots in one cut). By AI agents, Wed Nov 11 2026. No macro, syntax, notation, axiom, sorry.
-/
import Derived.Test.YtpkmngkepmoikaaChecked
import GoSem.Claim
import GoSem.ClaimJoined
import GoSem.ClaimMapViews
import Derived.JoinedTies
import Derived.KernelRfl
namespace Go.Proofs.Ytpkmngkepmoikaa
/- THE CELL 'sum', in the pinned program and in every row, IS THE sha256 OF THE DUMP (.gsa) THAT YtpkmngkepmoikaaProg.lean LOADS. Nothing in Lean hashes anything: it is a label: what it is worth is what the hold of that sum in a sandbox is worth. -/
noncomputable def Try.pinned : Pinned := { name := "ytpkmngkepmoikaa", sum := "3f4db169470def20cdf7164b6076080dde2131d5c3332be44a1e373a41496444", checked := Try.checked }
namespace Rows
def none {H : Type} : Left H := { results := [], args := [] }

/-- 'laws.FnExactAddElement': WHATEVER THE INPUT: true; the input reads as it did. -/
def fnExactAddElementSpec : ChangeSpec := { name := "fnExactAddElement", fn := fun _ => fun
  | [d1, d2] => { results := [.lit (.bool true)], args := [d1, d2] }
  | _ => none }
def fnExactAddElementRow : OpenClaim := { program := "ytpkmngkepmoikaa", sum := "3f4db169470def20cdf7164b6076080dde2131d5c3332be44a1e373a41496444", func := "loop.example/g00912/laws.FnExactAddElement", spec := "fnExactAddElement", inPlace := ["slices.overlaps[loop.example/g00912/impl.Element]"], apart := false }
def FnExactAddElementSaid : Prop := fnExactAddElementRow.holds Try.pinned (OpenSpec.ofChange fnExactAddElementSpec)

/-- ITS FALSE NEIGHBOUR: 'it returns false'. Refute it at one input. -/
def fnExactAddElementWrong : ChangeSpec := { name := "fnExactAddElement", fn := fun _ => fun
  | [d1, d2] => { results := [.lit (.bool false)], args := [d1, d2] }
  | _ => none }
def FnExactAddElementWrongFalsely : Prop := fnExactAddElementRow.holds Try.pinned (OpenSpec.ofChange fnExactAddElementWrong)

/-- 'laws.FnExactSortedPoints': WHATEVER THE INPUT: true; the input reads as it did. -/
def fnExactSortedPointsSpec : ChangeSpec := { name := "fnExactSortedPoints", fn := fun _ => fun
  | [d] => { results := [.lit (.bool true)], args := [d] }
  | _ => none }
def fnExactSortedPointsRow : OpenClaim := { program := "ytpkmngkepmoikaa", sum := "3f4db169470def20cdf7164b6076080dde2131d5c3332be44a1e373a41496444", func := "loop.example/g00912/laws.FnExactSortedPoints", spec := "fnExactSortedPoints", recurses := true, apart := false }
def FnExactSortedPointsSaid : Prop := fnExactSortedPointsRow.holds Try.pinned (OpenSpec.ofChange fnExactSortedPointsSpec)

/-- ITS FALSE NEIGHBOUR: 'it returns false'. Refute it at one input. -/
def fnExactSortedPointsWrong : ChangeSpec := { name := "fnExactSortedPoints", fn := fun _ => fun
  | [d] => { results := [.lit (.bool false)], args := [d] }
  | _ => none }
def FnExactSortedPointsWrongFalsely : Prop := fnExactSortedPointsRow.holds Try.pinned (OpenSpec.ofChange fnExactSortedPointsWrong)

/-- 'laws.FnExactItemBase': WHATEVER THE INPUT: true; the input reads as it did. -/
def fnExactItemBaseSpec : ChangeSpec := { name := "fnExactItemBase", fn := fun _ => fun
  | [d1, d2, d3] => { results := [.lit (.bool true)], args := [d1, d2, d3] }
  | _ => none }
def fnExactItemBaseRow : OpenClaim := { program := "ytpkmngkepmoikaa", sum := "3f4db169470def20cdf7164b6076080dde2131d5c3332be44a1e373a41496444", func := "loop.example/g00912/laws.FnExactItemBase", spec := "fnExactItemBase", unfollowed := true, recurses := true, apart := false }
def FnExactItemBaseSaid : Prop := fnExactItemBaseRow.holds Try.pinned (OpenSpec.ofChange fnExactItemBaseSpec)

/-- ITS FALSE NEIGHBOUR: 'it returns false'. Refute it at one input. -/
def fnExactItemBaseWrong : ChangeSpec := { name := "fnExactItemBase", fn := fun _ => fun
  | [d1, d2, d3] => { results := [.lit (.bool false)], args := [d1, d2, d3] }
  | _ => none }
def FnExactItemBaseWrongFalsely : Prop := fnExactItemBaseRow.holds Try.pinned (OpenSpec.ofChange fnExactItemBaseWrong)

/-- 'laws.FnExactProgrammeBase': WHATEVER THE INPUT: true; the input reads as it did. -/
def fnExactProgrammeBaseSpec : ChangeSpec := { name := "fnExactProgrammeBase", fn := fun _ => fun
  | [d1, d2] => { results := [.lit (.bool true)], args := [d1, d2] }
  | _ => none }
def fnExactProgrammeBaseRow : OpenClaim := { program := "ytpkmngkepmoikaa", sum := "3f4db169470def20cdf7164b6076080dde2131d5c3332be44a1e373a41496444", func := "loop.example/g00912/laws.FnExactProgrammeBase", spec := "fnExactProgrammeBase", unfollowed := true, recurses := true, apart := false }
def FnExactProgrammeBaseSaid : Prop := fnExactProgrammeBaseRow.holds Try.pinned (OpenSpec.ofChange fnExactProgrammeBaseSpec)

/-- ITS FALSE NEIGHBOUR: 'it returns false'. Refute it at one input. -/
def fnExactProgrammeBaseWrong : ChangeSpec := { name := "fnExactProgrammeBase", fn := fun _ => fun
  | [d1, d2] => { results := [.lit (.bool false)], args := [d1, d2] }
  | _ => none }
def FnExactProgrammeBaseWrongFalsely : Prop := fnExactProgrammeBaseRow.holds Try.pinned (OpenSpec.ofChange fnExactProgrammeBaseWrong)

/-- 'laws.FnExactBaseValues': WHATEVER THE INPUT: true; the input reads as it did. -/
def fnExactBaseValuesSpec : ChangeSpec := { name := "fnExactBaseValues", fn := fun _ => fun
  | [d1, d2] => { results := [.lit (.bool true)], args := [d1, d2] }
  | _ => none }
def fnExactBaseValuesRow : OpenClaim := { program := "ytpkmngkepmoikaa", sum := "3f4db169470def20cdf7164b6076080dde2131d5c3332be44a1e373a41496444", func := "loop.example/g00912/laws.FnExactBaseValues", spec := "fnExactBaseValues", unfollowed := true, recurses := true, apart := false }
def FnExactBaseValuesSaid : Prop := fnExactBaseValuesRow.holds Try.pinned (OpenSpec.ofChange fnExactBaseValuesSpec)

/-- ITS FALSE NEIGHBOUR: 'it returns false'. Refute it at one input. -/
def fnExactBaseValuesWrong : ChangeSpec := { name := "fnExactBaseValues", fn := fun _ => fun
  | [d1, d2] => { results := [.lit (.bool false)], args := [d1, d2] }
  | _ => none }
def FnExactBaseValuesWrongFalsely : Prop := fnExactBaseValuesRow.holds Try.pinned (OpenSpec.ofChange fnExactBaseValuesWrong)

/- THE SECOND FORM. 'bulk': how many values and letters a reading holds, each counted each time it is reached (what is shared counts as often as it is met; a slice's spare places count too). A statement '..UptoSaid' is the law's where the arguments, and the package variables that the reading takes, are together of bulk at most 1048576: NARROWER than '..Said'. Prove '..Said' where nothing that the law and all that it calls make is longer than what came in: it says more and counts as full. Else prove '..UptoSaid'. A law counts once. -/
mutual
def uptoBulk {H : Type} : DataW H → Nat
  | .lit (.string bytes) => bytes.length + 1
  | .lit _ => 1
  | .nil => 1
  | .ptr d => uptoBulk d + 1
  | .slice elems spare => uptoBulkAll elems + uptoBulkAll spare + 1
  | .agg parts => uptoBulkAll parts + 1
  | .iface _ d => uptoBulk d + 1
  | .map entries => uptoBulkEntries entries + 1
  | .held _ => 1
def uptoBulkAll {H : Type} : List (DataW H) → Nat
  | [] => 0
  | d :: r => uptoBulk d + uptoBulkAll r
def uptoBulkEntries {H : Type} : List (Lit × DataW H) → Nat
  | [] => 0
  | x :: r => uptoBulkEntry x + uptoBulkEntries r
def uptoBulkEntry {H : Type} : Lit × DataW H → Nat
  | (.string bytes, d) => bytes.length + uptoBulk d + 1
  | (_, d) => uptoBulk d + 1
 end
def uptoSmall : (H : Type) → List (DataW H) → Bool := fun _ ds => decide (uptoBulkAll ds ≤ 1048576)
def OpenSpec.upto (s : _root_.Go.ChangeSpec) : _root_.Go.OpenSpec := { _root_.Go.OpenSpec.ofChange s with cond := some uptoSmall }

/-- 'laws.FnExactAddElement', WHERE WHAT IT READS IS OF BULK AT MOST 1048576: true; the input reads as it did. -/
def fnExactAddElementUptoRow : OpenClaim := { program := "ytpkmngkepmoikaa", sum := "3f4db169470def20cdf7164b6076080dde2131d5c3332be44a1e373a41496444", func := "loop.example/g00912/laws.FnExactAddElement", spec := "fnExactAddElement", inPlace := ["slices.overlaps[loop.example/g00912/impl.Element]"], apart := false, narrowed := true }
def FnExactAddElementUptoSaid : Prop := fnExactAddElementUptoRow.holds Try.pinned (OpenSpec.upto fnExactAddElementSpec)

/-- 'laws.FnExactSortedPoints', WHERE WHAT IT READS IS OF BULK AT MOST 1048576: true; the input reads as it did. -/
def fnExactSortedPointsUptoRow : OpenClaim := { program := "ytpkmngkepmoikaa", sum := "3f4db169470def20cdf7164b6076080dde2131d5c3332be44a1e373a41496444", func := "loop.example/g00912/laws.FnExactSortedPoints", spec := "fnExactSortedPoints", recurses := true, apart := false, narrowed := true }
def FnExactSortedPointsUptoSaid : Prop := fnExactSortedPointsUptoRow.holds Try.pinned (OpenSpec.upto fnExactSortedPointsSpec)

/-- 'laws.FnExactItemBase', WHERE WHAT IT READS IS OF BULK AT MOST 1048576: true; the input reads as it did. -/
def fnExactItemBaseUptoRow : OpenClaim := { program := "ytpkmngkepmoikaa", sum := "3f4db169470def20cdf7164b6076080dde2131d5c3332be44a1e373a41496444", func := "loop.example/g00912/laws.FnExactItemBase", spec := "fnExactItemBase", unfollowed := true, recurses := true, apart := false, narrowed := true }
def FnExactItemBaseUptoSaid : Prop := fnExactItemBaseUptoRow.holds Try.pinned (OpenSpec.upto fnExactItemBaseSpec)

/-- 'laws.FnExactProgrammeBase', WHERE WHAT IT READS IS OF BULK AT MOST 1048576: true; the input reads as it did. -/
def fnExactProgrammeBaseUptoRow : OpenClaim := { program := "ytpkmngkepmoikaa", sum := "3f4db169470def20cdf7164b6076080dde2131d5c3332be44a1e373a41496444", func := "loop.example/g00912/laws.FnExactProgrammeBase", spec := "fnExactProgrammeBase", unfollowed := true, recurses := true, apart := false, narrowed := true }
def FnExactProgrammeBaseUptoSaid : Prop := fnExactProgrammeBaseUptoRow.holds Try.pinned (OpenSpec.upto fnExactProgrammeBaseSpec)

/-- 'laws.FnExactBaseValues', WHERE WHAT IT READS IS OF BULK AT MOST 1048576: true; the input reads as it did. -/
def fnExactBaseValuesUptoRow : OpenClaim := { program := "ytpkmngkepmoikaa", sum := "3f4db169470def20cdf7164b6076080dde2131d5c3332be44a1e373a41496444", func := "loop.example/g00912/laws.FnExactBaseValues", spec := "fnExactBaseValues", unfollowed := true, recurses := true, apart := false, narrowed := true }
def FnExactBaseValuesUptoSaid : Prop := fnExactBaseValuesUptoRow.holds Try.pinned (OpenSpec.upto fnExactBaseValuesSpec)

end Rows
end Go.Proofs.Ytpkmngkepmoikaa
