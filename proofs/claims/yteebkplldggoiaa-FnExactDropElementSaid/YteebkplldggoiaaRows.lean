/-
  No cell of these rows narrows 'for every input' (looked for: loops, veiled, ifaces, maps, wideKeys, modest, calm, conditions, laid).
  DERIVED. THE GIVEN ROWS OF THIS SEAT. 10 by the template 'for every input the law returns true; each argument reads behind the call as it read before'; 0 by the template 'total and deterministic' (their statements: YteebkplldggoiaaTotals.lean).
  GIVEN WITH THE SEED: the statements are not yours to turn. If you find one false, say at which input.
  Laid BY PROGRAM, IN A SANDBOX (cutbox-rows.mjs): the forced cells as the released guide's own fill.sh prints them over the translation a34d8896da045275… (all of the seat's roots in one cut). By AI agents, Wed Nov 11 2026. No macro, syntax, notation, axiom, sorry.
-/
import Derived.Test.YteebkplldggoiaaChecked
import GoSem.Claim
import GoSem.ClaimJoined
import GoSem.ClaimMapViews
import Derived.JoinedTies
import Derived.KernelRfl
namespace Go.Proofs.Yteebkplldggoiaa
/- THE CELL 'sum', in the pinned program and in every row, IS THE sha256 OF THE DUMP (.gsa) THAT YteebkplldggoiaaProg.lean LOADS. Nothing in Lean hashes anything: it is a label: what it is worth is what the hold of that sum in a sandbox is worth. -/
noncomputable def Try.pinned : Pinned := { name := "yteebkplldggoiaa", sum := "a34d8896da045275ef462ada6572dfdb356916978b18d099c20f6039c01296c2", checked := Try.checked }
namespace Rows
def none {H : Type} : Left H := { results := [], args := [] }

/-- 'laws.FnExactIsCode': WHATEVER THE INPUT: true; the input reads as it did. -/
def fnExactIsCodeSpec : ChangeSpec := { name := "fnExactIsCode", fn := fun _ => fun
  | [d] => { results := [.lit (.bool true)], args := [d] }
  | _ => none }
def fnExactIsCodeRow : OpenClaim := { program := "yteebkplldggoiaa", sum := "a34d8896da045275ef462ada6572dfdb356916978b18d099c20f6039c01296c2", func := "loop.example/g00912/laws.FnExactIsCode", spec := "fnExactIsCode", apart := false }
def FnExactIsCodeSaid : Prop := fnExactIsCodeRow.holds Try.pinned (OpenSpec.ofChange fnExactIsCodeSpec)

/-- ITS FALSE NEIGHBOUR: 'it returns false'. Refute it at one input. -/
def fnExactIsCodeWrong : ChangeSpec := { name := "fnExactIsCode", fn := fun _ => fun
  | [d] => { results := [.lit (.bool false)], args := [d] }
  | _ => none }
def FnExactIsCodeWrongFalsely : Prop := fnExactIsCodeRow.holds Try.pinned (OpenSpec.ofChange fnExactIsCodeWrong)

/-- 'laws.FnExactGreatestBase': WHATEVER THE INPUT: true; the input reads as it did. -/
def fnExactGreatestBaseSpec : ChangeSpec := { name := "fnExactGreatestBase", fn := fun _ => fun
  | [d1, d2] => { results := [.lit (.bool true)], args := [d1, d2] }
  | _ => none }
def fnExactGreatestBaseRow : OpenClaim := { program := "yteebkplldggoiaa", sum := "a34d8896da045275ef462ada6572dfdb356916978b18d099c20f6039c01296c2", func := "loop.example/g00912/laws.FnExactGreatestBase", spec := "fnExactGreatestBase", apart := false }
def FnExactGreatestBaseSaid : Prop := fnExactGreatestBaseRow.holds Try.pinned (OpenSpec.ofChange fnExactGreatestBaseSpec)

/-- ITS FALSE NEIGHBOUR: 'it returns false'. Refute it at one input. -/
def fnExactGreatestBaseWrong : ChangeSpec := { name := "fnExactGreatestBase", fn := fun _ => fun
  | [d1, d2] => { results := [.lit (.bool false)], args := [d1, d2] }
  | _ => none }
def FnExactGreatestBaseWrongFalsely : Prop := fnExactGreatestBaseRow.holds Try.pinned (OpenSpec.ofChange fnExactGreatestBaseWrong)

/-- 'laws.FnExactFindElement': WHATEVER THE INPUT: true; the input reads as it did. -/
def fnExactFindElementSpec : ChangeSpec := { name := "fnExactFindElement", fn := fun _ => fun
  | [d1, d2] => { results := [.lit (.bool true)], args := [d1, d2] }
  | _ => none }
def fnExactFindElementRow : OpenClaim := { program := "yteebkplldggoiaa", sum := "a34d8896da045275ef462ada6572dfdb356916978b18d099c20f6039c01296c2", func := "loop.example/g00912/laws.FnExactFindElement", spec := "fnExactFindElement", unfollowed := true, recurses := true, apart := false }
def FnExactFindElementSaid : Prop := fnExactFindElementRow.holds Try.pinned (OpenSpec.ofChange fnExactFindElementSpec)

/-- ITS FALSE NEIGHBOUR: 'it returns false'. Refute it at one input. -/
def fnExactFindElementWrong : ChangeSpec := { name := "fnExactFindElement", fn := fun _ => fun
  | [d1, d2] => { results := [.lit (.bool false)], args := [d1, d2] }
  | _ => none }
def FnExactFindElementWrongFalsely : Prop := fnExactFindElementRow.holds Try.pinned (OpenSpec.ofChange fnExactFindElementWrong)

/-- 'laws.FnExactElementWorth': WHATEVER THE INPUT: true; the input reads as it did. -/
def fnExactElementWorthSpec : ChangeSpec := { name := "fnExactElementWorth", fn := fun _ => fun
  | [d1, d2, d3] => { results := [.lit (.bool true)], args := [d1, d2, d3] }
  | _ => none }
def fnExactElementWorthRow : OpenClaim := { program := "yteebkplldggoiaa", sum := "a34d8896da045275ef462ada6572dfdb356916978b18d099c20f6039c01296c2", func := "loop.example/g00912/laws.FnExactElementWorth", spec := "fnExactElementWorth", unfollowed := true, recurses := true, apart := false }
def FnExactElementWorthSaid : Prop := fnExactElementWorthRow.holds Try.pinned (OpenSpec.ofChange fnExactElementWorthSpec)

/-- ITS FALSE NEIGHBOUR: 'it returns false'. Refute it at one input. -/
def fnExactElementWorthWrong : ChangeSpec := { name := "fnExactElementWorth", fn := fun _ => fun
  | [d1, d2, d3] => { results := [.lit (.bool false)], args := [d1, d2, d3] }
  | _ => none }
def FnExactElementWorthWrongFalsely : Prop := fnExactElementWorthRow.holds Try.pinned (OpenSpec.ofChange fnExactElementWorthWrong)

/-- 'laws.FnExactLevelsOf': WHATEVER THE INPUT: true; the input reads as it did. -/
def fnExactLevelsOfSpec : ChangeSpec := { name := "fnExactLevelsOf", fn := fun _ => fun
  | [d1, d2] => { results := [.lit (.bool true)], args := [d1, d2] }
  | _ => none }
def fnExactLevelsOfRow : OpenClaim := { program := "yteebkplldggoiaa", sum := "a34d8896da045275ef462ada6572dfdb356916978b18d099c20f6039c01296c2", func := "loop.example/g00912/laws.FnExactLevelsOf", spec := "fnExactLevelsOf", apart := false }
def FnExactLevelsOfSaid : Prop := fnExactLevelsOfRow.holds Try.pinned (OpenSpec.ofChange fnExactLevelsOfSpec)

/-- ITS FALSE NEIGHBOUR: 'it returns false'. Refute it at one input. -/
def fnExactLevelsOfWrong : ChangeSpec := { name := "fnExactLevelsOf", fn := fun _ => fun
  | [d1, d2] => { results := [.lit (.bool false)], args := [d1, d2] }
  | _ => none }
def FnExactLevelsOfWrongFalsely : Prop := fnExactLevelsOfRow.holds Try.pinned (OpenSpec.ofChange fnExactLevelsOfWrong)

/-- 'laws.FnExactOfFamily': WHATEVER THE INPUT: true; the input reads as it did. -/
def fnExactOfFamilySpec : ChangeSpec := { name := "fnExactOfFamily", fn := fun _ => fun
  | [d1, d2] => { results := [.lit (.bool true)], args := [d1, d2] }
  | _ => none }
def fnExactOfFamilyRow : OpenClaim := { program := "yteebkplldggoiaa", sum := "a34d8896da045275ef462ada6572dfdb356916978b18d099c20f6039c01296c2", func := "loop.example/g00912/laws.FnExactOfFamily", spec := "fnExactOfFamily", unfollowed := true, recurses := true, apart := false }
def FnExactOfFamilySaid : Prop := fnExactOfFamilyRow.holds Try.pinned (OpenSpec.ofChange fnExactOfFamilySpec)

/-- ITS FALSE NEIGHBOUR: 'it returns false'. Refute it at one input. -/
def fnExactOfFamilyWrong : ChangeSpec := { name := "fnExactOfFamily", fn := fun _ => fun
  | [d1, d2] => { results := [.lit (.bool false)], args := [d1, d2] }
  | _ => none }
def FnExactOfFamilyWrongFalsely : Prop := fnExactOfFamilyRow.holds Try.pinned (OpenSpec.ofChange fnExactOfFamilyWrong)

/-- 'laws.FnExactScaleCode': WHATEVER THE INPUT: true; the input reads as it did. -/
def fnExactScaleCodeSpec : ChangeSpec := { name := "fnExactScaleCode", fn := fun _ => fun
  | [d1, d2] => { results := [.lit (.bool true)], args := [d1, d2] }
  | _ => none }
def fnExactScaleCodeRow : OpenClaim := { program := "yteebkplldggoiaa", sum := "a34d8896da045275ef462ada6572dfdb356916978b18d099c20f6039c01296c2", func := "loop.example/g00912/laws.FnExactScaleCode", spec := "fnExactScaleCode", apart := false }
def FnExactScaleCodeSaid : Prop := fnExactScaleCodeRow.holds Try.pinned (OpenSpec.ofChange fnExactScaleCodeSpec)

/-- ITS FALSE NEIGHBOUR: 'it returns false'. Refute it at one input. -/
def fnExactScaleCodeWrong : ChangeSpec := { name := "fnExactScaleCode", fn := fun _ => fun
  | [d1, d2] => { results := [.lit (.bool false)], args := [d1, d2] }
  | _ => none }
def FnExactScaleCodeWrongFalsely : Prop := fnExactScaleCodeRow.holds Try.pinned (OpenSpec.ofChange fnExactScaleCodeWrong)

/-- 'laws.FnExactDropElement': WHATEVER THE INPUT: true; the input reads as it did. -/
def fnExactDropElementSpec : ChangeSpec := { name := "fnExactDropElement", fn := fun _ => fun
  | [d1, d2] => { results := [.lit (.bool true)], args := [d1, d2] }
  | _ => none }
def fnExactDropElementRow : OpenClaim := { program := "yteebkplldggoiaa", sum := "a34d8896da045275ef462ada6572dfdb356916978b18d099c20f6039c01296c2", func := "loop.example/g00912/laws.FnExactDropElement", spec := "fnExactDropElement", unfollowed := true, recurses := true, apart := false }
def FnExactDropElementSaid : Prop := fnExactDropElementRow.holds Try.pinned (OpenSpec.ofChange fnExactDropElementSpec)

/-- ITS FALSE NEIGHBOUR: 'it returns false'. Refute it at one input. -/
def fnExactDropElementWrong : ChangeSpec := { name := "fnExactDropElement", fn := fun _ => fun
  | [d1, d2] => { results := [.lit (.bool false)], args := [d1, d2] }
  | _ => none }
def FnExactDropElementWrongFalsely : Prop := fnExactDropElementRow.holds Try.pinned (OpenSpec.ofChange fnExactDropElementWrong)

/-- 'laws.FnExactAddElement': WHATEVER THE INPUT: true; the input reads as it did. -/
def fnExactAddElementSpec : ChangeSpec := { name := "fnExactAddElement", fn := fun _ => fun
  | [d1, d2] => { results := [.lit (.bool true)], args := [d1, d2] }
  | _ => none }
def fnExactAddElementRow : OpenClaim := { program := "yteebkplldggoiaa", sum := "a34d8896da045275ef462ada6572dfdb356916978b18d099c20f6039c01296c2", func := "loop.example/g00912/laws.FnExactAddElement", spec := "fnExactAddElement", inPlace := ["slices.overlaps[loop.example/g00912/impl.Element]"], apart := false }
def FnExactAddElementSaid : Prop := fnExactAddElementRow.holds Try.pinned (OpenSpec.ofChange fnExactAddElementSpec)

/-- ITS FALSE NEIGHBOUR: 'it returns false'. Refute it at one input. -/
def fnExactAddElementWrong : ChangeSpec := { name := "fnExactAddElement", fn := fun _ => fun
  | [d1, d2] => { results := [.lit (.bool false)], args := [d1, d2] }
  | _ => none }
def FnExactAddElementWrongFalsely : Prop := fnExactAddElementRow.holds Try.pinned (OpenSpec.ofChange fnExactAddElementWrong)

/-- 'laws.FnElements': WHATEVER THE INPUT: true; the input reads as it did. -/
def fnElementsSpec : ChangeSpec := { name := "fnElements", fn := fun _ => fun
  | [d1, d2] => { results := [.lit (.bool true)], args := [d1, d2] }
  | _ => none }
def fnElementsRow : OpenClaim := { program := "yteebkplldggoiaa", sum := "a34d8896da045275ef462ada6572dfdb356916978b18d099c20f6039c01296c2", func := "loop.example/g00912/laws.FnElements", spec := "fnElements", unfollowed := true, recurses := true, apart := false }
def FnElementsSaid : Prop := fnElementsRow.holds Try.pinned (OpenSpec.ofChange fnElementsSpec)

/-- ITS FALSE NEIGHBOUR: 'it returns false'. Refute it at one input. -/
def fnElementsWrong : ChangeSpec := { name := "fnElements", fn := fun _ => fun
  | [d1, d2] => { results := [.lit (.bool false)], args := [d1, d2] }
  | _ => none }
def FnElementsWrongFalsely : Prop := fnElementsRow.holds Try.pinned (OpenSpec.ofChange fnElementsWrong)

/- THE SECOND FORM. 'bulk': how many values and letters a reading holds, each counted each time it is reached (what is shared counts as often as it is met; a slice's spare places count too). A statement '..UptoSaid' is the law's where the arguments, and the package variables that the reading takes, are together of bulk at most 1048576: NARROWER than '..Said'. Prove '..Said' where nothing that the law and all that it calls make is longer than what came in: it says more and counts as full. Else prove '..UptoSaid'. A law counts once. -/
mutual
def uptoBulk {H : Type} : DataW H → Nat
  | .lit (.string bytes) => bytes.length + 1
  | .lit _ => 1
  | .nil => 1
  | .ptr d => uptoBulk d + 1
  | .slice elems spare => uptoBulkAll elems + uptoBulkAll spare + 1
  | .agg parts => uptoBulkAll parts + 1
  | .iface _ d => uptoBulk d + 1
  | .map entries => uptoBulkEntries entries + 1
  | .held _ => 1
def uptoBulkAll {H : Type} : List (DataW H) → Nat
  | [] => 0
  | d :: r => uptoBulk d + uptoBulkAll r
def uptoBulkEntries {H : Type} : List (Lit × DataW H) → Nat
  | [] => 0
  | x :: r => uptoBulkEntry x + uptoBulkEntries r
def uptoBulkEntry {H : Type} : Lit × DataW H → Nat
  | (.string bytes, d) => bytes.length + uptoBulk d + 1
  | (_, d) => uptoBulk d + 1
 end
def uptoSmall : (H : Type) → List (DataW H) → Bool := fun _ ds => decide (uptoBulkAll ds ≤ 1048576)
def OpenSpec.upto (s : _root_.Go.ChangeSpec) : _root_.Go.OpenSpec := { _root_.Go.OpenSpec.ofChange s with cond := some uptoSmall }

/-- 'laws.FnExactIsCode', WHERE WHAT IT READS IS OF BULK AT MOST 1048576: true; the input reads as it did. -/
def fnExactIsCodeUptoRow : OpenClaim := { program := "yteebkplldggoiaa", sum := "a34d8896da045275ef462ada6572dfdb356916978b18d099c20f6039c01296c2", func := "loop.example/g00912/laws.FnExactIsCode", spec := "fnExactIsCode", apart := false, narrowed := true }
def FnExactIsCodeUptoSaid : Prop := fnExactIsCodeUptoRow.holds Try.pinned (OpenSpec.upto fnExactIsCodeSpec)

/-- 'laws.FnExactGreatestBase', WHERE WHAT IT READS IS OF BULK AT MOST 1048576: true; the input reads as it did. -/
def fnExactGreatestBaseUptoRow : OpenClaim := { program := "yteebkplldggoiaa", sum := "a34d8896da045275ef462ada6572dfdb356916978b18d099c20f6039c01296c2", func := "loop.example/g00912/laws.FnExactGreatestBase", spec := "fnExactGreatestBase", apart := false, narrowed := true }
def FnExactGreatestBaseUptoSaid : Prop := fnExactGreatestBaseUptoRow.holds Try.pinned (OpenSpec.upto fnExactGreatestBaseSpec)

/-- 'laws.FnExactFindElement', WHERE WHAT IT READS IS OF BULK AT MOST 1048576: true; the input reads as it did. -/
def fnExactFindElementUptoRow : OpenClaim := { program := "yteebkplldggoiaa", sum := "a34d8896da045275ef462ada6572dfdb356916978b18d099c20f6039c01296c2", func := "loop.example/g00912/laws.FnExactFindElement", spec := "fnExactFindElement", unfollowed := true, recurses := true, apart := false, narrowed := true }
def FnExactFindElementUptoSaid : Prop := fnExactFindElementUptoRow.holds Try.pinned (OpenSpec.upto fnExactFindElementSpec)

/-- 'laws.FnExactElementWorth', WHERE WHAT IT READS IS OF BULK AT MOST 1048576: true; the input reads as it did. -/
def fnExactElementWorthUptoRow : OpenClaim := { program := "yteebkplldggoiaa", sum := "a34d8896da045275ef462ada6572dfdb356916978b18d099c20f6039c01296c2", func := "loop.example/g00912/laws.FnExactElementWorth", spec := "fnExactElementWorth", unfollowed := true, recurses := true, apart := false, narrowed := true }
def FnExactElementWorthUptoSaid : Prop := fnExactElementWorthUptoRow.holds Try.pinned (OpenSpec.upto fnExactElementWorthSpec)

/-- 'laws.FnExactLevelsOf', WHERE WHAT IT READS IS OF BULK AT MOST 1048576: true; the input reads as it did. -/
def fnExactLevelsOfUptoRow : OpenClaim := { program := "yteebkplldggoiaa", sum := "a34d8896da045275ef462ada6572dfdb356916978b18d099c20f6039c01296c2", func := "loop.example/g00912/laws.FnExactLevelsOf", spec := "fnExactLevelsOf", apart := false, narrowed := true }
def FnExactLevelsOfUptoSaid : Prop := fnExactLevelsOfUptoRow.holds Try.pinned (OpenSpec.upto fnExactLevelsOfSpec)

/-- 'laws.FnExactOfFamily', WHERE WHAT IT READS IS OF BULK AT MOST 1048576: true; the input reads as it did. -/
def fnExactOfFamilyUptoRow : OpenClaim := { program := "yteebkplldggoiaa", sum := "a34d8896da045275ef462ada6572dfdb356916978b18d099c20f6039c01296c2", func := "loop.example/g00912/laws.FnExactOfFamily", spec := "fnExactOfFamily", unfollowed := true, recurses := true, apart := false, narrowed := true }
def FnExactOfFamilyUptoSaid : Prop := fnExactOfFamilyUptoRow.holds Try.pinned (OpenSpec.upto fnExactOfFamilySpec)

/-- 'laws.FnExactScaleCode', WHERE WHAT IT READS IS OF BULK AT MOST 1048576: true; the input reads as it did. -/
def fnExactScaleCodeUptoRow : OpenClaim := { program := "yteebkplldggoiaa", sum := "a34d8896da045275ef462ada6572dfdb356916978b18d099c20f6039c01296c2", func := "loop.example/g00912/laws.FnExactScaleCode", spec := "fnExactScaleCode", apart := false, narrowed := true }
def FnExactScaleCodeUptoSaid : Prop := fnExactScaleCodeUptoRow.holds Try.pinned (OpenSpec.upto fnExactScaleCodeSpec)

/-- 'laws.FnExactDropElement', WHERE WHAT IT READS IS OF BULK AT MOST 1048576: true; the input reads as it did. -/
def fnExactDropElementUptoRow : OpenClaim := { program := "yteebkplldggoiaa", sum := "a34d8896da045275ef462ada6572dfdb356916978b18d099c20f6039c01296c2", func := "loop.example/g00912/laws.FnExactDropElement", spec := "fnExactDropElement", unfollowed := true, recurses := true, apart := false, narrowed := true }
def FnExactDropElementUptoSaid : Prop := fnExactDropElementUptoRow.holds Try.pinned (OpenSpec.upto fnExactDropElementSpec)

/-- 'laws.FnExactAddElement', WHERE WHAT IT READS IS OF BULK AT MOST 1048576: true; the input reads as it did. -/
def fnExactAddElementUptoRow : OpenClaim := { program := "yteebkplldggoiaa", sum := "a34d8896da045275ef462ada6572dfdb356916978b18d099c20f6039c01296c2", func := "loop.example/g00912/laws.FnExactAddElement", spec := "fnExactAddElement", inPlace := ["slices.overlaps[loop.example/g00912/impl.Element]"], apart := false, narrowed := true }
def FnExactAddElementUptoSaid : Prop := fnExactAddElementUptoRow.holds Try.pinned (OpenSpec.upto fnExactAddElementSpec)

/-- 'laws.FnElements', WHERE WHAT IT READS IS OF BULK AT MOST 1048576: true; the input reads as it did. -/
def fnElementsUptoRow : OpenClaim := { program := "yteebkplldggoiaa", sum := "a34d8896da045275ef462ada6572dfdb356916978b18d099c20f6039c01296c2", func := "loop.example/g00912/laws.FnElements", spec := "fnElements", unfollowed := true, recurses := true, apart := false, narrowed := true }
def FnElementsUptoSaid : Prop := fnElementsUptoRow.holds Try.pinned (OpenSpec.upto fnElementsSpec)

end Rows
end Go.Proofs.Yteebkplldggoiaa
