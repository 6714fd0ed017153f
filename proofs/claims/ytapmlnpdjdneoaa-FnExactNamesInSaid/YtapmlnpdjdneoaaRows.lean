/-
  No cell of these rows narrows 'for every input' (looked for: loops, veiled, ifaces, maps, wideKeys, modest, calm, conditions, laid).
  DERIVED. THE GIVEN ROWS OF THIS SEAT. 4 by the template 'for every input the law returns true; each argument reads behind the call as it read before'; 0 by the template 'total and deterministic' (their statements: YtapmlnpdjdneoaaTotals.lean).
  GIVEN WITH THE SEED: the statements are not yours to turn. If you find one false, say at which input.
  Laid BY PROGRAM, IN A SANDBOX (cutbox-rows.mjs): the forced cells as the released guide's own fill.sh prints them over the translation 76cf167a42470e4c… (all of the seat's roots in one cut). By AI agents, Wed Nov 11 2026. No macro, syntax, notation, axiom, sorry.
-/
import Derived.Test.YtapmlnpdjdneoaaChecked
import GoSem.Claim
import GoSem.ClaimJoined
import GoSem.ClaimMapViews
import Derived.JoinedTies
import Derived.KernelRfl
namespace Go.Proofs.Ytapmlnpdjdneoaa
/- THE CELL 'sum', in the pinned program and in every row, IS THE sha256 OF THE DUMP (.gsa) THAT YtapmlnpdjdneoaaProg.lean LOADS. Nothing in Lean hashes anything: it is a label: what it is worth is what the hold of that sum in a sandbox is worth. -/
noncomputable def Try.pinned : Pinned := { name := "ytapmlnpdjdneoaa", sum := "76cf167a42470e4c1294401296c311ddc70e54f7b069012bd0258e3b6de9825e", checked := Try.checked }
namespace Rows
def none {H : Type} : Left H := { results := [], args := [] }

/-- 'laws.FnExactNamesIn': WHATEVER THE INPUT: true; the input reads as it did. -/
def fnExactNamesInSpec : ChangeSpec := { name := "fnExactNamesIn", fn := fun _ => fun
  | [d] => { results := [.lit (.bool true)], args := [d] }
  | _ => none }
def fnExactNamesInRow : OpenClaim := { program := "ytapmlnpdjdneoaa", sum := "76cf167a42470e4c1294401296c311ddc70e54f7b069012bd0258e3b6de9825e", func := "loop.example/g00912/laws.FnExactNamesIn", spec := "fnExactNamesIn", recurses := true, apart := false }
def FnExactNamesInSaid : Prop := fnExactNamesInRow.holds Try.pinned (OpenSpec.ofChange fnExactNamesInSpec)

/-- ITS FALSE NEIGHBOUR: 'it returns false'. Refute it at one input. -/
def fnExactNamesInWrong : ChangeSpec := { name := "fnExactNamesIn", fn := fun _ => fun
  | [d] => { results := [.lit (.bool false)], args := [d] }
  | _ => none }
def FnExactNamesInWrongFalsely : Prop := fnExactNamesInRow.holds Try.pinned (OpenSpec.ofChange fnExactNamesInWrong)

/-- 'laws.FnExactDropItem': WHATEVER THE INPUT: true; the input reads as it did. -/
def fnExactDropItemSpec : ChangeSpec := { name := "fnExactDropItem", fn := fun _ => fun
  | [d1, d2, d3] => { results := [.lit (.bool true)], args := [d1, d2, d3] }
  | _ => none }
def fnExactDropItemRow : OpenClaim := { program := "ytapmlnpdjdneoaa", sum := "76cf167a42470e4c1294401296c311ddc70e54f7b069012bd0258e3b6de9825e", func := "loop.example/g00912/laws.FnExactDropItem", spec := "fnExactDropItem", unfollowed := true, recurses := true, apart := false }
def FnExactDropItemSaid : Prop := fnExactDropItemRow.holds Try.pinned (OpenSpec.ofChange fnExactDropItemSpec)

/-- ITS FALSE NEIGHBOUR: 'it returns false'. Refute it at one input. -/
def fnExactDropItemWrong : ChangeSpec := { name := "fnExactDropItem", fn := fun _ => fun
  | [d1, d2, d3] => { results := [.lit (.bool false)], args := [d1, d2, d3] }
  | _ => none }
def FnExactDropItemWrongFalsely : Prop := fnExactDropItemRow.holds Try.pinned (OpenSpec.ofChange fnExactDropItemWrong)

/-- 'laws.FnExactInsertItem': WHATEVER THE INPUT: true; the input reads as it did. -/
def fnExactInsertItemSpec : ChangeSpec := { name := "fnExactInsertItem", fn := fun _ => fun
  | [d1, d2, d3, d4] => { results := [.lit (.bool true)], args := [d1, d2, d3, d4] }
  | _ => none }
def fnExactInsertItemRow : OpenClaim := { program := "ytapmlnpdjdneoaa", sum := "76cf167a42470e4c1294401296c311ddc70e54f7b069012bd0258e3b6de9825e", func := "loop.example/g00912/laws.FnExactInsertItem", spec := "fnExactInsertItem", inPlace := ["slices.overlaps[loop.example/g00912/impl.Item]"], unfollowed := true, recurses := true, apart := false }
def FnExactInsertItemSaid : Prop := fnExactInsertItemRow.holds Try.pinned (OpenSpec.ofChange fnExactInsertItemSpec)

/-- ITS FALSE NEIGHBOUR: 'it returns false'. Refute it at one input. -/
def fnExactInsertItemWrong : ChangeSpec := { name := "fnExactInsertItem", fn := fun _ => fun
  | [d1, d2, d3, d4] => { results := [.lit (.bool false)], args := [d1, d2, d3, d4] }
  | _ => none }
def FnExactInsertItemWrongFalsely : Prop := fnExactInsertItemRow.holds Try.pinned (OpenSpec.ofChange fnExactInsertItemWrong)

/-- 'laws.FnExactMoveItem': WHATEVER THE INPUT: true; the input reads as it did. -/
def fnExactMoveItemSpec : ChangeSpec := { name := "fnExactMoveItem", fn := fun _ => fun
  | [d1, d2, d3, d4] => { results := [.lit (.bool true)], args := [d1, d2, d3, d4] }
  | _ => none }
def fnExactMoveItemRow : OpenClaim := { program := "ytapmlnpdjdneoaa", sum := "76cf167a42470e4c1294401296c311ddc70e54f7b069012bd0258e3b6de9825e", func := "loop.example/g00912/laws.FnExactMoveItem", spec := "fnExactMoveItem", inPlace := ["slices.overlaps[loop.example/g00912/impl.Item]"], unfollowed := true, recurses := true, apart := false }
def FnExactMoveItemSaid : Prop := fnExactMoveItemRow.holds Try.pinned (OpenSpec.ofChange fnExactMoveItemSpec)

/-- ITS FALSE NEIGHBOUR: 'it returns false'. Refute it at one input. -/
def fnExactMoveItemWrong : ChangeSpec := { name := "fnExactMoveItem", fn := fun _ => fun
  | [d1, d2, d3, d4] => { results := [.lit (.bool false)], args := [d1, d2, d3, d4] }
  | _ => none }
def FnExactMoveItemWrongFalsely : Prop := fnExactMoveItemRow.holds Try.pinned (OpenSpec.ofChange fnExactMoveItemWrong)

/- THE SECOND FORM. 'bulk': how many values and letters a reading holds, each counted each time it is reached (what is shared counts as often as it is met; a slice's spare places count too). A statement '..UptoSaid' is the law's where the arguments, and the package variables that the reading takes, are together of bulk at most 1048576: NARROWER than '..Said'. Prove '..Said' where nothing that the law and all that it calls make is longer than what came in: it says more and counts as full. Else prove '..UptoSaid'. A law counts once. -/
mutual
def uptoBulk {H : Type} : DataW H → Nat
  | .lit (.string bytes) => bytes.length + 1
  | .lit _ => 1
  | .nil => 1
  | .ptr d => uptoBulk d + 1
  | .slice elems spare => uptoBulkAll elems + uptoBulkAll spare + 1
  | .agg parts => uptoBulkAll parts + 1
  | .iface _ d => uptoBulk d + 1
  | .map entries => uptoBulkEntries entries + 1
  | .held _ => 1
def uptoBulkAll {H : Type} : List (DataW H) → Nat
  | [] => 0
  | d :: r => uptoBulk d + uptoBulkAll r
def uptoBulkEntries {H : Type} : List (Lit × DataW H) → Nat
  | [] => 0
  | x :: r => uptoBulkEntry x + uptoBulkEntries r
def uptoBulkEntry {H : Type} : Lit × DataW H → Nat
  | (.string bytes, d) => bytes.length + uptoBulk d + 1
  | (_, d) => uptoBulk d + 1
 end
def uptoSmall : (H : Type) → List (DataW H) → Bool := fun _ ds => decide (uptoBulkAll ds ≤ 1048576)
def OpenSpec.upto (s : _root_.Go.ChangeSpec) : _root_.Go.OpenSpec := { _root_.Go.OpenSpec.ofChange s with cond := some uptoSmall }

/-- 'laws.FnExactNamesIn', WHERE WHAT IT READS IS OF BULK AT MOST 1048576: true; the input reads as it did. -/
def fnExactNamesInUptoRow : OpenClaim := { program := "ytapmlnpdjdneoaa", sum := "76cf167a42470e4c1294401296c311ddc70e54f7b069012bd0258e3b6de9825e", func := "loop.example/g00912/laws.FnExactNamesIn", spec := "fnExactNamesIn", recurses := true, apart := false, narrowed := true }
def FnExactNamesInUptoSaid : Prop := fnExactNamesInUptoRow.holds Try.pinned (OpenSpec.upto fnExactNamesInSpec)

/-- 'laws.FnExactDropItem', WHERE WHAT IT READS IS OF BULK AT MOST 1048576: true; the input reads as it did. -/
def fnExactDropItemUptoRow : OpenClaim := { program := "ytapmlnpdjdneoaa", sum := "76cf167a42470e4c1294401296c311ddc70e54f7b069012bd0258e3b6de9825e", func := "loop.example/g00912/laws.FnExactDropItem", spec := "fnExactDropItem", unfollowed := true, recurses := true, apart := false, narrowed := true }
def FnExactDropItemUptoSaid : Prop := fnExactDropItemUptoRow.holds Try.pinned (OpenSpec.upto fnExactDropItemSpec)

/-- 'laws.FnExactInsertItem', WHERE WHAT IT READS IS OF BULK AT MOST 1048576: true; the input reads as it did. -/
def fnExactInsertItemUptoRow : OpenClaim := { program := "ytapmlnpdjdneoaa", sum := "76cf167a42470e4c1294401296c311ddc70e54f7b069012bd0258e3b6de9825e", func := "loop.example/g00912/laws.FnExactInsertItem", spec := "fnExactInsertItem", inPlace := ["slices.overlaps[loop.example/g00912/impl.Item]"], unfollowed := true, recurses := true, apart := false, narrowed := true }
def FnExactInsertItemUptoSaid : Prop := fnExactInsertItemUptoRow.holds Try.pinned (OpenSpec.upto fnExactInsertItemSpec)

/-- 'laws.FnExactMoveItem', WHERE WHAT IT READS IS OF BULK AT MOST 1048576: true; the input reads as it did. -/
def fnExactMoveItemUptoRow : OpenClaim := { program := "ytapmlnpdjdneoaa", sum := "76cf167a42470e4c1294401296c311ddc70e54f7b069012bd0258e3b6de9825e", func := "loop.example/g00912/laws.FnExactMoveItem", spec := "fnExactMoveItem", inPlace := ["slices.overlaps[loop.example/g00912/impl.Item]"], unfollowed := true, recurses := true, apart := false, narrowed := true }
def FnExactMoveItemUptoSaid : Prop := fnExactMoveItemUptoRow.holds Try.pinned (OpenSpec.upto fnExactMoveItemSpec)

end Rows
end Go.Proofs.Ytapmlnpdjdneoaa
