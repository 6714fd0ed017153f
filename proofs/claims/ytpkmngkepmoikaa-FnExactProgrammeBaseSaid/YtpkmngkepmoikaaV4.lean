/- Codes: GreatestBase. -/
import Derived.Test.YtpkmngkepmoikaaV2
import Derived.Test.YtpkmngkepmoikaaH3
import Derived.Deep.RegionHeld3
import Derived.Deep.DeepCutAuto
namespace Go.Proofs.Ytpkmngkepmoikaa
set_option linter.unusedVariables false
set_option linter.unusedSimpArgs false
open Go.RowKit

def askedB (x : CodeD) (f : Int) : Bool := codeB x && inB f 0 4
def mostB (es : List ElemD) (f : Int) : Int := es.foldl (fun m y => if y.family = f then max m y.base else m) 0
def gbV (x : CodeD) (f : Int) : Int := if askedB x f then mostB x.elems f else 0
theorem ret_ib {a a' : Int} {b b' : Bool} (h1 : a = a') (h2 : b = b') : Ending.returned (.tuple #[.int .i64 a, .bool b]) = .returned (.tuple #[.int .i64 a', .bool b']) := by rw [h1, h2]
theorem gbV_no {x : CodeD} {f : Int} (h : askedB x f = false) : gbV x f = 0 := by unfold gbV; rw [h]; rfl
theorem mostB_snoc {es : List ElemD} {k : Nat} {y : ElemD} (f : Int) (h : es[k]? = some y) : mostB (es.take (k + 1)) f = if y.family = f then max (mostB (es.take k) f) y.base else mostB (es.take k) f := by
  unfold mostB
  rw [take_snoc h, List.foldl_append]
  rfl
end Go.Proofs.Ytpkmngkepmoikaa
