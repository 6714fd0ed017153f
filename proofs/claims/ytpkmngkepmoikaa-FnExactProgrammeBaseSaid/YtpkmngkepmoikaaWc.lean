/- Items over a code: FamilyOf, ItemFamily, KnowsItems. -/
import Derived.Test.YtpkmngkepmoikaaWb
import Derived.Test.YtpkmngkepmoikaaU
import Derived.Test.YtpkmngkepmoikaaY
namespace Go.Proofs.Ytpkmngkepmoikaa
set_option linter.unusedVariables false
set_option linter.unusedSimpArgs false
open Go.RowKit

def onB (b v : Bool) : Bool := cond b v false
end Go.Proofs.Ytpkmngkepmoikaa
