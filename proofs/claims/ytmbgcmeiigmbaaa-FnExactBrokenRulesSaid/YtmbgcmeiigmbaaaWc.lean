/- Items over a code: FamilyOf, ItemFamily, KnowsItems. -/
import Derived.Test.YtmbgcmeiigmbaaaWb
import Derived.Test.YtmbgcmeiigmbaaaU
import Derived.Test.YtmbgcmeiigmbaaaY
namespace Go.Proofs.Ytmbgcmeiigmbaaa
open Go.RowKit

def onB (b v : Bool) : Bool := cond b v false
end Go.Proofs.Ytmbgcmeiigmbaaa
