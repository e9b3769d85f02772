/- The contract of the reference's With of a store (chapter 17). Condition: at most 2^40 entries, counts that stay below 2^61. -/
import Derived.Test.YtbbdepeifdbbdaaStoreBoth
import Derived.Test.YtbbdepeifdbbdaaStoreFire
import Derived.Test.YtbbdepeifdbbdaaKitH
namespace Go.Proofs.Ytbbdepeifdbbdaa
open Go.RowKit

end Go.Proofs.Ytbbdepeifdbbdaa
