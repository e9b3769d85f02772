/- The contract of the reference's Given (chapter 17). Condition: as the theorem says. -/
import Derived.Test.YtbbdepeifdbbdaaStoreGivenR
import Derived.Test.YtbbdepeifdbbdaaKitB
namespace Go.Proofs.Ytbbdepeifdbbdaa
open Go.RowKit
end Go.Proofs.Ytbbdepeifdbbdaa
