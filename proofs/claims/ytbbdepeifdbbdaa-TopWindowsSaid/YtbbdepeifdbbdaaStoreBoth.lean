/- The contract of the reference's Both of two entries (chapter 17). Condition: counts that are not negative, of at most 2^42 together. -/
import Derived.Test.YtbbdepeifdbbdaaKitF
import Derived.Test.YtbbdepeifdbbdaaKitB
namespace Go.Proofs.Ytbbdepeifdbbdaa
open Go.RowKit

end Go.Proofs.Ytbbdepeifdbbdaa
