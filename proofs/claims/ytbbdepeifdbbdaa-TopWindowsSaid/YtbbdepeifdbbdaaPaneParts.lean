/- The contracts of the panes of a window (chapter 19): slices.Index and Contains over spans, Parts. Condition: numbers within their types. -/
import Derived.Test.YtbbdepeifdbbdaaPaneSize
import Derived.Test.YtbbdepeifdbbdaaStoreInv
import Derived.Test.YtbbdepeifdbbdaaKitB
import Derived.Test.YtbbdepeifdbbdaaKitA
import Derived.Test.YtbbdepeifdbbdaaKitD
namespace Go.Proofs.Ytbbdepeifdbbdaa
open Go.RowKit

end Go.Proofs.Ytbbdepeifdbbdaa
