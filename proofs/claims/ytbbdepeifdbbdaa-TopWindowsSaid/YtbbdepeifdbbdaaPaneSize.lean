/- The contracts of the size of panes and of the test for sliding windows (chapter 19). Condition: numbers within their types. -/
import Derived.Test.YtbbdepeifdbbdaaPaneGcd
import Derived.Test.YtbbdepeifdbbdaaKitD
import Derived.Test.YtbbdepeifdbbdaaKitB
namespace Go.Proofs.Ytbbdepeifdbbdaa
open Go.RowKit

end Go.Proofs.Ytbbdepeifdbbdaa
