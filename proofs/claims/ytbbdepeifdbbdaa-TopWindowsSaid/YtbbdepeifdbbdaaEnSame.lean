/- Lists of entries compared; whether a list is great (chapter 17). Condition: lists of at most 2^62. -/
import Derived.Test.YtbbdepeifdbbdaaKitE
import Derived.ChangeKeysEq
namespace Go.Proofs.Ytbbdepeifdbbdaa
open Go.RowKit

end Go.Proofs.Ytbbdepeifdbbdaa
