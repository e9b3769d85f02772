/- The greatest number that divides two (chapter 19): by remainders, and by halves. Condition: positive numbers of at most 2^30. -/
import Derived.Test.YtbbdepeifdbbdaaKitA
namespace Go.Proofs.Ytbbdepeifdbbdaa
open Go.RowKit

end Go.Proofs.Ytbbdepeifdbbdaa
