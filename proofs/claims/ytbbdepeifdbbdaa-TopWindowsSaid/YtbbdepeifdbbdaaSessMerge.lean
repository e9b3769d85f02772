/- The contracts of session.Merge and of the reference's Merge (chapter 15). Condition: lists of at most 2^38 spans. -/
import Derived.Test.YtbbdepeifdbbdaaSessConcat
import Derived.Test.YtbbdepeifdbbdaaKitH
namespace Go.Proofs.Ytbbdepeifdbbdaa
open Go.RowKit

end Go.Proofs.Ytbbdepeifdbbdaa
