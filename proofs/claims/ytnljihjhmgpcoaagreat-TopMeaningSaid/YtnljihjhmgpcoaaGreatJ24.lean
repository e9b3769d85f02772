/- Lemmas and contracts for the statement, joined into one text: SessConcat, SessMerge. The conditions of each stand at its head. -/
import Derived.Test.YtnljihjhmgpcoaaGreatJ21
import Derived.Lib.AppendZeros
import Derived.Test.YtnljihjhmgpcoaaGreatJ6
namespace Go.Proofs.YtnljihjhmgpcoaaGreat
open Go.RowKit
end Go.Proofs.YtnljihjhmgpcoaaGreat
