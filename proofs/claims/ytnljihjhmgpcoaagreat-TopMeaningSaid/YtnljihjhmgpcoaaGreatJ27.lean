/- Lemmas and contracts for the statement, joined into one text: PaneParts. The conditions of each stand at its head. -/
import Derived.Test.YtnljihjhmgpcoaaGreatJ15
import Derived.Test.YtnljihjhmgpcoaaGreatJ11
import Derived.Test.YtnljihjhmgpcoaaGreatJ4
import Derived.Test.YtnljihjhmgpcoaaGreatJ6
import Derived.Test.YtnljihjhmgpcoaaGreatJ16
namespace Go.Proofs.YtnljihjhmgpcoaaGreat
open Go.RowKit
end Go.Proofs.YtnljihjhmgpcoaaGreat
