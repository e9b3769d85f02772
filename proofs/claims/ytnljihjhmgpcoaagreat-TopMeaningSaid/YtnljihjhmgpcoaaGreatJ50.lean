/- Lemmas and contracts for the statement, joined into one text: Closed1. The conditions of each stand at its head. -/
import Derived.Test.YtnljihjhmgpcoaaGreatJ1
namespace Go.Proofs.YtnljihjhmgpcoaaGreat
set_option maxRecDepth 100000 in
theorem may_enter : Tryz.pinned.checked.prog.mayEnter = true := by kernel_rfl
end Go.Proofs.YtnljihjhmgpcoaaGreat
