/- Lemmas and contracts for the statement, joined into one text: Closed3. The conditions of each stand at its head. -/
import Derived.Test.YtnljihjhmgpcoaaGreatJ1
namespace Go.Proofs.YtnljihjhmgpcoaaGreat
set_option maxRecDepth 100000 in
theorem make_is : (Tryz.pinned.checked.prog.make == some Rows.topMeaningRow.make) = true := by kernel_rfl
end Go.Proofs.YtnljihjhmgpcoaaGreat
