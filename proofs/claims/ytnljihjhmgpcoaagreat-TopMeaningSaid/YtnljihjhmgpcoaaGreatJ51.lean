/- Lemmas and contracts for the statement, joined into one text: Closed2. The conditions of each stand at its head. -/
import Derived.Test.YtnljihjhmgpcoaaGreatJ1
namespace Go.Proofs.YtnljihjhmgpcoaaGreat
set_option maxRecDepth 100000 in
theorem lifts_final : (Rows.topMeaningRow.lifted == Tryz.pinned.checked.prog.liftsFinal) = true := by kernel_rfl
end Go.Proofs.YtnljihjhmgpcoaaGreat
