/- A fact of the whole program that each row of this seat asks for, shown once. No condition. -/
import Derived.Test.YtffehibdeogjeaaKitA
namespace Go.Proofs.Ytffehibdeogjeaa
set_option maxRecDepth 100000 in
theorem lifts_final : (Rows.timersUntilRow.lifted == Try.pinned.checked.prog.liftsFinal) = true := by kernel_rfl
end Go.Proofs.Ytffehibdeogjeaa
