/- A fact of the whole program that each row of this seat asks for, shown once. No condition. -/
import Derived.Test.YtffehibdeogjeaaKitA
namespace Go.Proofs.Ytffehibdeogjeaa
set_option maxRecDepth 100000 in
theorem may_enter : Try.pinned.checked.prog.mayEnter = true := by kernel_rfl
end Go.Proofs.Ytffehibdeogjeaa
