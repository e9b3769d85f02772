/- A fact of the whole program that each row of this seat asks for, shown once. No condition. -/
import Derived.Test.YtbbdepeifdbbdaaKitA
namespace Go.Proofs.Ytbbdepeifdbbdaa
set_option maxRecDepth 100000 in
theorem make_is : (Try.pinned.checked.prog.make == some Rows.topWindowsRow.make) = true := by kernel_rfl
end Go.Proofs.Ytbbdepeifdbbdaa
