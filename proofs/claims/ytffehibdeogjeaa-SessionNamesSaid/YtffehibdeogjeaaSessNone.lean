/- slices.SortFunc of no span: nothing turns. No condition. -/
import Derived.Test.YtffehibdeogjeaaSortLaid
import Derived.Test.YtffehibdeogjeaaBase
import Derived.Shelf.SlSortCmp.NoneTotal
namespace Go.Proofs.Ytffehibdeogjeaa
open Go.RowKit
theorem sortS_none (fv : Value) (w : World) : Calls Try.prog 126 #[.slice none 0 0, fv] w fun e w' => e = .returned (.tuple #[]) ∧ w' = w := by
  have h := AnyF.slices_SortFunc_none Try.sortSpan none 0 fv w
  exact h
end Go.Proofs.Ytffehibdeogjeaa
