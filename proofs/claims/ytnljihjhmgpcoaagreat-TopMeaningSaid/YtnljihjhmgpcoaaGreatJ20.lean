/- Lemmas and contracts for the statement, joined into one text: SessNone. The conditions of each stand at its head. -/
import Derived.Test.YtnljihjhmgpcoaaGreatJ18
import Derived.Test.YtnljihjhmgpcoaaGreatJ1
import Derived.Shelf.SlSortCmp.NoneTotal
namespace Go.Proofs.YtnljihjhmgpcoaaGreat
open Go.RowKit
theorem sortS_none (fv : Value) (w : World) : Calls Tryz.prog 126 #[.slice none 0 0, fv] w fun e w' => e = .returned (.tuple #[]) ∧ w' = w := by
 have h := AnyF.slices_SortFunc_none Tryz.sortSpan none 0 fv w
 exact h
end Go.Proofs.YtnljihjhmgpcoaaGreat
