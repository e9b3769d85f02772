/- Small lemmas on stores written out, and on parts of rows. No condition. -/
import Derived.Test.YtbbdepeifdbbdaaStoreLaw
namespace Go.Proofs.Ytbbdepeifdbbdaa
open Go.RowKit

theorem addE_lit {l l' : List En} {wk ws we rk rt rv side : Int} (h1 : l.length ≤ 4000 ∧ (∀ x ∈ l, enok x = true) ∧ SS l) (h2 : wok wk ws we) (h3 : side = 0 ∨ side = 1) (h4 : -1099511627776 ≤ rt ∧ rt ≤ 1099511627776)
    (h5 : givE l wk ws we rk rt rv side = (l', true)) : addE l wk ws we rk rt rv side = (l', 0) := by
  unfold addE
  rw [if_neg (by simp [enchk_zero.2 h1]), if_neg (by simp [h2]), if_neg (by omega), if_neg (by omega), h5, if_pos rfl]
theorem val_nil : ([] : List En).length ≤ 4000 ∧ (∀ x ∈ ([] : List En), enok x = true) ∧ SS [] := ⟨by simp, by simp, List.Pairwise.nil⟩
end Go.Proofs.Ytbbdepeifdbbdaa
