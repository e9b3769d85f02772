/- The contract of the reference's Given (chapter 17). Condition: a store in order, with counts that stay small; a valid window, a time within bounds, a side. -/
import Derived.Test.YtbbdepeifdbbdaaStoreGiven
import Derived.Test.YtbbdepeifdbbdaaKitB
import Derived.Test.YtbbdepeifdbbdaaKitG
namespace Go.Proofs.Ytbbdepeifdbbdaa
open Go.RowKit

theorem own_noneZ {α : Type} {enc : α → List Value} {sz : Nat} {w : World} {base : Nat} {e : TypeId} {A : Option Addr} {n c : Nat} {l : List α} (h : Own enc sz w base e (.slice A n c) l) : A = none → c = 0 := by
  rcases h.2 with ⟨h', h0⟩ | ⟨g, cap, cur, h', _⟩
  · intro _; injection h' with _ _ h3
  · intro hA; injection h' with h1 _ _; rw [hA] at h1; cases h1
theorem Rd.apart {α : Type} {enc : α → List Value} {sz : Nat} {w : World} {B : Nat} {A : Option Addr} {l : List α} (h : Rd enc sz w B A l) {p : Addr} (hp : l ≠ [] → ∀ a, A = some a → a.block ≠ p.block) (u : Value) : Rd enc sz (w.setCell p u) B A l := fun hn => by
  obtain ⟨b, off, e, hb, hc⟩ := h hn
  have h1 := hp hn _ e
  refine ⟨b, off, e, hb, fun k x hx j v hu => ?_⟩
  refine (World.cell?_setCell_other _ _ _ _ (fun e' => h1 ?_)).trans (hc k x hx j v hu)
  first
    | rw [e']
    | rw [← e']
end Go.Proofs.Ytbbdepeifdbbdaa
