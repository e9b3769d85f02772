/- More of sessions as plain lists: what merging leaves of starts and ends, which session holds a time, what adding changes. No condition. -/
import Derived.Test.YtbbdepeifdbbdaaKitH
import Derived.Test.YtbbdepeifdbbdaaSessMerge
namespace Go.Proofs.Ytbbdepeifdbbdaa
open Go.RowKit Go.ChangeShapes Go.WideShapes Go.ChangeAt Go.Deep

theorem good_two : ∀ {l : List (Int × Int)}, Good l → ∀ x ∈ l, ∀ y ∈ l, x = y ∨ x.2 ≤ y.1 ∨ y.2 ≤ x.1
  | [], _, _, h, _, _ => by cases h
  | s :: l, ⟨_, h2, h3⟩, x, hx, y, hy => by
    rcases List.mem_cons.1 hx with e | hx'
    · rcases List.mem_cons.1 hy with e' | hy'
      · exact .inl (e.trans e'.symm)
      · exact .inr (.inl (by rw [e]; exact h2 y hy'))
    · rcases List.mem_cons.1 hy with e' | hy'
      · exact .inr (.inr (by rw [e']; exact h2 x hx'))
      · exact good_two h3 x hx' y hy'
/-! ### which session holds a time -/
/-- The spans that hold a time. -/
def holdS (t : Int) (x : Int × Int) : Bool := decide (x.1 ≤ t) && decide (t < x.2)
theorem cov_times {ts : List Int} {g : Int} {z : Int} : Cov (stimes g ts) z ↔ ∃ t ∈ ts, 2 * t < z ∧ z < 2 * (t + g) := by
  constructor
  · rintro ⟨s, hs, h1, h2⟩
    obtain ⟨t, ht, rfl⟩ := List.mem_map.1 hs
    exact ⟨t, ht, h1, h2⟩
  · rintro ⟨t, ht, h1, h2⟩
    exact ⟨(t, t + g), List.mem_map.2 ⟨t, ht, rfl⟩, h1, h2⟩
/-! ### a time more -/
end Go.Proofs.Ytbbdepeifdbbdaa
