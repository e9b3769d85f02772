/- Lemmas and contracts for the statement, joined into one text: SessPlain2. The conditions of each stand at its head. -/
import Derived.Test.YtnljihjhmgpcoaaGreatJ22
import Derived.Test.YtnljihjhmgpcoaaGreatJ24
namespace Go.Proofs.YtnljihjhmgpcoaaGreat
open Go.RowKit Go.ChangeShapes Go.WideShapes Go.ChangeAt Go.Deep
theorem good_two : ∀ {l : List (Int × Int)}, Good l → ∀ x ∈ l, ∀ y ∈ l, x = y ∨ x.2 ≤ y.1 ∨ y.2 ≤ x.1
 | [], _, _, h, _, _ => by cases h
 | s :: l, ⟨_, h2, h3⟩, x, hx, y, hy => by
  rcases List.mem_cons.1 hx with e | hx'
  ·rcases List.mem_cons.1 hy with e' | hy'
   ·exact .inl (e.trans e'.symm)
   ·exact .inr (.inl (by rw [e]; exact h2 y hy'))
  ·rcases List.mem_cons.1 hy with e' | hy'
   ·exact .inr (.inr (by rw [e']; exact h2 x hx'))
   ·exact good_two h3 x hx' y hy'
theorem canon_cov {l m : List (Int × Int)} (hl : ∀ x ∈ l, x.1 < x.2) (hm : ∀ x ∈ m, x.1 < x.2) (h : ∀ z, Cov l z ↔ Cov m z) : canon l = canon m := by
 obtain ⟨a1, a2⟩ := canon_good hl
 obtain ⟨b1, b2⟩ := canon_good hm
 exact good_unique a1 b1 fun z => by rw [a2, b2, h]
theorem cov_times {ts : List Int} {g : Int} {z : Int} : Cov (stimes g ts) z ↔ ∃ t ∈ ts, 2 * t < z ∧ z < 2 * (t + g) := by
 constructor
 ·rintro ⟨s, hs, h1, h2⟩
  obtain ⟨t, ht, rfl⟩ := List.mem_map.1 hs
  exact ⟨t, ht, h1, h2⟩
 ·rintro ⟨t, ht, h1, h2⟩
  exact ⟨(t, t + g), List.mem_map.2 ⟨t, ht, rfl⟩, h1, h2⟩
end Go.Proofs.YtnljihjhmgpcoaaGreat
