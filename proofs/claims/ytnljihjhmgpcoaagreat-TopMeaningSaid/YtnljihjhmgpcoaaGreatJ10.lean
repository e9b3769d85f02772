/- Lemmas and contracts for the statement, joined into one text: AccumsOf. The conditions of each stand at its head. -/
import Derived.Test.YtnljihjhmgpcoaaGreatJ1
import Derived.Test.YtnljihjhmgpcoaaGreatJ3
import Derived.Deep.DeepCutAuto
namespace Go.Proofs.YtnljihjhmgpcoaaGreat
open Go.RowKit
def afold (xs : List Int) : Acc := xs.foldl (fun a v => aboth a ⟨1, v, v, v⟩) ⟨0, 0, 0, 0⟩
theorem afold_ok (xs : List Int) (h : xs.length ≤ 1073741824) : (afold xs).ok ∧ (afold xs).c = xs.length := by
 suffices H : ∀ ys : List Int, ∀ a : Acc, a.ok → a.c + ys.length ≤ 1073741824 → (ys.foldl (fun a v => aboth a ⟨1, v, v, v⟩) a).ok ∧ (ys.foldl (fun a v => aboth a ⟨1, v, v, v⟩) a).c = a.c + ys.length by
  have := H xs ⟨0, 0, 0, 0⟩ (by decide) (by simp; omega)
  simpa [afold] using this
 intro ys
 induction ys with
 | nil => intro a ha _; simpa using ha
 | cons v ys ih =>
  intro a ha hl
  obtain ⟨c, s, m, x⟩ := a
  simp only [List.length_cons] at hl
  have h1 : (aboth ⟨c, s, m, x⟩ ⟨1, v, v, v⟩).ok ∧ (aboth ⟨c, s, m, x⟩ ⟨1, v, v, v⟩).c = c + 1 := by
   unfold aboth Acc.ok at *
   grind
  obtain ⟨i1, i2⟩ := ih _ h1.1 (by rw [h1.2]; omega)
  simp only [List.foldl_cons, List.length_cons]
  exact ⟨i1, by rw [i2, h1.2]; omega⟩
theorem ajoin_one {a : Acc} {v : Int} (h : a.ok) (hc : a.c < 1073741824) : ajoin a ⟨1, v, v, v⟩ = (aboth a ⟨1, v, v, v⟩, 0) := by
 have h1 : Acc.ok ⟨1, v, v, v⟩ := .inr (.inl ⟨rfl, rfl, rfl⟩)
 unfold ajoin
 rw [if_neg (by simp [h, h1]), if_neg (by simp; omega)]
end Go.Proofs.YtnljihjhmgpcoaaGreat
