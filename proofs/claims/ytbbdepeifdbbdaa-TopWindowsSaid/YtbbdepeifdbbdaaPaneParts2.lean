/- The contracts of Parts, the program's and the reference's (chapter 19). Condition: numbers within their types. -/
import Derived.Test.YtbbdepeifdbbdaaPaneParts
import Derived.Test.YtbbdepeifdbbdaaStoreAdd
import Derived.Test.YtbbdepeifdbbdaaKitG
namespace Go.Proofs.Ytbbdepeifdbbdaa
open Go.RowKit

theorem sp_newP (w : World) (x y : Int) (t : TypeId) (g : Nat) (hg : g = w.heap.size) : ∀ j u, ([(x, y)].flatMap senc)[j]? = some u → (w.alloc (.cells #[.int .i64 x, .int .i64 y] t)).cell? ((⟨g, 0, none⟩ : Addr).add j) = some u := by
  subst hg
  intro j u hj
  rw [Addr.add_lit, World.cell?_alloc_at _ _ _ _ rfl]
  simpa [senc] using hj
theorem senc_oneP (l : List (Int × Int)) : ∀ u ∈ l.flatMap senc, u.oneCell' = true := by
  intro u hu
  obtain ⟨x, _, hx⟩ := List.mem_flatMap.1 hu
  simp [senc] at hx
  rcases hx with rfl | rfl <;> rfl
end Go.Proofs.Ytbbdepeifdbbdaa
