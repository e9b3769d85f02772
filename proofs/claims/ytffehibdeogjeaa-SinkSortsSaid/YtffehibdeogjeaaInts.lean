/- Slices of integers. No condition. -/
import Derived.Test.YtffehibdeogjeaaReads
namespace Go.Proofs.Ytffehibdeogjeaa
open Go.RowKit

def ienc (x : Int) : List Value := [.int .i64 x]
/-- A new block of integers, as a slice that reads. -/
theorem rd_new (w : World) (xs : List Int) (t : TypeId) : Rd ienc 1 (w.alloc (.cells (xs.map (Value.int .i64)).toArray t)) (w.heap.size + 1) (some ⟨w.heap.size, 0, none⟩) xs := fun _ => by
  refine ⟨_, _, rfl, by omega, fun k x hx j u hu => ?_⟩
  rw [World.cell?_alloc_at _ _ _ _ rfl]
  match j, hu with
  | 0, hu => simp [ienc] at hu; subst hu; simp [hx]
end Go.Proofs.Ytffehibdeogjeaa
