/- The contracts of session.Merge and of the reference's Merge (chapter 15). Condition: lists of at most 2^38 spans. -/
import Derived.Test.YtbbdepeifdbbdaaSessConcat
import Derived.Test.YtbbdepeifdbbdaaKitH
namespace Go.Proofs.Ytbbdepeifdbbdaa
open Go.RowKit

/-- The sessions of two lists together. -/
noncomputable def smerge (l m : List (Int × Int)) : List (Int × Int) × Int := if srtB l = false then ([], 8) else if srtB m = false then ([], 8) else sfew (l ++ m)
theorem mfold_snoc (l ms : List (Int × Int)) (k : Nat) (x : Int × Int) (hx : ms[k]? = some x) : (ms.take (k + 1)).foldl withS l = withS ((ms.take k).foldl withS l) x := by
  rw [List.take_add_one, hx]
  simp
theorem mfold_len {l ms : List (Int × Int)} (hg : Good l) (hm : ∀ x ∈ ms, x.1 < x.2) (k : Nat) : ((ms.take k).foldl withS l).length ≤ l.length + k := by
  rw [← canon_fold hg (fun x hx => hm x (List.mem_of_mem_take hx))]
  have h1 := canon_len (l ++ ms.take k)
  simp at h1
  omega
end Go.Proofs.Ytbbdepeifdbbdaa
