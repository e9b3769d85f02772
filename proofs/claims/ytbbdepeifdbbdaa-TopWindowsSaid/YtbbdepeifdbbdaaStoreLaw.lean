/- The contracts of the helpers of chapter 17's statements: records put in one by one. Condition: at most 2^40 records. -/
import Derived.Test.YtbbdepeifdbbdaaStoreAdd
import Derived.Test.YtbbdepeifdbbdaaStoreInv
import Derived.Test.YtbbdepeifdbbdaaKitB
namespace Go.Proofs.Ytbbdepeifdbbdaa
open Go.RowKit

/-- All records put in, one by one; none: one was not. -/
noncomputable def allE (wk ws we : Int) : List En → List Pt → Option (List En)
  | a, [] => some a
  | a, p :: P => if (addE a wk ws we p.k p.t p.v p.d).2 = 0 then allE wk ws we (addE a wk ws we p.k p.t p.v p.d).1 P else none
theorem allE_append (wk ws we : Int) : ∀ (P Q : List Pt) (a : List En), allE wk ws we a (P ++ Q) = (allE wk ws we a P).bind fun b => allE wk ws we b Q
  | [], Q, a => rfl
  | p :: P, Q, a => by
    simp only [List.cons_append, allE]
    split
    · exact allE_append wk ws we P Q _
    · rfl
theorem allE_snoc {wk ws we : Int} {P : List Pt} {a : List En} {k : Nat} {p : Pt} {b : List En} (hp : P[k]? = some p) (h : allE wk ws we a (P.take k) = some b) :
    allE wk ws we a (P.take (k + 1)) = if (addE b wk ws we p.k p.t p.v p.d).2 = 0 then some (addE b wk ws we p.k p.t p.v p.d).1 else none := by
  rw [List.take_add_one, hp, Option.toList, allE_append, h]
  simp only [Option.bind_some, allE]
end Go.Proofs.Ytbbdepeifdbbdaa
