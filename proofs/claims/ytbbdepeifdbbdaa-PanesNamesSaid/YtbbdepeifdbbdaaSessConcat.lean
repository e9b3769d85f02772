/- The contracts of slices.Grow and Concat at spans (chapter 15). Condition: at most 2^40 spans. -/
import Derived.Test.YtbbdepeifdbbdaaKitH
import Derived.Lib.AppendZeros
namespace Go.Proofs.Ytbbdepeifdbbdaa
open Go.RowKit

/-- A list appended to whatever row of the call's own. -/
theorem wpList_append_any {P : Program} {w : World} {ops : Array Oper} {rest : List Oper} {o : Oper} {a : Act} {Q : Exit → Act → World → Prop} (hwd : Region.wanted o (yielded ops a.tmps) = true) (s x : Operand) (t : TypeId)
    (ho : o.op = .call { callee := .builtin .append, args := #[s, x], argTypes := #[t, t] })
    (base : Nat) (e : TypeId) (i : TypeInfo) (z : Value) (size bytes : Nat) (ht : P.underlying t = some (.slice e)) (hi : P.info? e = some i) (hz : i.zero = some z)
    (hsize : i.size = size) (hby : i.bytes = bytes) (hzs : z.cells.size = size) (hsz : 0 < size)
    {α : Type} (enc : α → List Value) (henc : ∀ y, (enc y).length = size) (v : Value) (xs ys : List α) (hs : a.eval s = v) (hown : Own enc size w base e v xs)
    (A : Option Addr) (n c : Nat) (hx : a.eval x = .slice A n c) (hnl : ys.length = n) (hc : A = none → c = 0) (hrd : Rd enc size w w.heap.size A ys) (h1 : ∀ u ∈ ys.flatMap enc, u.oneCell' = true)
    (h63 : xs.length + n ≤ maxLen) (hbytes : (xs.length + n) * bytes ≤ 140737488355328) (hbase : base ≤ w.heap.size)
    (h : ∀ v' w', Own enc size w' base e v' (xs ++ ys) → Below base w w' → wpList P ops Q rest (a.put o.dst v') w') : wpList P ops Q (o :: rest) a w := by
  refine BigFrame.wpList_want hwd fun K hK => ?_
  cases A with
  | none =>
    obtain rfl := hc rfl
    obtain rfl := rd_none hrd
    obtain rfl : n = 0 := hnl.symm
    have hrun := run_append_owned_none (P := P) (w := w) base t o.type e i size ht hi _ xs.length (xs.flatMap enc) hown
    unfold Oper.wp
    simp [execOp, ho, resolve, invoke, builtin, hs, hx, hrun, Result.andThen]
    exact hK _ _ (h _ _ (by simpa using hown) (Below.refl _ _))
  | some ad =>
    have hnews : ∀ j u, (ys.flatMap enc)[j]? = some u → w.cell? (ad.add j) = some u := fun j u hj => by
      by_cases hy : ys = []
      · subst hy; simp at hj
      · obtain ⟨b, off, e, _, _⟩ := hrd hy
        simp only [Option.some.injEq] at e
        subst e
        exact rd_flat henc hrd j u hj
    obtain ⟨v', w', hrun, r1, r2, r3⟩ := run_append_own (P := P) w base t o.type e i z size bytes ht hi hz hsize hby hzs hsz _ xs.length (xs.flatMap enc) hown ad n c (ys.flatMap enc) (by rw [flat_length henc, hnl]) hnews h1 h63 hbytes hbase
    have hown' : Own enc size w' base e v' (xs ++ ys) := by unfold Own; simpa [hnl] using r1
    unfold Oper.wp
    simp [execOp, ho, resolve, invoke, builtin, hs, hx, hrun, Result.andThen]
    exact hK _ _ (h _ _ hown' (below_of_grown r2 (fun k hk => (World.ownsRow.lt hown k hk).1) hbase))

end Go.Proofs.Ytbbdepeifdbbdaa
