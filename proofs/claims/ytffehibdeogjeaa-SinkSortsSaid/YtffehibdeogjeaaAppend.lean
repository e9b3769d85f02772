/- Appending one element to a slice that the call itself made: the kit's law, said of lists of elements. No condition. -/
import Derived.Test.YtffehibdeogjeaaOpen
namespace Go.Proofs.Ytffehibdeogjeaa
open Go.RowKit

theorem below_of_grown {base : Nat} {w w' : World} {row : Option Nat} (hg : w.grownBy w' row) (hr : ∀ k, row = some k → base ≤ k) (hb : base ≤ w.heap.size) : Below base w w' :=
  (Below.refl base w).grown hg hb hr

theorem wpList_append_elem {P : Program} {w : World} {ops : Array Oper} {rest : List Oper} {o : Oper} {a : Act} {Q : Exit → Act → World → Prop} (hgd : o.guard = none) (s x : Operand) (t : TypeId)
    (ho : o.op = .call { callee := .builtin .append, args := #[s, x], argTypes := #[t, t] })
    (base : Nat) (e : TypeId) (i : TypeInfo) (z : Value) (size bytes : Nat) (ht : P.underlying t = some (.slice e)) (hi : P.info? e = some i) (hz : i.zero = some z)
    (hsize : i.size = size) (hby : i.bytes = bytes) (hzs : z.cells.size = size) (hsz : 0 < size)
    {α : Type} (enc : α → List Value) (henc : ∀ y, (enc y).length = size) (v : Value) (l : List α) (y : α) (hs : a.eval s = v) (hown : Own enc size w base e v l)
    (ad : Addr) (c : Nat) (hx : a.eval x = .slice (some ad) 1 c) (hnews : ∀ j u, (enc y)[j]? = some u → w.cell? (ad.add j) = some u) (h1 : ∀ u ∈ enc y, u.oneCell' = true)
    (h63 : l.length + 1 ≤ maxLen) (hbytes : (l.length + 1) * bytes ≤ 140737488355328) (hbase : base ≤ w.heap.size)
    (h : ∀ v' w', Own enc size w' base e v' (l ++ [y]) → w.grownBy w' v.ownBlock → Below base w w' → wpList P ops Q rest (a.put o.dst v') w') : wpList P ops Q (o :: rest) a w :=
  wpList_append_own w hgd s x t ho base e i z size bytes ht hi hz hsize hby hzs hsz v l.length (l.flatMap enc) hs hown ad 1 c (enc y) hx (by rw [henc]; omega) hnews h1 h63 hbytes hbase
    fun v' w' h2 h3 _ => h v' w' (by unfold Own; simpa using h2) h3 (below_of_grown h3 (fun k hk => (World.ownsRow.lt hown k hk).1) hbase)
end Go.Proofs.Ytffehibdeogjeaa
