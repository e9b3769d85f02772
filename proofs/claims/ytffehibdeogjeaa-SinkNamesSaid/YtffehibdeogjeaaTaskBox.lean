/- A box of nine cells that is written whole, and one that gets one cell (chapters 27, 34). No condition. -/
import Derived.Test.YtffehibdeogjeaaTaskPend
import Derived.Laws.AppendOwnNone
namespace Go.Proofs.Ytffehibdeogjeaa
open Go.RowKit

def put9 (W : World) (b : Nat) (v0 v1 v2 v3 v4 v5 v6 v7 v8 : Value) : World :=
  ((((((((W.setCell ⟨b, 0, none⟩ v0).setCell ⟨b, 1, none⟩ v1).setCell ⟨b, 2, none⟩ v2).setCell ⟨b, 3, none⟩ v3).setCell ⟨b, 4, none⟩ v4).setCell ⟨b, 5, none⟩ v5).setCell ⟨b, 6, none⟩ v6).setCell ⟨b, 7, none⟩ v7).setCell ⟨b, 8, none⟩ v8
theorem put9_loc {W : World} {b : Nat} {c0 c1 c2 c3 c4 c5 c6 c7 c8 : Value} {l : List (Nat × List Value)} (h : Loc W ((b, [c0, c1, c2, c3, c4, c5, c6, c7, c8]) :: l)) (hne : ∀ q ∈ l, q.1 ≠ b) (v0 v1 v2 v3 v4 v5 v6 v7 v8 : Value) :
    Loc (put9 W b v0 v1 v2 v3 v4 v5 v6 v7 v8) ((b, [v0, v1, v2, v3, v4, v5, v6, v7, v8]) :: l) :=
  ((((((((h.put hne 0 v0 (by simp)).put hne 1 v1 (by simp)).put hne 2 v2 (by simp)).put hne 3 v3 (by simp)).put hne 4 v4 (by simp)).put hne 5 v5 (by simp)).put hne 6 v6 (by simp)).put hne 7 v7 (by simp)).put hne 8 v8 (by simp)
theorem put9_below {w W : World} {b : Nat} (h : Below w.heap.size w W) (hb : w.heap.size ≤ b) (v0 v1 v2 v3 v4 v5 v6 v7 v8 : Value) : Below w.heap.size w (put9 W b v0 v1 v2 v3 v4 v5 v6 v7 v8) := by
  unfold put9
  repeat refine below_put ?_ hb _
  exact h
theorem put9_size {W : World} {b : Nat} {v0 v1 v2 v3 v4 v5 v6 v7 v8 : Value} : (put9 W b v0 v1 v2 v3 v4 v5 v6 v7 v8).heap.size = W.heap.size := by
  unfold put9
  simp only [World.size_setCell]
theorem put9_own {α : Type} {enc : α → List Value} {sz : Nat} {W : World} {B b : Nat} {e : TypeId} {v : Value} {l : List α} (h : Own enc sz W B e v l) (hg : b < B) (v0 v1 v2 v3 v4 v5 v6 v7 v8 : Value) : Own enc sz (put9 W b v0 v1 v2 v3 v4 v5 v6 v7 v8) B e v l := by
  unfold put9
  repeat refine own_cell ?_ hg _ _
  exact h
theorem OwnT.put9 {W : World} {B b : Nat} {P M S E R L : Option Addr} {cp cm cs ce cr cl n1 n2 n3 n4 n5 n6 : Nat} {ps : List Sd} {ms : List Int} {st : List En} {es : List Ev} {rs : List Rw} {ls : List Rc} (h : OwnT W B P M S E R L cp cm cs ce cr cl n1 n2 n3 n4 n5 n6 ps ms st es rs ls) (hg : b < B) (v0 v1 v2 v3 v4 v5 v6 v7 v8 : Value) : OwnT (put9 W b v0 v1 v2 v3 v4 v5 v6 v7 v8) B P M S E R L cp cm cs ce cr cl n1 n2 n3 n4 n5 n6 ps ms st es rs ls := by
  obtain ⟨⟨g1, y1⟩, ⟨g2, y2⟩, ⟨g3, y3⟩, ⟨g4, y4⟩, ⟨g5, y5⟩, ⟨g6, y6⟩, ap⟩ := h
  exact ⟨⟨put9_own g1 hg _ _ _ _ _ _ _ _ _, y1⟩, ⟨put9_own g2 hg _ _ _ _ _ _ _ _ _, y2⟩, ⟨put9_own g3 hg _ _ _ _ _ _ _ _ _, y3⟩, ⟨put9_own g4 hg _ _ _ _ _ _ _ _ _, y4⟩, ⟨put9_own g5 hg _ _ _ _ _ _ _ _ _, y5⟩, ⟨put9_own g6 hg _ _ _ _ _ _ _ _ _, y6⟩, ap⟩
theorem OwnT.cell {W : World} {B b : Nat} {P M S E R L : Option Addr} {cp cm cs ce cr cl n1 n2 n3 n4 n5 n6 : Nat} {ps : List Sd} {ms : List Int} {st : List En} {es : List Ev} {rs : List Rw} {ls : List Rc} (h : OwnT W B P M S E R L cp cm cs ce cr cl n1 n2 n3 n4 n5 n6 ps ms st es rs ls) (hg : b < B) (i : Nat) (v : Value) : OwnT (W.setCell ⟨b, i, none⟩ v) B P M S E R L cp cm cs ce cr cl n1 n2 n3 n4 n5 n6 ps ms st es rs ls := by
  obtain ⟨⟨g1, y1⟩, ⟨g2, y2⟩, ⟨g3, y3⟩, ⟨g4, y4⟩, ⟨g5, y5⟩, ⟨g6, y6⟩, ap⟩ := h
  exact ⟨⟨own_cell g1 hg _ _, y1⟩, ⟨own_cell g2 hg _ _, y2⟩, ⟨own_cell g3 hg _ _, y3⟩, ⟨own_cell g4 hg _ _, y4⟩, ⟨own_cell g5 hg _ _, y5⟩, ⟨own_cell g6 hg _ _, y6⟩, ap⟩
end Go.Proofs.Ytffehibdeogjeaa
