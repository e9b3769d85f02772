/- Chapter 18: appends in a region that draws its order, whose guards say yes; the first of a heap behind pushing. No condition. -/
import Derived.Test.YtffehibdeogjeaaTimersLawKit
import Derived.Deep.DeepCutAuto
namespace Go.Proofs.Ytffehibdeogjeaa
open Go.RowKit

/-- An append to an empty row without room, of some elements: a new row. -/
theorem step_append_grow {P : Program} {w : World} {ops : Array Oper} {o : Oper} {a : Act} {K : Act → World → Prop} {Q : Exit → Act → World → Prop} {E : Prop} (hw : Region.wanted o (yielded ops a.tmps) = true) (s x : Operand) (t : TypeId)
    (ho : o.op = .call { callee := .builtin .append, args := #[s, x], argTypes := #[t, t] })
    (e : TypeId) (i : TypeInfo) (z : Value) (size bytes : Nat) (ht : P.underlying t = some (.slice e)) (hi : P.info? e = some i) (hz : i.zero = some z)
    (hsize : i.size = size) (hby : i.bytes = bytes) (hzs : z.cells.size = size) (hsz : 0 < size)
    {α : Type} (enc : α → List Value) (henc : ∀ y, (enc y).length = size) (g0 n m c : Nat) (ys : List α) (hs : a.eval s = .slice (some ⟨g0, 0, none⟩) 0 0)
    (ad : Addr) (hx : a.eval x = .slice (some ad) n c) (hnl : ys.length = n) (hnm : n = m) (hn0 : 0 < n) (hnews : ∀ j u, (ys.flatMap enc)[j]? = some u → w.cell? (ad.add j) = some u)
    (h63 : n ≤ maxLen) (hbytes : n * bytes ≤ 140737488355328)
    (h : ∀ g cap w', Own enc size w' w.heap.size e (.slice (some ⟨g, 0, none⟩) m cap) ys → Below w.heap.size w w' → K (a.put o.dst (.slice (some ⟨g, 0, none⟩) m cap)) w') :
    if Region.wanted o (yielded ops a.tmps) = true then Oper.wp P o a w K Q else E := by
  rw [if_pos hw]
  subst hnm
  obtain ⟨v', w', hrun, r1, r2⟩ := run_append_arg_grows (P := P) (w := w) t o.type e i z size bytes ht hi hz hsize hby hzs hsz ⟨g0, 0, none⟩ 0 0 [] (by simp) (by simp) ad n c (ys.flatMap enc) (by rw [flat_length henc, hnl]) hnews (by omega) (by omega) (by rw [Nat.zero_add]; exact hbytes)
  have hown : Own enc size w' w.heap.size e v' ys := by unfold Own; simpa [hnl] using r1
  obtain ⟨g, cap, rfl, -, -⟩ := World.ownsRow.form hown (by omega)
  rw [hnl] at hown
  unfold Oper.wp
  simp [execOp, ho, resolve, invoke, builtin, hs, hx, hrun, Result.andThen]
  rw [hnl]
  exact h g cap w' hown (below_of_grown r2 (fun k hk => by cases hk) (Nat.le_refl _))
/-- An append of nothing to an empty row. -/
theorem step_append_same {P : Program} {w : World} {ops : Array Oper} {o : Oper} {a : Act} {K : Act → World → Prop} {Q : Exit → Act → World → Prop} {E : Prop} (hw : Region.wanted o (yielded ops a.tmps) = true) (s x : Operand) (t : TypeId)
    (ho : o.op = .call { callee := .builtin .append, args := #[s, x], argTypes := #[t, t] })
    (e : TypeId) (i : TypeInfo) (ht : P.underlying t = some (.slice e)) (hi : P.info? e = some i)
    (g0 c : Nat) (hs : a.eval s = .slice (some ⟨g0, 0, none⟩) 0 0)
    (A : Option Addr) (hx : a.eval x = .slice A 0 c) (hc : A = none → c = 0)
    (h : K (a.put o.dst (.slice (some ⟨g0, 0, none⟩) 0 0)) w) :
    if Region.wanted o (yielded ops a.tmps) = true then Oper.wp P o a w K Q else E := by
  rw [if_pos hw]
  cases A with
  | none =>
    obtain rfl := hc rfl
    unfold Oper.wp
    simp [execOp, ho, resolve, invoke, builtin, hs, hx, Builtin.append_, run_underlying ht, sizeOf, typeInfo, hi, Builtin.lenOf, Builtin.firstCells, storeCells, Result.andThen]
    exact h
  | some ad =>
    have hrun := run_append_room_cells (P := P) (w := w) t o.type e i ht hi g0 0 0 0 ad 0 c [] (by simp) (by simp) (by simp) (by omega) (by simp) (by simp)
    unfold Oper.wp
    simp [execOp, ho, resolve, invoke, builtin, hs, hx, hrun, Result.andThen]
    exact h
/-- An append to a row of one's own. -/
theorem step_append_more {P : Program} {w : World} {ops : Array Oper} {o : Oper} {a : Act} {K : Act → World → Prop} {Q : Exit → Act → World → Prop} {E : Prop} (hw : Region.wanted o (yielded ops a.tmps) = true) (s x : Operand) (t : TypeId)
    (ho : o.op = .call { callee := .builtin .append, args := #[s, x], argTypes := #[t, t] })
    (base : Nat) (e : TypeId) (i : TypeInfo) (z : Value) (size bytes : Nat) (ht : P.underlying t = some (.slice e)) (hi : P.info? e = some i) (hz : i.zero = some z)
    (hsize : i.size = size) (hby : i.bytes = bytes) (hzs : z.cells.size = size) (hsz : 0 < size)
    {α : Type} (enc : α → List Value) (henc : ∀ y, (enc y).length = size) (g0 c0 n0 m : Nat) (xs ys : List α) (hs : a.eval s = .slice (some ⟨g0, 0, none⟩) n0 c0) (hown : Own enc size w base e (.slice (some ⟨g0, 0, none⟩) n0 c0) xs) (hn0 : xs.length = n0)
    (ad : Addr) (n c : Nat) (hx : a.eval x = .slice (some ad) n c) (hnl : ys.length = n) (hnp : 0 < n) (hnews : ∀ j u, (ys.flatMap enc)[j]? = some u → w.cell? (ad.add j) = some u) (h1 : ∀ u ∈ ys.flatMap enc, u.oneCell' = true) (hm : n0 + n = m)
    (h63 : m ≤ maxLen) (hbytes : m * bytes ≤ 140737488355328) (hbase : base ≤ w.heap.size)
    (h : ∀ g cap w', Own enc size w' base e (.slice (some ⟨g, 0, none⟩) m cap) (xs ++ ys) → w.grownBy w' (some g0) → Below base w w' → K (a.put o.dst (.slice (some ⟨g, 0, none⟩) m cap)) w') :
    if Region.wanted o (yielded ops a.tmps) = true then Oper.wp P o a w K Q else E := by
  rw [if_pos hw]
  subst hn0
  obtain ⟨v', w', hrun, r1, r2, _⟩ := run_append_own (P := P) w base t o.type e i z size bytes ht hi hz hsize hby hzs hsz _ xs.length (xs.flatMap enc) hown ad n c (ys.flatMap enc) (by rw [flat_length henc, hnl]) hnews h1 (by omega) (by rw [hm]; exact hbytes) hbase
  have hown' : Own enc size w' base e v' (xs ++ ys) := by unfold Own; simpa [hnl] using r1
  obtain ⟨g, cap, rfl, -, -⟩ := World.ownsRow.form hown' (by rw [List.length_append]; omega)
  rw [List.length_append, hnl, hm] at hown'
  unfold Oper.wp
  simp [execOp, ho, resolve, invoke, builtin, hs, hx, hrun, Result.andThen]
  rw [hnl, hm]
  exact h g cap w' hown' r2 (below_of_grown r2 (fun k hk => (World.ownsRow.lt hown k hk).1) hbase)

theorem tm_below {X Y : World} {g : Nat} {cs : List Value} (hb : Below X.heap.size X Y) (h : (∀ j u, cs[j]? = some u → X.cell? ((⟨g, 0, none⟩ : Addr).add j) = some u) ∧ g < X.heap.size) :
    (∀ j u, cs[j]? = some u → Y.cell? ((⟨g, 0, none⟩ : Addr).add j) = some u) ∧ g < Y.heap.size := by
  refine ⟨fun j u hj => ?_, Nat.lt_of_lt_of_le h.2 hb.size⟩
  have e : ((⟨g, 0, none⟩ : Addr).add j).block = g := by unfold Addr.add; split <;> rfl
  exact (hb.cell (by rw [e]; exact h.2)).trans (h.1 j u hj)
/-- The first of a heap behind pushing. -/
theorem push_head {l : List Tm} {x : Tm} (hv : thv l) : (pushL tlt t0 l x)[0]? = some (if 0 < l.length ∧ tlt x (l.getD 0 t0) = false then l.getD 0 t0 else x) := by
  have hh := pushL_heap tsto t0 l x hv.2
  have hp := pushL_perm tlt t0 l x
  obtain ⟨M, hM⟩ : ∃ M, M = pushL tlt t0 l x := ⟨_, rfl⟩
  rw [← hM] at hh hp ⊢
  have hml : M.length = l.length + 1 := by rw [hM, pushL_length]
  obtain ⟨y, hy⟩ : ∃ y, M[0]? = some y := ⟨_, List.getElem?_eq_getElem (by omega)⟩
  rw [hy]
  have hmin : ∀ z ∈ l ++ [x], tlt z y = false := fun z hz => by
    obtain ⟨k, hk, hke⟩ := List.getElem_of_mem (hp.mem_iff.2 hz)
    have := heap_first tsto hh k hk
    rwa [getD_some hy, getD_some (List.getElem?_eq_getElem hk), hke] at this
  have hym : y ∈ l ++ [x] := hp.mem_iff.1 (List.mem_of_getElem? hy)
  congr 1
  split
  · rename_i hc
    obtain ⟨h0, h1⟩ := hc
    have hl0 : l.getD 0 t0 = l[0] := getD_some (List.getElem?_eq_getElem h0)
    refine tsto.tri _ _ ?_ (hmin _ (List.mem_append_left _ (by rw [hl0]; exact List.getElem_mem h0)))
    rcases List.mem_append.1 hym with h | h
    · obtain ⟨k, hk, rfl⟩ := List.getElem_of_mem h
      have := heap_first tsto hv.2 k hk
      rwa [getD_some (List.getElem?_eq_getElem hk)] at this
    · simp at h; rw [h]; exact h1
  · rename_i hc
    refine tsto.tri _ _ ?_ (hmin x (by simp))
    rcases List.mem_append.1 hym with h | h
    · obtain ⟨k, hk, rfl⟩ := List.getElem_of_mem h
      have h2 : tlt x (l.getD 0 t0) = true := by
        cases hq : tlt x (l.getD 0 t0) with
        | true => rfl
        | false => exact absurd ⟨by omega, hq⟩ hc
      have := heap_first tsto hv.2 k hk
      rw [getD_some (List.getElem?_eq_getElem hk)] at this
      cases hq : tlt l[k] x with
      | false => rfl
      | true => rw [tsto.tr _ _ _ hq h2] at this; cases this
    · simp at h; rw [h]; exact tsto.irr _
end Go.Proofs.Ytffehibdeogjeaa
