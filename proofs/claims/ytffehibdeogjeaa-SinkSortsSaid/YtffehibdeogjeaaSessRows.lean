/- Rows of spans that the call itself made; an append that tells whether the row is a new one. No condition. -/
import Derived.Test.YtffehibdeogjeaaSessFuncs
import Derived.ArgAppend
namespace Go.Proofs.Ytffehibdeogjeaa
open Go.RowKit

theorem sp_new (w : World) (x : Int × Int) (t : TypeId) (g : Nat) (hg : g = w.heap.size) : ∀ j u, ([x].flatMap senc)[j]? = some u → (w.alloc (.cells #[.int .i64 x.1, .int .i64 x.2] t)).cell? ((⟨g, 0, none⟩ : Addr).add j) = some u := by
  subst hg
  intro j u hj
  match j, hj with
  | 0, hj => simp [senc] at hj; subst hj; simp [Addr.add]
  | 1, hj => simp [senc] at hj; subst hj; simp [Addr.add]
theorem own_sp {w : World} {base : Nat} {e : TypeId} {g n cap : Nat} {l : List (Int × Int)} (h : Own senc 2 w base e (.slice (some ⟨g, 0, none⟩) n cap) l) {k : Nat} {x : Int × Int} (hx : l[k]? = some x) :
    w.cell? ⟨g, k * 2, none⟩ = some (.int .i64 x.1) ∧ w.cell? ⟨g, k * 2 + 1, none⟩ = some (.int .i64 x.2) ∧ g < w.heap.size := by
  obtain ⟨b, off, e, hb, c1, c2⟩ := span_cells (Own.rd senc_len h) hx
  rcases h.2 with ⟨h', _⟩ | ⟨g', cap', cur, h', _, hg, _⟩
  · cases h'
  · simp only [Option.some.injEq, Addr.mk.injEq, and_true] at e
    obtain ⟨rfl, rfl⟩ := e
    simp only [Nat.zero_add] at c1 c2
    exact ⟨c1, c2, hb⟩

theorem flat_set (v : Int) (x : Int × Int) : ∀ (l : List (Int × Int)) (i : Nat), l[i]? = some x → (l.flatMap senc).set (i * 2 + 1) (.int .i64 v) = (l.set i (x.1, v)).flatMap senc
  | [], i, h => by simp at h
  | y :: l, 0, h => by
    simp at h
    subst h
    simp [senc]
  | y :: l, i + 1, h => by
    rw [show (i + 1) * 2 + 1 = (i * 2 + 1) + 1 + 1 by omega, List.flatMap_cons, List.set_cons_succ, List.flatMap_cons, ← flat_set v x l i (by simpa using h)]
    simp [senc]
theorem below_drewN' {B : Nat} {a w : World} (h : Below B a w) (m : Nat) : Below B a (w.drewN m) := ⟨h.os, h.tape, h.output, h.size, h.block⟩
/-- The end of an element stored. -/
theorem own_end {w : World} {base : Nat} {e : TypeId} {g n cap : Nat} {l : List (Int × Int)} (h : Own senc 2 w base e (.slice (some ⟨g, 0, none⟩) n cap) l) (hn : n = l.length) {i : Nat} {x : Int × Int} (hx : l[i]? = some x) (v : Int) :
    Own senc 2 (w.setCell ⟨g, i * 2 + 1, none⟩ (.int .i64 v)) base e (.slice (some ⟨g, 0, none⟩) n cap) (l.set i (x.1, v)) ∧ w.grownBy (w.setCell ⟨g, i * 2 + 1, none⟩ (.int .i64 v)) (some g) := by
  subst hn
  obtain ⟨h1, h2⟩ := World.ownsRow.stored h (i * 2 + 1) (.int .i64 v)
  refine ⟨?_, h2⟩
  rw [flat_set v x l i hx] at h1
  unfold Own
  rw [List.length_set]
  exact h1

theorem grown_any {w w' : World} {r : Option Nat} (h : w.grownBy w' none) : w.grownBy w' r := ⟨h.os, h.tape, h.output, h.size, fun k hk _ => h.block k hk (by simp)⟩
/-- One element appended to a row of the call's own: the same row, or a new one. -/
theorem wpList_append_fs {P : Program} {w : World} {ops : Array Oper} {rest : List Oper} {o : Oper} {a : Act} {Q : Exit → Act → World → Prop} (hgd : o.guard = none) (s x : Operand) (t : TypeId)
    (ho : o.op = .call { callee := .builtin .append, args := #[s, x], argTypes := #[t, t] })
    (base : Nat) (e : TypeId) (i : TypeInfo) (z : Value) (size bytes : Nat) (ht : P.underlying t = some (.slice e)) (hi : P.info? e = some i) (hz : i.zero = some z)
    (hsize : i.size = size) (hby : i.bytes = bytes) (hzs : z.cells.size = size) (hsz : 0 < size)
    {α : Type} (enc : α → List Value) (henc : ∀ y, (enc y).length = size) (v : Value) (l : List α) (y : α) (hs : a.eval s = v) (hown : Own enc size w base e v l)
    (ad : Addr) (c : Nat) (hx : a.eval x = .slice (some ad) 1 c) (hnews : ∀ j u, ([y].flatMap enc)[j]? = some u → w.cell? (ad.add j) = some u) (h1 : ∀ u ∈ [y].flatMap enc, u.oneCell' = true)
    (h63 : l.length + 1 ≤ maxLen) (hbytes : (l.length + 1) * bytes ≤ 140737488355328) (hbase : base ≤ w.heap.size)
    (h : ∀ v' w', Own enc size w' base e v' (l ++ [y]) → w.grownBy w' v.ownBlock → (v'.ownBlock = v.ownBlock ∨ ∀ k, v'.ownBlock = some k → w.heap.size ≤ k) → wpList P ops Q rest (a.put o.dst v') w') : wpList P ops Q (o :: rest) a w := by
  refine wpList_plain hgd fun K hK => ?_
  have hlen : ([y].flatMap enc).length = 1 * size := by rw [flat_length henc]; rfl
  have key : ∃ v' w', (Builtin.append_ #[t, t] o.type #[v, .slice (some ad) 1 c]).run P w = .ok v' w' ∧ Own enc size w' base e v' (l ++ [y]) ∧ w.grownBy w' v.ownBlock ∧ (v'.ownBlock = v.ownBlock ∨ ∀ k, v'.ownBlock = some k → w.heap.size ≤ k) := by
    have h0 := hown
    rcases hown.2 with ⟨rfl, hl0⟩ | ⟨g, cap, cur, rfl, hb, hg, hnc, hcm, hcs, htake⟩
    · have hl : l = [] := List.eq_nil_of_length_eq_zero hl0
      subst hl
      obtain ⟨v', w', hrun, r1, r2, _⟩ := run_append_own (P := P) w w.heap.size t o.type e i z size bytes ht hi hz hsize hby hzs hsz (.slice none 0 0) 0 [] (World.ownsRow_nil w _ e size) ad 1 c ([y].flatMap enc) hlen hnews h1 (by simpa using h63) (by simpa using hbytes) (Nat.le_refl _)
      have ho' : Own enc size w' w.heap.size e v' ([] ++ [y]) := by unfold Own; simpa using r1
      exact ⟨v', w', hrun, ho'.mono hbase, r2, .inr (fun k hk => (World.ownsRow.lt ho' k hk).1)⟩
    · by_cases hr : l.length + 1 ≤ cap
      · obtain ⟨v', w', hrun, r1, r2, _⟩ := run_append_own (P := P) w base t o.type e i z size bytes ht hi hz hsize hby hzs hsz _ l.length (l.flatMap enc) hown ad 1 c ([y].flatMap enc) hlen hnews h1 h63 hbytes hbase
        have hrun2 := run_append_room_cells (P := P) (w := w) t o.type e i ht hi g 0 l.length cap ad 1 c ([y].flatMap enc) (by rw [hsize]; exact hlen) hnews h1 hr (fun j hj => by
          rw [hlen] at hj
          simp only [World.cell?, hg, Nat.zero_add, hsize]
          have h2 := Nat.mul_le_mul_right size hr
          rw [Nat.add_mul] at h2
          have : l.length * size + j < cur.size := by rw [hcs]; omega
          simp [this]) (fun j _ => World.ownsRow.frozenAt h0 _)
        rw [hrun] at hrun2
        injection hrun2 with e1 e2
        refine ⟨v', w', hrun, ?_, r2, .inl (by rw [e1]; rfl)⟩
        unfold Own
        simpa using r1
      · have holds : ∀ j u, (l.flatMap enc)[j]? = some u → w.cell? ((⟨g, 0, none⟩ : Addr).add j) = some u := World.ownsRow.cells h0 (g := g) rfl
        obtain ⟨v', w', hrun, r1, r2⟩ := run_append_arg_grows (P := P) (w := w) t o.type e i z size bytes ht hi hz hsize hby hzs hsz ⟨g, 0, none⟩ l.length cap (l.flatMap enc) (flat_length henc l) holds ad 1 c ([y].flatMap enc) hlen hnews (by omega) h63 hbytes
        have ho' : Own enc size w' w.heap.size e v' (l ++ [y]) := by unfold Own; simpa using r1
        exact ⟨v', w', hrun, ho'.mono hbase, grown_any r2, .inr (fun k hk => (World.ownsRow.lt ho' k hk).1)⟩
  obtain ⟨v', w', hrun, k1, k2, k3⟩ := key
  unfold Oper.wp
  simp [execOp, ho, resolve, invoke, builtin, hs, hx, hrun, Result.andThen]
  exact hK _ _ (h v' w' k1 k2 k3)
end Go.Proofs.Ytffehibdeogjeaa
