/- Lemmas and contracts for the statement, joined into one text: Kit3, ExPlain, SessFuncs, SessRows, SessWith, SessRight, ExStk, NodeFuncs. The conditions of each stand at its head. -/
import Derived.Test.YtnljihjhmgpcoaaGreatJ4
import Derived.Test.YtnljihjhmgpcoaaGreatJ3
import Derived.Test.YtnljihjhmgpcoaaGreatJ1
import Derived.Laws.AppendOwnNone
import Derived.ArgAppend
import Derived.OwnWalk
import Derived.Laws.MakeOwn
import Derived.Test.YtnljihjhmgpcoaaGreatJ5
import Derived.Lib.SliceRun
namespace Go.Proofs.YtnljihjhmgpcoaaGreat
open Go.RowKit Go.ChangeShapes Go.WideShapes Go.ChangeAt Go.Deep
theorem grown_refl (w : World) (r : Option Nat) : w.grownBy w r := ⟨rfl, rfl, rfl, Nat.le_refl _, fun _ _ _ => rfl⟩
theorem grown_trans {w w1 w2 : World} {r : Option Nat} (h1 : w.grownBy w1 r) (h2 : w1.grownBy w2 r) : w.grownBy w2 r :=
 ⟨h2.os.trans h1.os, h2.tape.trans h1.tape, h2.output.trans h1.output, Nat.le_trans h1.size h2.size, fun k hk hne => (h2.block k (Nat.lt_of_lt_of_le hk h1.size) hne).trans (h1.block k hk hne)⟩
/-- A slice that reads gives its cells, all of them. -/
theorem rd_flat {α : Type} {enc : α → List Value} {sz : Nat} {w : World} {B : Nat} {b off : Nat} {l : List α} (henc : ∀ x, (enc x).length = sz) (h : Rd enc sz w B (some ⟨b, off, none⟩) l) :
  ∀ j u, (l.flatMap enc)[j]? = some u → w.cell? ((⟨b, off, none⟩ : Addr).add j) = some u := by
 intro j u hj
 have hlen : j < l.length * sz := by rw [← flat_length henc]; exact (List.getElem?_eq_some_iff.1 hj).1
 have hsz : 0 < sz := by
  rcases Nat.eq_zero_or_pos sz with h0 | h0
  ·subst h0; simp at hlen
  ·exact h0
 have hk : j / sz < l.length := Nat.div_lt_of_lt_mul (by rw [Nat.mul_comm]; exact hlen)
 obtain ⟨x, hx⟩ : ∃ x, l[j / sz]? = some x := ⟨_, List.getElem?_eq_getElem hk⟩
 obtain ⟨b', off', e, _, hc⟩ := h.at_ hx
 simp only [Option.some.injEq, Addr.mk.injEq, and_true] at e
 obtain ⟨rfl, rfl⟩ := e
 have hmod := Nat.mod_lt j hsz
 have hje : j / sz * sz + j % sz = j := by rw [Nat.mul_comm]; exact Nat.div_add_mod j sz
 have hu : (enc x)[j % sz]? = some u := by
  obtain ⟨v, hv⟩ : ∃ v, (enc x)[j % sz]? = some v := ⟨_, List.getElem?_eq_getElem (by rw [henc]; exact hmod)⟩
  have := flat_at henc l (j / sz) (j % sz) x v hx hv
  rw [hje, hj] at this
  rw [hv, this]
 have := hc (j % sz) u hu
 rw [Nat.add_assoc, hje] at this
 rw [← this]
 congr 1
 unfold Addr.add; split <;> simp_all
theorem rd_grown {α : Type} {enc : α → List Value} {sz : Nat} {w W : World} {A : Option Addr} {l : List α} (h : Rd enc sz w w.heap.size A l) (hb : Below w.heap.size w W) : Rd enc sz W W.heap.size A l := h.grow hb
theorem own_shape {α : Type} {enc : α → List Value} {sz : Nat} {w : World} {base : Nat} {e : TypeId} {v : Value} {l : List α} (h : Own enc sz w base e v l) : ∃ A c, v = .slice A l.length c := by
 rcases h.2 with ⟨h', h0⟩ | ⟨g, cap, cur, h', _⟩
 ·exact ⟨none, 0, by rw [h', h0]⟩
 ·exact ⟨_, _, h'⟩
theorem own_shape_n {α : Type} {enc : α → List Value} {sz n : Nat} {w : World} {base : Nat} {e : TypeId} {v : Value} {l : List α} (h : Own enc sz w base e v l) (hn : l.length = n) : ∃ A c, v = .slice A n c ∧ n ≤ c := by
 subst hn
 rcases h.2 with ⟨h', h0⟩ | ⟨g, cap, cur, h', _, _, hc, _⟩
 ·exact ⟨none, 0, by rw [h', h0], by omega⟩
 ·exact ⟨_, _, h', hc⟩
theorem own_some {α : Type} {enc : α → List Value} {sz : Nat} {w : World} {base : Nat} {e : TypeId} {v : Value} {l : List α} (h : Own enc sz w base e v l) (hv : v ≠ .slice none 0 0) : ∃ g cap, v = .slice (some ⟨g, 0, none⟩) l.length cap ∧ l.length ≤ cap ∧ g < w.heap.size := by
 rcases h.2 with ⟨h', _⟩ | ⟨g, cap, cur, h', hb, hg, hc, _⟩
 ·exact absurd h' hv
 ·refine ⟨g, cap, h', hc, ?_⟩
  rcases Nat.lt_or_ge g w.heap.size with hlt | hge
  ·exact hlt
  ·rw [Array.getElem?_eq_none hge] at hg; cases hg
/-- A list copied behind an empty one that was made: it lies at an address. -/
theorem wpList_append_copy {P : Program} {w : World} {ops : Array Oper} {rest : List Oper} {o : Oper} {a : Act} {Q : Exit → Act → World → Prop} (hgd : o.guard = none) (s x : Operand) (t : TypeId)
  (ho : o.op = .call { callee := .builtin .append, args := #[s, x], argTypes := #[t, t] })
  (base : Nat) (e : TypeId) (i : TypeInfo) (z : Value) (size bytes : Nat) (ht : P.underlying t = some (.slice e)) (hi : P.info? e = some i) (hz : i.zero = some z)
  (hsize : i.size = size) (hby : i.bytes = bytes) (hzs : z.cells.size = size) (hsz : 0 < size)
  {α : Type} (enc : α → List Value) (henc : ∀ y, (enc y).length = size) (g0 c0 : Nat) (ys : List α) (hs : a.eval s = .slice (some ⟨g0, 0, none⟩) 0 c0) (hown : Own enc size w base e (.slice (some ⟨g0, 0, none⟩) 0 c0) ([] : List α))
  (A : Option Addr) (n c : Nat) (hx : a.eval x = .slice A n c) (hnl : ys.length = n) (hc : A = none → c = 0) (hrd : Rd enc size w w.heap.size A ys) (h1 : ∀ u ∈ ys.flatMap enc, u.oneCell' = true)
  (h63 : n ≤ maxLen) (hbytes : n * bytes ≤ 140737488355328) (hbase : base ≤ w.heap.size)
  (h : ∀ g cap w', Own enc size w' base e (.slice (some ⟨g, 0, none⟩) n cap) ys → n ≤ cap → g < w'.heap.size → Below base w w' → wpList P ops Q rest (a.put o.dst (.slice (some ⟨g, 0, none⟩) n cap)) w') : wpList P ops Q (o :: rest) a w := by
 cases A with
 | none =>
  obtain rfl := hc rfl
  have hy : ys = [] := by
   rcases List.eq_nil_or_concat ys with h | ⟨l', x, h⟩
   ·exact h
   ·obtain ⟨_, _, e, _⟩ := hrd (by rw [h]; simp)
    cases e
  subst hy
  obtain rfl : n = 0 := hnl.symm
  obtain ⟨g, cap, hv, hcc, hg⟩ := own_some hown (by simp)
  simp only [Value.slice.injEq, Option.some.injEq, Addr.mk.injEq, and_true] at hv
  obtain ⟨rfl, -, rfl⟩ := hv
  exact wpList_append_own_none hgd s x t ho base e i size ht hi _ 0 [] hs hown hx (h _ _ _ hown hcc hg (Below.refl _ _))
 | some ad =>
  refine wpList_plain hgd fun K hK => ?_
  have hnews : ∀ j u, (ys.flatMap enc)[j]? = some u → w.cell? (ad.add j) = some u := fun j u hj => by
   by_cases hy : ys = []
   ·subst hy; simp at hj
   ·obtain ⟨b, off, e, _, _⟩ := hrd hy
    simp only [Option.some.injEq] at e
    subst e
    exact rd_flat henc hrd j u hj
  obtain ⟨v', w', hrun, r1, r2, r3⟩ := run_append_own (P := P) w base t o.type e i z size bytes ht hi hz hsize hby hzs hsz _ 0 [] hown ad n c (ys.flatMap enc) (by rw [flat_length henc, hnl]) hnews h1 (by omega) (by rw [Nat.zero_add]; exact hbytes) hbase
  have hv' : v' ≠ .slice none 0 0 := fun e => by have := (r3.1 e).1; cases this
  have hown' : Own enc size w' base e v' ys := by unfold Own; simpa [hnl] using r1
  obtain ⟨g, cap, rfl, hcc, hg⟩ := own_some hown' hv'
  rw [hnl] at hown' hcc
  unfold Oper.wp
  simp [execOp, ho, resolve, invoke, builtin, hs, hx, hrun, Result.andThen]
  refine hK _ _ ?_
  rw [hnl]
  exact h _ _ _ hown' hcc hg (below_of_grown r2 (fun k hk => (World.ownsRow.lt hown k hk).1) hbase)
theorem own_shape_z {α : Type} {enc : α → List Value} {sz n : Nat} {w : World} {base : Nat} {e : TypeId} {v : Value} {l : List α} (h : Own enc sz w base e v l) (hn : l.length = n) : ∃ A c, v = .slice A n c ∧ n ≤ c ∧ (A = none → c = 0) := by
 subst hn
 rcases h.2 with ⟨h', h0⟩ | ⟨g, cap, cur, h', _, _, hc, _⟩
 ·exact ⟨none, 0, by rw [h', h0], by omega, fun _ => rfl⟩
 ·exact ⟨_, _, h', hc, fun e => by cases e⟩
theorem rd_none {α : Type} {enc : α → List Value} {sz : Nat} {w : World} {B : Nat} {l : List α} (h : Rd enc sz w B none l) : l = [] := by
 rcases List.eq_nil_or_concat l with h' | ⟨l', x, h'⟩
 ·exact h'
 ·obtain ⟨_, _, e, _⟩ := h (by rw [h']; simp)
  cases e
/-- A block of no cells is an empty row. -/
theorem own_empty {α : Type} {enc : α → List Value} {sz : Nat} {w : World} {base : Nat} {e : TypeId} {g : Nat} (hg : w.heap[g]? = some (.cells #[] e (0, 0))) (hb : base ≤ g) : Own enc sz w base e (.slice (some ⟨g, 0, none⟩) 0 0) ([] : List α) :=
 ⟨by simp, .inr ⟨g, 0, #[], rfl, hb, hg, Nat.le_refl _, by simp [maxLen], by simp, by simp⟩⟩
theorem own_drew {α : Type} {enc : α → List Value} {sz : Nat} {w : World} {base : Nat} {e : TypeId} {v : Value} {l : List α} (h : Own enc sz w base e v l) : Own enc sz w.drew base e v l := h
theorem putW_grown (b o : Nat) : ∀ (us : List Value) (j : Nat) (W : World), W.grownBy (putW W b o j us) (some b)
 | [], _, W => grown_refl W _
 | u :: us, j, W => by
  refine grown_trans (w1 := W.setCell ⟨b, o + j, none⟩ u) ⟨rfl, rfl, rfl, by simp, fun k hk hne => Below.heap_setCell _ _ _ _ (fun e => hne (by rw [e]))⟩ (putW_grown b o us (j + 1) _)
theorem Loc.grown {w w' : World} {r : Option Nat} (hg : w.grownBy w' r) : ∀ {L : List (Nat × List Value)}, (∀ q ∈ L, some q.1 ≠ r) → Loc w L → Loc w' L
 | [], _, _ => trivial
 | (b, _) :: _, hq, ⟨h1, h2, h3, h4⟩ => by
  have e : w'.heap[b]? = w.heap[b]? := hg.block b h1 (hq _ (List.mem_cons_self))
  exact ⟨Nat.lt_of_lt_of_le h1 hg.size, fun i => (World.cell?_of_block (a := ⟨b, i, none⟩) e).trans (h2 i), fun i => (World.frozen?_of_block (a := ⟨b, i, none⟩) e).trans (h3 i), h4.grown hg (fun q h => hq q (List.mem_cons_of_mem _ h))⟩
theorem own_apart {α : Type} {enc : α → List Value} {sz : Nat} {w : World} {base g : Nat} {e : TypeId} {v : Value} {l : List α} (h : Own enc sz w base e v l) (hg : g < base) : v.ownBlock = none ∨ v.ownBlock ≠ some g := by
 right
 intro e
 have := (World.ownsRow.lt h g e).1
 omega
theorem own_apart' {α : Type} {enc : α → List Value} {sz : Nat} {w : World} {base g : Nat} {e : TypeId} {v : Value} {l : List α} (h : Own enc sz w base e v l) (hg : w.heap.size ≤ g) : v.ownBlock = none ∨ v.ownBlock ≠ some g := by
 right
 intro e
 have := (World.ownsRow.lt h g e).2
 omega
/-- The length of a slice. -/
def lenV : Value → Nat
 | .slice _ n _ => n
 | _ => 0
theorem below_drewN' {B : Nat} {a w : World} (h : Below B a w) (m : Nat) : Below B a (w.drewN m) := ⟨h.os, h.tape, h.output, h.size, h.block⟩
theorem grown_any {w w' : World} {r : Option Nat} (h : w.grownBy w' none) : w.grownBy w' r := ⟨h.os, h.tape, h.output, h.size, fun k hk _ => h.block k hk (by simp)⟩
/-- One element appended to a row of the call's own: the same row, or a new one. -/
theorem wpList_append_fs {P : Program} {w : World} {ops : Array Oper} {rest : List Oper} {o : Oper} {a : Act} {Q : Exit → Act → World → Prop} (hgd : o.guard = none) (s x : Operand) (t : TypeId)
  (ho : o.op = .call { callee := .builtin .append, args := #[s, x], argTypes := #[t, t] })
  (base : Nat) (e : TypeId) (i : TypeInfo) (z : Value) (size bytes : Nat) (ht : P.underlying t = some (.slice e)) (hi : P.info? e = some i) (hz : i.zero = some z)
  (hsize : i.size = size) (hby : i.bytes = bytes) (hzs : z.cells.size = size) (hsz : 0 < size)
  {α : Type} (enc : α → List Value) (henc : ∀ y, (enc y).length = size) (v : Value) (l : List α) (y : α) (hs : a.eval s = v) (hown : Own enc size w base e v l)
  (ad : Addr) (c : Nat) (hx : a.eval x = .slice (some ad) 1 c) (hnews : ∀ j u, ([y].flatMap enc)[j]? = some u → w.cell? (ad.add j) = some u) (h1 : ∀ u ∈ [y].flatMap enc, u.oneCell' = true)
  (h63 : l.length + 1 ≤ maxLen) (hbytes : (l.length + 1) * bytes ≤ 140737488355328) (hbase : base ≤ w.heap.size)
  (h : ∀ v' w', Own enc size w' base e v' (l ++ [y]) → w.grownBy w' v.ownBlock → (v'.ownBlock = v.ownBlock ∨ ∀ k, v'.ownBlock = some k → w.heap.size ≤ k) → wpList P ops Q rest (a.put o.dst v') w') : wpList P ops Q (o :: rest) a w := by
 refine wpList_plain hgd fun K hK => ?_
 have hlen : ([y].flatMap enc).length = 1 * size := by rw [flat_length henc]; rfl
 have key : ∃ v' w', (Builtin.append_ #[t, t] o.type #[v, .slice (some ad) 1 c]).run P w = .ok v' w' ∧ Own enc size w' base e v' (l ++ [y]) ∧ w.grownBy w' v.ownBlock ∧ (v'.ownBlock = v.ownBlock ∨ ∀ k, v'.ownBlock = some k → w.heap.size ≤ k) := by
  have h0 := hown
  rcases hown.2 with ⟨rfl, hl0⟩ | ⟨g, cap, cur, rfl, hb, hg, hnc, hcm, hcs, htake⟩
  ·have hl : l = [] := List.eq_nil_of_length_eq_zero hl0
   subst hl
   obtain ⟨v', w', hrun, r1, r2, _⟩ := run_append_own (P := P) w w.heap.size t o.type e i z size bytes ht hi hz hsize hby hzs hsz (.slice none 0 0) 0 [] (World.ownsRow_nil w _ e size) ad 1 c ([y].flatMap enc) hlen hnews h1 (by simpa using h63) (by simpa using hbytes) (Nat.le_refl _)
   have ho' : Own enc size w' w.heap.size e v' ([] ++ [y]) := by unfold Own; simpa using r1
   exact ⟨v', w', hrun, ho'.mono hbase, r2, .inr (fun k hk => (World.ownsRow.lt ho' k hk).1)⟩
  ·by_cases hr : l.length + 1 ≤ cap
   ·obtain ⟨v', w', hrun, r1, r2, _⟩ := run_append_own (P := P) w base t o.type e i z size bytes ht hi hz hsize hby hzs hsz _ l.length (l.flatMap enc) hown ad 1 c ([y].flatMap enc) hlen hnews h1 h63 hbytes hbase
    have hrun2 := run_append_room_cells (P := P) (w := w) t o.type e i ht hi g 0 l.length cap ad 1 c ([y].flatMap enc) (by rw [hsize]; exact hlen) hnews h1 hr (fun j hj => by
     rw [hlen] at hj
     simp only [World.cell?, hg, Nat.zero_add, hsize]
     have h2 := Nat.mul_le_mul_right size hr
     rw [Nat.add_mul] at h2
     have : l.length * size + j < cur.size := by rw [hcs]; omega
     simp [this]) (fun j _ => World.ownsRow.frozenAt h0 _)
    rw [hrun] at hrun2
    injection hrun2 with e1 e2
    refine ⟨v', w', hrun, ?_, r2, .inl (by rw [e1]; rfl)⟩
    unfold Own
    simpa using r1
   ·have holds : ∀ j u, (l.flatMap enc)[j]? = some u → w.cell? ((⟨g, 0, none⟩ : Addr).add j) = some u := World.ownsRow.cells h0 (g := g) rfl
    obtain ⟨v', w', hrun, r1, r2⟩ := run_append_arg_grows (P := P) (w := w) t o.type e i z size bytes ht hi hz hsize hby hzs hsz ⟨g, 0, none⟩ l.length cap (l.flatMap enc) (flat_length henc l) holds ad 1 c ([y].flatMap enc) hlen hnews (by omega) h63 hbytes
    have ho' : Own enc size w' w.heap.size e v' (l ++ [y]) := by unfold Own; simpa using r1
    exact ⟨v', w', hrun, ho'.mono hbase, grown_any r2, .inr (fun k hk => (World.ownsRow.lt ho' k hk).1)⟩
 obtain ⟨v', w', hrun, k1, k2, k3⟩ := key
 unfold Oper.wp
 simp [execOp, ho, resolve, invoke, builtin, hs, hx, hrun, Result.andThen]
 exact hK _ _ (h v' w' k1 k2 k3)
section
variable {H : Type} {enc : TypeId × Value → H} {P : Program} {w : World} {base : Nat} {spare : Nat → Bool} {held : Bool}
end
end Go.Proofs.YtnljihjhmgpcoaaGreat
namespace Go.Proofs.YtnljihjhmgpcoaaGreat
open Go.RowKit
/-- A node. -/
structure Nd where
 k : Int
 n : Int
 a : Int
 b : Int
 p : Int
deriving DecidableEq
instance : Inhabited Nd := ⟨⟨0, 0, 0, 0, 0⟩⟩
def nenc (x : Nd) : List Value := [.int .u8 x.k, .int .i64 x.n, .int .i64 x.a, .int .i64 x.b, .int .i64 x.p]
theorem nenc_len (x : Nd) : (nenc x).length = 5 := rfl
/-- An expression. -/
inductive Ex where
 | lf (k n p : Int)
 | un (k p : Int) (e : Ex)
 | bn (k p : Int) (e f : Ex)
deriving DecidableEq
instance : Inhabited Ex := ⟨.lf 0 0 0⟩
def Ex.size : Ex → Nat
 | .lf _ _ _ => 1
 | .un _ _ e => e.size + 1
 | .bn _ _ e f => e.size + f.size + 1
def Ex.deep : Ex → Nat
 | .lf _ _ _ => 1
 | .un _ _ e => e.deep + 1
 | .bn _ _ e f => max e.deep f.deep + 1
def Ex.kind : Ex → Int
 | .lf k _ _ => k
 | .un k _ _ => k
 | .bn k _ _ _ => k
def Ex.num : Ex → Int
 | .lf _ n _ => n
 | _ => 0
def Ex.pos : Ex → Int
 | .lf _ _ p => p
 | .un _ p _ => p
 | .bn _ p _ _ => p
def Ex.flat : Ex → Int → List Nd
 | .lf k n p, _ => [⟨k, n, 0, 0, p⟩]
 | .un k p e, o => e.flat o ++ [⟨k, 0, o + e.size - 1, 0, p⟩]
 | .bn k p e f, o => e.flat o ++ (f.flat (o + e.size) ++ [⟨k, 0, o + e.size - 1, o + e.size + f.size - 1, p⟩])
def atp (p : Int) : Prop := 0 ≤ p ∧ p ≤ 400
def lfok (k n : Int) : Prop := (1 ≤ k ∧ k ≤ 4) ∧ (0 ≤ n ∧ n ≤ 9223372036854775807) ∧ (k ≠ 1 → n = 0)
def Ex.ok : Ex → Prop
 | .lf k n p => lfok k n ∧ atp p
 | .un k p e => (k = 5 ∨ k = 6) ∧ atp p ∧ e.ok
 | .bn k p e f => (7 ≤ k ∧ k ≤ 19) ∧ atp p ∧ e.ok ∧ f.ok
theorem Ex.size_pos (e : Ex) : 1 ≤ e.size := by cases e <;> simp [Ex.size]
theorem Ex.deep_pos (e : Ex) : 1 ≤ e.deep := by cases e <;> simp [Ex.deep]
theorem flat_len (e : Ex) : ∀ o, (e.flat o).length = e.size := by
 induction e with
 | lf => intro o; rfl
 | un k p e ih => intro o; simp [Ex.flat, Ex.size, ih]
 | bn k p e f ih1 ih2 => intro o; simp [Ex.flat, Ex.size, ih1, ih2]; omega
/-- A node whose parts lie elsewhere. -/
def shiftN (d : Int) (x : Nd) : Nd := ⟨x.k, x.n, if 5 ≤ x.k then x.a + d else x.a, if 7 ≤ x.k then x.b + d else x.b, x.p⟩
theorem flat_shift (d : Int) (e : Ex) (h : e.ok) : ∀ o, (e.flat o).map (shiftN d) = e.flat (o + d) := by
 induction e with
 | lf k n p =>
  intro o
  have := h.1.1
  simp only [Ex.flat, List.map_cons, List.map_nil, shiftN]
  rw [if_neg (by omega), if_neg (by omega)]
 | un k p e ih =>
  intro o
  obtain ⟨hk, _, he⟩ := h
  simp only [Ex.flat, List.map_append, List.map_cons, List.map_nil, ih he, shiftN]
  rw [if_pos (by omega), if_neg (by omega)]
  congr 2
  simp; omega
 | bn k p e f ih1 ih2 =>
  intro o
  obtain ⟨hk, _, he, hf⟩ := h
  simp only [Ex.flat, List.map_append, List.map_cons, List.map_nil, ih1 he, ih2 hf, shiftN]
  rw [if_pos (by omega), if_pos (by omega)]
  rw [show o + (e.size : Int) + d = o + d + e.size by omega]
  congr 3
  simp; omega
def NodeAt (tr : Nat → Ex) (i : Nat) (x : Nd) : Prop :=
 (tr i = .lf x.k x.n x.p ∧ lfok x.k x.n ∧ x.a = 0 ∧ x.b = 0 ∧ atp x.p) ∨
 (∃ j, i = j + 1 ∧ tr i = .un x.k x.p (tr j) ∧ (x.k = 5 ∨ x.k = 6) ∧ x.n = 0 ∧ x.a = j ∧ x.b = 0 ∧ atp x.p) ∨
 (∃ j m, i = j + 1 ∧ j = m + (tr j).size ∧ tr i = .bn x.k x.p (tr m) (tr j) ∧ (7 ≤ x.k ∧ x.k ≤ 19) ∧ x.n = 0 ∧ x.a = m ∧ x.b = j ∧ atp x.p)
def TrOk (l : List Nd) (tr : Nat → Ex) : Prop := ∀ i x, l[i]? = some x → NodeAt tr i x
theorem cut_add {α : Type} (l : List α) (a b c : Nat) : (l.drop a).take (b + c) = (l.drop a).take b ++ (l.drop (a + b)).take c := by
 rw [List.take_add, List.drop_drop]
theorem cut_one {α : Type} {l : List α} {a : Nat} {x : α} (h : l[a]? = some x) : (l.drop a).take 1 = [x] := by
 obtain ⟨h1, rfl⟩ := List.getElem?_eq_some_iff.1 h
 rw [List.drop_eq_getElem_cons h1]; rfl
theorem tr_seg {l : List Nd} {tr : Nat → Ex} (h : TrOk l tr) : ∀ (n i : Nat), i < n → i < l.length → (tr i).size ≤ i + 1 ∧ (tr i).ok ∧ (l.drop (i + 1 - (tr i).size)).take (tr i).size = (tr i).flat ((i + 1 - (tr i).size : Nat) : Int)
 | 0, _, h1, _ => absurd h1 (Nat.not_lt_zero _)
 | n + 1, i, hn, hi => by
  obtain ⟨x, hx⟩ : ∃ x, l[i]? = some x := ⟨_, List.getElem?_eq_getElem hi⟩
  rcases h i x hx with ⟨e, hk, ha, hb, hp⟩ | ⟨j, hj, e, hk, hn0, ha, hb, hp⟩ | ⟨j, m, hj, hm, e, hk, hn0, ha, hb, hp⟩
  ·rw [e]
   refine ⟨by simp [Ex.size], ⟨hk, hp⟩, ?_⟩
   simp only [Ex.size, Nat.add_sub_cancel]
   rw [cut_one hx]
   simp only [Ex.flat]
   obtain ⟨k, n', a, b, p⟩ := x
   simp only at ha hb ⊢
   rw [ha, hb]
  ·obtain ⟨i1, i2, i3⟩ := tr_seg h n j (by omega) (by omega)
   rw [e]
   refine ⟨by simp only [Ex.size]; omega, ⟨hk, hp, i2⟩, ?_⟩
   simp only [Ex.size]
   have e1 : i + 1 - ((tr j).size + 1) = j + 1 - (tr j).size := by omega
   rw [e1, cut_add, i3, show j + 1 - (tr j).size + (tr j).size = i by omega, cut_one hx]
   simp only [Ex.flat]
   obtain ⟨k, n', a, b, p⟩ := x
   simp only at ha hb hn0 ⊢
   rw [ha, hb, hn0, show ((j + 1 - (tr j).size : Nat) : Int) + ((tr j).size : Int) - 1 = (j : Int) by omega]
  ·have hs := (tr j).size_pos
   obtain ⟨i1, i2, i3⟩ := tr_seg h n j (by omega) (by omega)
   obtain ⟨m1, m2, m3⟩ := tr_seg h n m (by omega) (by omega)
   rw [e]
   refine ⟨by simp only [Ex.size]; omega, ⟨hk, hp, m2, i2⟩, ?_⟩
   simp only [Ex.size]
   have e1 : i + 1 - ((tr m).size + (tr j).size + 1) = m + 1 - (tr m).size := by omega
   rw [e1, Nat.add_assoc, cut_add, m3, show m + 1 - (tr m).size + (tr m).size = j + 1 - (tr j).size by omega, cut_add, i3, show j + 1 - (tr j).size + (tr j).size = i by omega, cut_one hx]
   simp only [Ex.flat]
   obtain ⟨k, n', a, b, p⟩ := x
   simp only at ha hb hn0 ⊢
   rw [ha, hb, hn0, show ((m + 1 - (tr m).size : Nat) : Int) + ((tr m).size : Int) - 1 = (m : Int) by omega,
    show ((m + 1 - (tr m).size : Nat) : Int) + ((tr m).size : Int) + ((tr j).size : Int) - 1 = (j : Int) by omega,
    show ((m + 1 - (tr m).size : Nat) : Int) + ((tr m).size : Int) = ((j + 1 - (tr j).size : Nat) : Int) by omega]
/-- The trees of the nodes of an expression. -/
def Ex.tr : Ex → Nat → Ex
 | .lf k n p, _ => .lf k n p
 | .un k p e, i => if i < e.size then e.tr i else .un k p e
 | .bn k p e f, i => if i < e.size then e.tr i else if i < e.size + f.size then f.tr (i - e.size) else .bn k p e f
theorem tr_last (e : Ex) : e.tr (e.size - 1) = e := by
 cases e with
 | lf => rfl
 | un k p e => simp [Ex.tr, Ex.size]
 | bn k p e f =>
  have h : (Ex.bn k p e f).size - 1 = e.size + f.size := rfl
  rw [h]
  simp only [Ex.tr]
  rw [if_neg (by omega), if_neg (by omega)]
theorem nodeAt_ext {tr tr' : Nat → Ex} {i : Nat} {x : Nd} (h : NodeAt tr i x) (he : ∀ j, j ≤ i → tr' j = tr j) : NodeAt tr' i x := by
 rcases h with ⟨e, h⟩ | ⟨j, hj, e, h⟩ | ⟨j, m, hj, hm, e, h⟩
 ·exact .inl ⟨(he i (Nat.le_refl _)).trans e, h⟩
 ·exact .inr (.inl ⟨j, hj, by rw [he i (Nat.le_refl _), he j (by omega)]; exact e, h⟩)
 ·exact .inr (.inr ⟨j, m, hj, by rw [he j (by omega)]; exact hm, by rw [he i (Nat.le_refl _), he j (by omega), he m (by omega)]; exact e, h⟩)
theorem flat_node : ∀ (e : Ex), e.ok → ∀ (o : Nat) (tr : Nat → Ex), (∀ i, i < e.size → tr (o + i) = e.tr i) → ∀ i x, (e.flat o)[i]? = some x → NodeAt tr (o + i) x
 | .lf k n p, h, o, tr, ht, i, x, hx => by
  have hi : i = 0 := by
   have := (List.getElem?_eq_some_iff.1 hx).1
   simp [Ex.flat] at this; omega
  subst hi
  simp only [Ex.flat, List.getElem?_cons_zero, Option.some.injEq] at hx
  subst hx
  exact .inl ⟨ht 0 (by simp [Ex.size]), h.1, rfl, rfl, h.2⟩
 | .un k p e, h, o, tr, ht, i, x, hx => by
  obtain ⟨hk, hp, he⟩ := h
  have hs := e.size_pos
  have hsub : ∀ q, q < e.size → tr (o + q) = e.tr q := fun q hq => by
   have := ht q (by simp only [Ex.size]; omega)
   rw [this]; simp only [Ex.tr]; rw [if_pos hq]
  rw [Ex.flat, List.getElem?_append, flat_len] at hx
  split at hx
  ·exact flat_node e he o tr hsub i x hx
  ·rename_i hge
   have hi : i = e.size := by
    have := (List.getElem?_eq_some_iff.1 hx).1
    simp at this; omega
   subst hi
   simp at hx
   subst hx
   have hl := tr_last e
   refine .inr (.inl ⟨o + e.size - 1, by omega, ?_, hk, rfl, by simp only; omega, rfl, hp⟩)
   have h1 := ht e.size (by simp only [Ex.size]; omega)
   have h2 := hsub (e.size - 1) (by omega)
   rw [h1, show o + e.size - 1 = o + (e.size - 1) by omega, h2, hl]
   simp only [Ex.tr]; rw [if_neg (by omega)]
 | .bn k p e f, h, o, tr, ht, i, x, hx => by
  obtain ⟨hk, hp, he, hf⟩ := h
  have hs := e.size_pos
  have hs2 := f.size_pos
  have hsub : ∀ q, q < e.size → tr (o + q) = e.tr q := fun q hq => by
   have := ht q (by simp only [Ex.size]; omega)
   rw [this]; simp only [Ex.tr]; rw [if_pos hq]
  have hsub2 : ∀ q, q < f.size → tr (o + e.size + q) = f.tr q := fun q hq => by
   have := ht (e.size + q) (by simp only [Ex.size]; omega)
   rw [Nat.add_assoc, this]; simp only [Ex.tr]; rw [if_neg (by omega), if_pos (by omega), Nat.add_sub_cancel_left]
  rw [Ex.flat, List.getElem?_append, flat_len] at hx
  split at hx
  ·exact flat_node e he o tr hsub i x hx
  ·rename_i hge
   rw [List.getElem?_append, flat_len] at hx
   split at hx
   ·have := flat_node f hf (o + e.size) tr hsub2 (i - e.size) x (by rw [Int.natCast_add]; exact hx)
    rwa [show o + e.size + (i - e.size) = o + i by omega] at this
   ·rename_i hge2
    have hi : i = e.size + f.size := by
     have := (List.getElem?_eq_some_iff.1 hx).1
     simp at this; omega
    subst hi
    simp at hx
    subst hx
    have hl := tr_last e
    have hl2 := tr_last f
    have h1 := ht (e.size + f.size) (by simp only [Ex.size]; omega)
    have h2 := hsub (e.size - 1) (by omega)
    have h3 := hsub2 (f.size - 1) (by omega)
    rw [show o + e.size + (f.size - 1) = o + e.size + f.size - 1 by omega, hl2] at h3
    rw [show o + (e.size - 1) = o + e.size - 1 by omega, hl] at h2
    refine .inr (.inr ⟨o + e.size + f.size - 1, o + e.size - 1, by omega, by rw [h3]; omega, ?_, hk, rfl, by simp only; omega, by simp only; omega, hp⟩)
    rw [h1, h2, h3]
    simp only [Ex.tr]; rw [if_neg (by omega), if_neg (by omega)]
theorem trok_flat {e : Ex} (h : e.ok) : TrOk (e.flat 0) e.tr := fun i x hx => by
 have := flat_node e h 0 e.tr (fun i _ => by rw [Nat.zero_add]) i x hx
 rwa [Nat.zero_add] at this
/-- A list of nodes that has trees, of which the last one is the whole. -/
theorem flat_of {l : List Nd} {tr : Nat → Ex} (h : TrOk l tr) (h0 : 0 < l.length) (hs : (tr (l.length - 1)).size = l.length) : l = (tr (l.length - 1)).flat 0 ∧ (tr (l.length - 1)).ok := by
 obtain ⟨h1, h2, h3⟩ := tr_seg h l.length (l.length - 1) (by omega) (by omega)
 rw [hs, show l.length - 1 + 1 - l.length = 0 by omega] at h3
 refine ⟨?_, h2⟩
 simp only [List.drop_zero, List.take_length] at h3
 exact h3
theorem tr_sub {e : Ex} (h : e.ok) {i : Nat} (hi : i < e.size) : (e.tr i).size ≤ i + 1 ∧ (e.tr i).ok ∧ ((e.flat 0).drop (i + 1 - (e.tr i).size)).take (e.tr i).size = (e.tr i).flat ((i + 1 - (e.tr i).size : Nat) : Int) :=
 tr_seg (trok_flat h) (i + 1) i (by omega) (by rw [flat_len]; exact hi)
def givK (k : Int) : Bool := decide (k = 6 ∨ 12 ≤ k)
def Ex.gives (e : Ex) : Bool := givK e.kind
/-- A node fits its parts. -/
def Ex.fits : Ex → Bool
 | .lf _ _ _ => true
 | .un k _ e => if k = 5 then !e.gives else e.gives
 | .bn k _ e f => if k = 16 ∨ k = 17 then e.gives == f.gives else if 18 ≤ k then e.gives && f.gives else !e.gives && !f.gives
def Ex.wt : Ex → Bool
 | .lf _ _ _ => true
 | .un k p e => e.wt && (Ex.un k p e).fits
 | .bn k p e f => e.wt && f.wt && (Ex.bn k p e f).fits
theorem wt_tr : ∀ (e : Ex), e.wt = true → ∀ i, i < e.size → (e.tr i).wt = true ∧ (e.tr i).fits = true ∧ (e.tr i).deep ≤ e.deep ∧ (e.tr i).size ≤ e.size
 | .lf k n p, _, i, _ => ⟨rfl, rfl, Nat.le_refl _, Nat.le_refl _⟩
 | .un k p e, h, i, hi => by
  have h' := h
  simp only [Ex.wt, Bool.and_eq_true] at h'
  simp only [Ex.tr]
  split
  ·rename_i hlt
   obtain ⟨a, b, c, d⟩ := wt_tr e h'.1 i hlt
   exact ⟨a, b, by simp only [Ex.deep]; omega, by simp only [Ex.size]; omega⟩
  ·exact ⟨h, h'.2, Nat.le_refl _, Nat.le_refl _⟩
 | .bn k p e f, h, i, hi => by
  have h' := h
  simp only [Ex.wt, Bool.and_eq_true] at h'
  simp only [Ex.tr]
  split
  ·rename_i hlt
   obtain ⟨a, b, c, d⟩ := wt_tr e h'.1.1 i hlt
   exact ⟨a, b, by simp only [Ex.deep]; omega, by simp only [Ex.size]; omega⟩
  ·split
   ·obtain ⟨a, b, c, d⟩ := wt_tr f h'.1.2 (i - e.size) (by omega)
    exact ⟨a, b, by simp only [Ex.deep]; omega, by simp only [Ex.size]; omega⟩
   ·exact ⟨h, h'.2, Nat.le_refl _, Nat.le_refl _⟩
theorem wt_of : ∀ (e : Ex), (∀ i, i < e.size → (e.tr i).fits = true) → e.wt = true
 | .lf k n p, _ => rfl
 | .un k p e, h => by
  have h1 := h e.size (by simp only [Ex.size]; omega)
  have h2 := wt_of e fun i hi => by
   have := h i (by simp only [Ex.size]; omega)
   simp only [Ex.tr] at this
   rwa [if_pos hi] at this
  simp only [Ex.tr] at h1
  rw [if_neg (by omega)] at h1
  simp only [Ex.wt, h1, h2, Bool.and_self]
 | .bn k p e f, h => by
  have h1 := h (e.size + f.size) (by simp only [Ex.size]; omega)
  have h2 := wt_of e fun i hi => by
   have := h i (by simp only [Ex.size]; omega)
   simp only [Ex.tr] at this
   rwa [if_pos hi] at this
  have h3 := wt_of f fun i hi => by
   have := h (e.size + i) (by simp only [Ex.size]; omega)
   simp only [Ex.tr] at this
   rwa [if_neg (by omega), if_pos (by omega), Nat.add_sub_cancel_left] at this
  simp only [Ex.tr] at h1
  rw [if_neg (by omega), if_neg (by omega)] at h1
  simp only [Ex.wt, h1, h2, h3, Bool.and_self]
theorem deep_tr : ∀ (e : Ex), ∀ i, i < e.size → (e.tr i).deep ≤ e.deep ∧ (e.tr i).size ≤ e.size
 | .lf k n p, i, _ => ⟨Nat.le_refl _, Nat.le_refl _⟩
 | .un k p e, i, hi => by
  simp only [Ex.tr]
  split
  ·rename_i hlt
   obtain ⟨c, d⟩ := deep_tr e i hlt
   exact ⟨by simp only [Ex.deep]; omega, by simp only [Ex.size]; omega⟩
  ·exact ⟨Nat.le_refl _, Nat.le_refl _⟩
 | .bn k p e f, i, hi => by
  simp only [Ex.tr]
  split
  ·rename_i hlt
   obtain ⟨c, d⟩ := deep_tr e i hlt
   exact ⟨by simp only [Ex.deep]; omega, by simp only [Ex.size]; omega⟩
  ·split
   ·obtain ⟨c, d⟩ := deep_tr f (i - e.size) (by omega)
    exact ⟨by simp only [Ex.deep]; omega, by simp only [Ex.size]; omega⟩
   ·exact ⟨Nat.le_refl _, Nat.le_refl _⟩
/-- What a query may hold: right, small and typed. -/
def Ex.good (e : Ex) : Prop := e.ok ∧ e.size ≤ 60 ∧ e.deep ≤ 20
theorem sp_info : (Tryz.prog.info? 59).map (fun i => (i.zero, i.size, i.bytes)) = some (some (.agg #[.int .i64 0, .int .i64 0]), 2, 16) := by kernel_rfl
theorem senc_len (x : Int × Int) : (senc x).length = 2 := rfl
theorem senc_one (l : List (Int × Int)) : ∀ u ∈ l.flatMap senc, u.oneCell' = true := by
 intro u hu
 obtain ⟨x, _, hx⟩ := List.mem_flatMap.1 hu
 simp [senc] at hx
 rcases hx with rfl | rfl <;> rfl
set_option maxHeartbeats 2000000 in
set_option maxRecDepth 100000 in
theorem sclone_any (A : Option Addr) (c n : Nat) (l : List (Int × Int)) (w : World) (hln : l.length = n) (hz : A = none → c = 0) (hn : n ≤ 1099511627776) (hr : Rd senc 2 w w.heap.size A l) :
  Calls Tryz.prog 125 #[.slice A n c] w fun e w' => ∃ v, e = .returned v ∧ Own senc 2 w' w.heap.size 59 v l ∧ Below w.heap.size w w' := by
 obtain ⟨i0, hi0, hz0, hz1, hz2⟩ := info_parts sp_info
 have HL := Lib.hid hln
 have hu : ∀ (w : World) (a : Option Addr) (n c n' c' : Nat), (binOp .eql 108 (.slice a n c) (.slice none n' c')).run Tryz.prog w = .ok (.bool a.isNone) w := fun w a n c n' c' => Lib.run_eql_slice_nil w _ _ a n c n' c' Tryz.underlying108
 cases A with
 | none =>
  obtain rfl := hz rfl
  obtain rfl := rd_none hr
  obtain rfl : n = 0 := hln.symm
  go_enter Tryz.func125, Tryz.ntmps125
  go_wp2
  go_ret
  exact ⟨_, rfl, Own.nil _ _ _, blr⟩
 | some ad =>
  clear hln
  go_enter Tryz.func125, Tryz.ntmps125
  go_wp2_with (at_builtin; refine wpList_append_copy rfl (.tmp 5) (.tmp 6) 108 rfl w.heap.size 59 i0 (.agg #[.int .i64 0, .int .i64 0]) 2 16 Tryz.underlying108 hi0 hz0 hz1 hz2 rfl (by decide) senc senc_len w.heap.size 0 l rfl (own_empty (heap_alloc_new w (.cells #[] 59)) (Nat.le_refl _)) (some ad) n c rfl HL.out hz (rd_grown hr blr) (senc_one l) (by unfold maxLen; omega) (by omega) (by simp) ?_; intro g cap w2 hown2 hcap hg2 hb2)
  go_ret
  exact ⟨_, rfl, hown2, (below_new (Below.refl _ _) _).trans hb2⟩
/-- The checks of a time and a gap. -/
def sck (t g : Int) : Int := if g < 1 ∨ 1073741824 < g then 2 else if t < -1099511627776 ∨ 1099511627776 < t then 16 else 0
theorem scheck_any (t g : Int) (w : World) : Calls Tryz.prog 89 #[.int .i64 t, .int .i64 g] w fun e w' => e = .returned (.int .i64 (sck t g)) ∧ w = w' := by
 go_enter Tryz.func89, Tryz.ntmps89
 go_wp2
 all_goals (go_ret; exact ⟨ret_i64 (by unfold sck; grind), rfl⟩)
/-- A list of sessions. -/
def sok (x : Int × Int) : Prop := -1099511627776 ≤ x.1 ∧ x.1 ≤ 1099511627776 ∧ x.1 < x.2 ∧ x.2 ≤ 1100585369600
instance (x : Int × Int) : Decidable (sok x) := by unfold sok; infer_instance
theorem sp_new (w : World) (x : Int × Int) (t : TypeId) (g : Nat) (hg : g = w.heap.size) : ∀ j u, ([x].flatMap senc)[j]? = some u → (w.alloc (.cells #[.int .i64 x.1, .int .i64 x.2] t)).cell? ((⟨g, 0, none⟩ : Addr).add j) = some u := by
 subst hg
 intro j u hj
 match j, hj with
 | 0, hj => simp [senc] at hj; subst hj; simp [Addr.add]
 | 1, hj => simp [senc] at hj; subst hj; simp [Addr.add]
theorem own_sp {w : World} {base : Nat} {e : TypeId} {g n cap : Nat} {l : List (Int × Int)} (h : Own senc 2 w base e (.slice (some ⟨g, 0, none⟩) n cap) l) {k : Nat} {x : Int × Int} (hx : l[k]? = some x) :
  w.cell? ⟨g, k * 2, none⟩ = some (.int .i64 x.1) ∧ w.cell? ⟨g, k * 2 + 1, none⟩ = some (.int .i64 x.2) ∧ g < w.heap.size := by
 obtain ⟨b, off, e, hb, c1, c2⟩ := span_cells (Own.rd senc_len h) hx
 rcases h.2 with ⟨h', _⟩ | ⟨g', cap', cur, h', _, hg, _⟩
 ·cases h'
 ·simp only [Option.some.injEq, Addr.mk.injEq, and_true] at e
  obtain ⟨rfl, rfl⟩ := e
  simp only [Nat.zero_add] at c1 c2
  exact ⟨c1, c2, hb⟩
theorem flat_set (v : Int) (x : Int × Int) : ∀ (l : List (Int × Int)) (i : Nat), l[i]? = some x → (l.flatMap senc).set (i * 2 + 1) (.int .i64 v) = (l.set i (x.1, v)).flatMap senc
 | [], i, h => by simp at h
 | y :: l, 0, h => by
  simp at h
  subst h
  simp [senc]
 | y :: l, i + 1, h => by
  rw [show (i + 1) * 2 + 1 = (i * 2 + 1) + 1 + 1 by omega, List.flatMap_cons, List.set_cons_succ, List.flatMap_cons, ← flat_set v x l i (by simpa using h)]
  simp [senc]
/-- The end of an element stored. -/
theorem own_end {w : World} {base : Nat} {e : TypeId} {g n cap : Nat} {l : List (Int × Int)} (h : Own senc 2 w base e (.slice (some ⟨g, 0, none⟩) n cap) l) (hn : n = l.length) {i : Nat} {x : Int × Int} (hx : l[i]? = some x) (v : Int) :
  Own senc 2 (w.setCell ⟨g, i * 2 + 1, none⟩ (.int .i64 v)) base e (.slice (some ⟨g, 0, none⟩) n cap) (l.set i (x.1, v)) ∧ w.grownBy (w.setCell ⟨g, i * 2 + 1, none⟩ (.int .i64 v)) (some g) := by
 subst hn
 obtain ⟨h1, h2⟩ := World.ownsRow.stored h (i * 2 + 1) (.int .i64 v)
 refine ⟨?_, h2⟩
 rw [flat_set v x l i hx] at h1
 unfold Own
 rw [List.length_set]
 exact h1
/-- The last nodes of the parts that stand on the stack behind some nodes. -/
inductive Stk (tr : Nat → Ex) : Nat → List Nat → Prop
 | nil : Stk tr 0 []
 | push {m j : Nat} {s : List Nat} : Stk tr m s → j + 1 = m + (tr j).size → Stk tr (j + 1) (s ++ [j])
theorem Stk.zero {tr : Nat → Ex} {s : List Nat} (h : Stk tr 0 s) : s = [] := by cases h; rfl
theorem Stk.succ {tr : Nat → Ex} {j : Nat} {s : List Nat} (h : Stk tr (j + 1) s) : ∃ m t, s = t ++ [j] ∧ Stk tr m t ∧ j + 1 = m + (tr j).size := by
 generalize hi : j + 1 = i at h
 cases h with
 | nil => omega
 | @push m j' t h e =>
  obtain rfl : j = j' := by omega
  exact ⟨m, t, rfl, h, e⟩
theorem Stk.lt {tr : Nat → Ex} {i : Nat} {s : List Nat} (h : Stk tr i s) : ∀ j ∈ s, j < i := by
 induction h with
 | nil => intro j hj; cases hj
 | @push m j s h e ih =>
  intro q hq
  rcases List.mem_append.1 hq with hq | hq
  ·have := ih q hq
   have := (tr j).size_pos
   omega
  ·rw [List.mem_singleton.1 hq]; omega
theorem Stk.le {tr : Nat → Ex} {i : Nat} {s : List Nat} (h : Stk tr i s) : s.length ≤ i := by
 induction h with
 | nil => exact Nat.le_refl _
 | @push m j s h e ih =>
  have := (tr j).size_pos
  simp only [List.length_append, List.length_cons, List.length_nil]
  omega
/-- How a node changes the stack. -/
theorem Stk.lf {tr : Nat → Ex} {i : Nat} {s : List Nat} (h : Stk tr i s) (e : (tr i).size = 1) : Stk tr (i + 1) (s ++ [i]) := .push h (by rw [e])
theorem Stk.un {tr : Nat → Ex} {j : Nat} {s : List Nat} (h : Stk tr (j + 1) s) (e : (tr (j + 1)).size = (tr j).size + 1) : ∃ t, s = t ++ [j] ∧ Stk tr (j + 1 + 1) (t ++ [j + 1]) := by
 obtain ⟨m, t, rfl, h1, h2⟩ := h.succ
 exact ⟨t, rfl, .push h1 (by rw [e]; omega)⟩
theorem Stk.bn {tr : Nat → Ex} {j m : Nat} {s : List Nat} (h : Stk tr (j + 1) s) (hm : j = m + (tr j).size) (e : (tr (j + 1)).size = (tr m).size + (tr j).size + 1) : ∃ t, s = t ++ [m, j] ∧ Stk tr (j + 1 + 1) (t ++ [j + 1]) := by
 obtain ⟨m', t, rfl, h1, h2⟩ := h.succ
 obtain rfl : m' = m + 1 := by omega
 obtain ⟨m2, t2, rfl, h3, h4⟩ := h1.succ
 exact ⟨t2, by simp, .push h3 (by rw [e]; omega)⟩
/-- In the end there is the whole alone. -/
theorem Stk.whole {tr : Nat → Ex} {n : Nat} {s : List Nat} (h : Stk tr (n + 1) s) (e : (tr n).size = n + 1) : s = [n] := by
 obtain ⟨m, t, rfl, h1, h2⟩ := h.succ
 obtain rfl : m = 0 := by omega
 rw [h1.zero]; rfl
/-- What is told of a node: where it stands, its size, its depth. -/
structure Tp where
 at_ : Int
 sz : Int
 dp : Int
deriving DecidableEq
instance : Inhabited Tp := ⟨⟨0, 0, 0⟩⟩
def tpenc (x : Tp) : List Value := [.int .i64 x.at_, .int .i64 x.sz, .int .i64 x.dp]
theorem tpenc_len (x : Tp) : (tpenc x).length = 3 := rfl
def tpT (tr : Nat → Ex) (j : Nat) : Tp := ⟨j, (tr j).size, (tr j).deep⟩
def allT (tr : Nat → Ex) (i : Nat) : List Tp := (List.range i).map (tpT tr)
theorem allT_succ (tr : Nat → Ex) (i : Nat) : allT tr (i + 1) = allT tr i ++ [tpT tr i] := by simp [allT, List.range_succ]
theorem allT_len (tr : Nat → Ex) (i : Nat) : (allT tr i).length = i := by simp [allT]
theorem allT_at (tr : Nat → Ex) {i j : Nat} (h : j < i) : (allT tr i)[j]? = some (tpT tr j) := by simp [allT, h]
end Go.Proofs.YtnljihjhmgpcoaaGreat
namespace Go.Proofs.YtnljihjhmgpcoaaGreat
open Go.RowKit Go.ChangeShapes Go.WideShapes Go.ChangeAt Go.Deep
/-- How many parts a kind has. -/
def prtN (k : Int) : Nat := if k ≤ 4 then 0 else if k ≤ 6 then 1 else 2
theorem nparts_any (k : Int) (h : 1 ≤ k ∧ k ≤ 19) (w : World) : Calls Tryz.prog 158 #[.int .u8 k] w fun e w' => e = .returned (.tuple #[.int .i64 (prtN k), .int .i64 0]) ∧ w = w' := by
 obtain ⟨h1, h19⟩ := h
 by_cases h4 : k ≤ 4
 ·have e : prtN k = 0 := by unfold prtN; rw [if_pos h4]
  rw [e]
  go_enter Tryz.func158, Tryz.ntmps158
  go_wp2
  go_ret2
  exact ⟨rfl, rfl⟩
 ·by_cases h6 : k ≤ 6
  ·have e : prtN k = 1 := by unfold prtN; rw [if_neg h4, if_pos h6]
   rw [e]
   have h' : k = 5 ∨ k = 6 := by omega
   clear e h1 h19
   rcases h' with rfl | rfl
   all_goals
    go_enter Tryz.func158, Tryz.ntmps158
    go_wp2
    go_ret2
    exact ⟨rfl, rfl⟩
  ·have e : prtN k = 2 := by unfold prtN; rw [if_neg h4, if_neg h6]
   rw [e]
   have d1 : decide (k ≤ 4) = false := by simp; omega
   have d2 : (k == 5) = false := by simp; omega
   have d3 : (k == 6) = false := by simp; omega
   have d4 : decide (7 ≤ k) = true := by simp; omega
   clear e h4 h6
   go_enter Tryz.func158, Tryz.ntmps158
   go_wp2
   go_ret2
   exact ⟨rfl, rfl⟩
/-- A stack cut into what stays and its last elements. -/
theorem rd_last {α : Type} {enc : α → List Value} {sz : Nat} {w : World} {B : Nat} {A : Option Addr} {l : List α} {n m c : Nat} (hn : l.length = n) (hm : m ≤ n) (hc : n ≤ c) (h : Rd enc sz w B A l) : Rd enc sz w B (if c = n - m then A else A.map (·.add ((n - m) * sz))) (l.drop (n - m)) := by
 have := h.cut (n - m) n (cap := c) (by omega) (by omega) (by omega)
 rw [← hn, List.take_length] at this
 rw [hn] at this
 exact this
def PopP (l : List Tp) (A : Option Addr) (d m c : Nat) (w : World) (e : Ending) (w' : World) : Prop := ∃ X Y, e = .returned (.tuple #[.slice A d c, .slice X m Y]) ∧ Rd tpenc 3 w' w'.heap.size X (l.drop d) ∧ Below w.heap.size w w'
set_option maxHeartbeats 1000000 in
theorem pop_any {l : List Tp} {A : Option Addr} {n c : Nat} (m : Nat) (w : World) (hn : l.length = n) (hm : m ≤ n) (hnc : n ≤ c) (_hc : n ≤ 60) (hcm : c ≤ maxLen) (hr : Rd tpenc 3 w w.heap.size A l) :
  Calls Tryz.prog 159 #[.slice A n c, .int .i64 m] w (PopP l A (n - m) m c w) := by
 unfold maxLen at hcm
 have hlast := rd_last hn hm hnc hr
 obtain ⟨d, hd⟩ : ∃ d, d = n - m := ⟨_, rfl⟩
 rw [← hd] at hlast ⊢
 obtain ⟨X, hX⟩ : ∃ X, X = (if c = d then A else A.map (·.add (d * 3))) := ⟨_, rfl⟩
 rw [← hX] at hlast
 have hmd : n - d = m := by omega
 have e1 : IntKind.i64.wrap ((n : Int) - (m : Int)) = (d : Int) := by rw [IntWalk.i64_in _ (by omega)]; omega
 have f1 : (0 : Int) ≤ (d : Int) := by omega
 have f2 : (d : Int) ≤ (n : Int) := by omega
 have f3 : (d : Int) ≤ (c : Int) := by omega
 have f4 : (n : Int) ≤ (c : Int) := by omega
 have HR := Lib.hid hlast; have HX := Lib.hid hX
 clear hlast hr hd hn hX
 go_enter Tryz.func159, Tryz.ntmps159
 go_wp2
 go_quiet (fail)
 go_wp2
 ·go_ret2
  refine ⟨_, _, rfl, ?_, blr⟩
  have := rd_grown HR.out (below_drewN (Below.refl w.heap.size w) nq)
  have he : c = d := by assumption
  rw [HX.out, if_pos he] at this
  exact this
 ·have hne : ¬ c = d := by assumption
  go_ret2
  refine ⟨_, _, rfl, ?_, blr⟩
  have := rd_grown HR.out (below_drewN (Below.refl w.heap.size w) nq)
  rw [HX.out, if_neg hne] at this
  exact this
theorem pop_lit {l : List Tp} {A : Option Addr} {n c : Nat} (m d : Nat) (mi : Int) (w : World) (hmi : mi = m) (hd : d = n - m) (hn : l.length = n) (hm : m ≤ n) (hnc : n ≤ c) (hc : n ≤ 60) (hcm : c ≤ maxLen) (hr : Rd tpenc 3 w w.heap.size A l) :
  Calls Tryz.prog 159 #[.slice A n c, .int .i64 mi] w (PopP l A d m c w) := by
 subst hmi; subst hd
 exact pop_any m w hn hm hnc hc hcm hr
end Go.Proofs.YtnljihjhmgpcoaaGreat
