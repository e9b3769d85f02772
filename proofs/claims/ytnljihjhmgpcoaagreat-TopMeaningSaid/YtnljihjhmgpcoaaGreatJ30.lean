/- Lemmas and contracts for the statement, joined into one text: AppendL2, AppendW. The conditions of each stand at its head. -/
import Derived.Test.YtnljihjhmgpcoaaGreatJ6
import Derived.Deep.RegionLaw
namespace Go.Proofs.YtnljihjhmgpcoaaGreat
open Go.RowKit
theorem step_append_l2 {P : Program} {w : World} {ops : Array Oper} {o : Oper} {a : Act} {K : Act → World → Prop} {Q : Exit → Act → World → Prop} {E : Prop} (hgd : o.guard = none) (s x : Operand) (t : TypeId)
  (ho : o.op = .call { callee := .builtin .append, args := #[s, x], argTypes := #[t, t] })
  (base : Nat) (e : TypeId) (i : TypeInfo) (z : Value) (size bytes : Nat) (ht : P.underlying t = some (.slice e)) (hi : P.info? e = some i) (hz : i.zero = some z)
  (hsize : i.size = size) (hby : i.bytes = bytes) (hzs : z.cells.size = size) (hsz : 0 < size)
  {α : Type} (enc : α → List Value) (henc : ∀ y, (enc y).length = size) (v : Value) (l ys : List α) (hs : a.eval s = v) (hown : Own enc size w base e v l)
  (ad : Addr) (n c : Nat) (hx : a.eval x = .slice (some ad) n c) (hnl : ys.length = n) (hnews : ∀ j u, (ys.flatMap enc)[j]? = some u → w.cell? (ad.add j) = some u) (h1 : ∀ u ∈ ys.flatMap enc, u.oneCell' = true)
  (h63 : l.length + n ≤ maxLen) (hbytes : (l.length + n) * bytes ≤ 140737488355328) (hbase : base ≤ w.heap.size)
  (h : ∀ v' w', Own enc size w' base e v' (l ++ ys) → w.grownBy w' v.ownBlock → Below base w w' → (v'.ownBlock = v.ownBlock ∨ ∀ k, v'.ownBlock = some k → w.heap.size ≤ k) → K (a.put o.dst v') w') :
  if Region.wanted o (yielded ops a.tmps) = true then Oper.wp P o a w K Q else E := by
 have hw : Region.wanted o (yielded ops a.tmps) = true := by simp [Region.wanted, hgd]
 rw [if_pos hw]
 have hlen : (ys.flatMap enc).length = n * size := by rw [flat_length henc, hnl]
 have key : ∃ v' w', (Builtin.append_ #[t, t] o.type #[v, .slice (some ad) n c]).run P w = .ok v' w' ∧ Own enc size w' base e v' (l ++ ys) ∧ w.grownBy w' v.ownBlock ∧ (v'.ownBlock = v.ownBlock ∨ ∀ k, v'.ownBlock = some k → w.heap.size ≤ k) := by
  have h0 := hown
  rcases hown.2 with ⟨rfl, hl0⟩ | ⟨g, cap, cur, rfl, hb, hg, hnc, hcm, hcs, htake⟩
  ·have hl : l = [] := List.eq_nil_of_length_eq_zero hl0
   subst hl
   obtain ⟨v', w', hrun, r1, r2, _⟩ := run_append_own (P := P) w w.heap.size t o.type e i z size bytes ht hi hz hsize hby hzs hsz (.slice none 0 0) 0 [] (World.ownsRow_nil w _ e size) ad n c (ys.flatMap enc) hlen hnews h1 (by simpa using h63) (by simpa using hbytes) (Nat.le_refl _)
   have ho' : Own enc size w' w.heap.size e v' ([] ++ ys) := by unfold Own; simpa [hnl] using r1
   exact ⟨v', w', hrun, ho'.mono hbase, r2, .inr (fun k hk => (World.ownsRow.lt ho' k hk).1)⟩
  ·by_cases hr : l.length + n ≤ cap
   ·obtain ⟨v', w', hrun, r1, r2, _⟩ := run_append_own (P := P) w base t o.type e i z size bytes ht hi hz hsize hby hzs hsz _ l.length (l.flatMap enc) hown ad n c (ys.flatMap enc) hlen hnews h1 h63 hbytes hbase
    have hrun2 := run_append_room_cells (P := P) (w := w) t o.type e i ht hi g 0 l.length cap ad n c (ys.flatMap enc) (by rw [hsize]; exact hlen) hnews h1 hr (fun j hj => by
     rw [hlen] at hj
     simp only [World.cell?, hg, Nat.zero_add, hsize]
     have h2 := Nat.mul_le_mul_right size hr
     rw [Nat.add_mul] at h2
     have : l.length * size + j < cur.size := by rw [hcs]; omega
     simp [this]) (fun j _ => World.ownsRow.frozenAt h0 _)
    rw [hrun] at hrun2
    injection hrun2 with e1 e2
    refine ⟨v', w', hrun, ?_, r2, .inl (by rw [e1]; rfl)⟩
    unfold Own
    simpa [hnl] using r1
   ·have holds : ∀ j u, (l.flatMap enc)[j]? = some u → w.cell? ((⟨g, 0, none⟩ : Addr).add j) = some u := World.ownsRow.cells h0 (g := g) rfl
    obtain ⟨v', w', hrun, r1, r2⟩ := run_append_arg_grows (P := P) (w := w) t o.type e i z size bytes ht hi hz hsize hby hzs hsz ⟨g, 0, none⟩ l.length cap (l.flatMap enc) (flat_length henc l) holds ad n c (ys.flatMap enc) hlen hnews (by omega) h63 hbytes
    have ho' : Own enc size w' w.heap.size e v' (l ++ ys) := by unfold Own; simpa [hnl] using r1
    exact ⟨v', w', hrun, ho'.mono hbase, grown_any r2, .inr (fun k hk => (World.ownsRow.lt ho' k hk).1)⟩
 obtain ⟨v', w', hrun, k1, k2, k3⟩ := key
 unfold Oper.wp
 simp [execOp, ho, resolve, invoke, builtin, hs, hx, hrun, Result.andThen]
 exact h v' w' k1 k2 (below_of_grown k2 (fun k hk => (World.ownsRow.lt hown k hk).1) hbase) k3
/-- A slice type and its element's size. -/
def ElOk (P : Program) (t e : TypeId) (size bytes : Nat) : Prop := ∃ i z, P.underlying t = some (.slice e) ∧ P.info? e = some i ∧ i.zero = some z ∧ i.size = size ∧ i.bytes = bytes ∧ z.cells.size = size ∧ 0 < size ∧ bytes ≤ 128
theorem elOk {P : Program} {t e : TypeId} {z : Value} {size bytes : Nat} (h : (P.info? e).map (fun i => (i.zero, i.size, i.bytes)) = some (some z, size, bytes)) (ht : P.underlying t = some (.slice e)) (hz : z.cells.size = size) (h0 : 0 < size) (h1 : bytes ≤ 128) : ElOk P t e size bytes := by
 obtain ⟨i0, hi0, hz0, hz1, hz2⟩ := info_parts h
 exact ⟨i0, z, ht, hi0, hz0, hz1, hz2, hz, h0, h1⟩
theorem flat_new {α : Type} {enc : α → List Value} (w : World) (cs : Array Value) (t : TypeId) (g : Nat) (hg : g = w.heap.size) (ys : List α) (hcs : cs.toList = ys.flatMap enc) : ∀ j u, (ys.flatMap enc)[j]? = some u → (w.alloc (.cells cs t)).cell? ((⟨g, 0, none⟩ : Addr).add j) = some u := by
 subst hg
 intro j u hj
 rw [← hcs] at hj
 have e : (⟨w.heap.size, 0, none⟩ : Addr).add j = ⟨w.heap.size, j, none⟩ := by unfold Addr.add; split <;> simp_all
 rw [e, World.cell?_alloc_at _ _ _ _ rfl]
 simpa using hj
def OneCells {α : Type} (enc : α → List Value) : Prop := ∀ x, ∀ u ∈ enc x, u.oneCell' = true
theorem oneCells_flat {α : Type} {enc : α → List Value} (h : OneCells enc) (ys : List α) : ∀ u ∈ ys.flatMap enc, u.oneCell' = true := by
 intro u hu
 obtain ⟨x, _, hx⟩ := List.mem_flatMap.1 hu
 exact h x u hx
theorem wpList_app {P : Program} {t e : TypeId} {size bytes : Nat} (hT : ElOk P t e size bytes) {w : World} {ops : Array Oper} {rest : List Oper} {o : Oper} {a : Act} {Q : Exit → Act → World → Prop} (hgd : o.guard = none) (s x : Operand)
  (ho : o.op = .call { callee := .builtin .append, args := #[s, x], argTypes := #[t, t] }) (base : Nat)
  {α : Type} {enc : α → List Value} (henc : ∀ y, (enc y).length = size) (hone : OneCells enc) (l ys : List α) {v : Value} (hs : a.eval s = v) (hown : Own enc size w base e v l)
  {ad : Addr} {n c : Nat} (hx : a.eval x = .slice (some ad) n c) (hnl : ys.length = n) (hnews : ∀ j u, (ys.flatMap enc)[j]? = some u → w.cell? (ad.add j) = some u)
  (hsm : l.length + n ≤ 1099511627776) (hbase : base ≤ w.heap.size)
  (h : ∀ v' w', Own enc size w' base e v' (l ++ ys) → w.grownBy w' v.ownBlock → Below base w w' → (v'.ownBlock = v.ownBlock ∨ ∀ k, v'.ownBlock = some k → w.heap.size ≤ k) → wpList P ops Q rest (a.put o.dst v') w') : wpList P ops Q (o :: rest) a w := by
 obtain ⟨i, z, h1, h2, h3, h4, h5, h6, h7, h8⟩ := hT
 refine wpList_plain hgd fun K hK => ?_
 have hb : (l.length + n) * bytes ≤ 140737488355328 := Nat.le_trans (Nat.mul_le_mul hsm h8) (by decide)
 have := step_append_l2 (P := P) (ops := ops) (K := K) (Q := Q) (E := True) hgd s x t ho base e i z size bytes h1 h2 h3 h4 h5 h6 h7 enc henc v l ys hs hown ad n c hx hnl hnews (oneCells_flat hone ys) (by unfold maxLen; omega) hb hbase (fun v' w' a1 a2 a3 a4 => hK _ _ (h v' w' a1 a2 a3 a4))
 rwa [if_pos (by simp [Region.wanted, hgd])] at this
/-- A row that lies apart from another one stays, if that one is appended to; and so they lie apart. -/
theorem apart_after {v v1 u : Value} {w : World} {α : Type} {enc : α → List Value} {size base : Nat} {e : TypeId} {l : List α} (hu : Own enc size w base e u l) (h : u.ownBlock = none ∨ u.ownBlock ≠ v.ownBlock) (h1 : v1.ownBlock = v.ownBlock ∨ ∀ k, v1.ownBlock = some k → w.heap.size ≤ k) : u.ownBlock = none ∨ u.ownBlock ≠ v1.ownBlock := by
 rcases h1 with h1 | h1
 ·rw [h1]; exact h
 ·cases hb : u.ownBlock with
  | none => exact .inl rfl
  | some k =>
   refine .inr fun e => ?_
   have := h1 k e.symm
   have := (World.ownsRow.lt hu k hb).2
   omega
theorem apart_symm {v u : Value} (h : u.ownBlock = none ∨ u.ownBlock ≠ v.ownBlock) : v.ownBlock = none ∨ v.ownBlock ≠ u.ownBlock := by
 rcases h with h | h
 ·cases hv : v.ownBlock with
  | none => exact .inl rfl
  | some k => refine .inr ?_; rw [h]; simp
 ·exact .inr (Ne.symm h)
end Go.Proofs.YtnljihjhmgpcoaaGreat
