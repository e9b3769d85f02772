/- The contract of the reference's swapped (chapter 18). Condition: lists of at most 2^40 timers. -/
import Derived.Test.YtffehibdeogjeaaTimersRows
namespace Go.Proofs.Ytffehibdeogjeaa
open Go.RowKit

theorem wpList_append_list {P : Program} {w : World} {ops : Array Oper} {rest : List Oper} {o : Oper} {a : Act} {Q : Exit → Act → World → Prop} (hgd : o.guard = none) (s x : Operand) (t : TypeId)
    (ho : o.op = .call { callee := .builtin .append, args := #[s, x], argTypes := #[t, t] })
    (base : Nat) (e : TypeId) (i : TypeInfo) (z : Value) (size bytes : Nat) (ht : P.underlying t = some (.slice e)) (hi : P.info? e = some i) (hz : i.zero = some z)
    (hsize : i.size = size) (hby : i.bytes = bytes) (hzs : z.cells.size = size) (hsz : 0 < size)
    {α : Type} (enc : α → List Value) (henc : ∀ y, (enc y).length = size) (v : Value) (l ys : List α) (hs : a.eval s = v) (hown : Own enc size w base e v l)
    (ad : Addr) (n c : Nat) (hx : a.eval x = .slice (some ad) n c) (hnl : ys.length = n) (hnews : ∀ j u, (ys.flatMap enc)[j]? = some u → w.cell? (ad.add j) = some u) (h1 : ∀ u ∈ ys.flatMap enc, u.oneCell' = true)
    (h63 : l.length + n ≤ maxLen) (hbytes : (l.length + n) * bytes ≤ 140737488355328) (hbase : base ≤ w.heap.size)
    (h : ∀ v' w', Own enc size w' base e v' (l ++ ys) → w.grownBy w' v.ownBlock → Below base w w' → wpList P ops Q rest (a.put o.dst v') w') : wpList P ops Q (o :: rest) a w :=
  wpList_append_own w hgd s x t ho base e i z size bytes ht hi hz hsize hby hzs hsz v l.length (l.flatMap enc) hs hown ad n c (ys.flatMap enc) hx (by rw [flat_length henc, hnl]) hnews h1 h63 hbytes hbase
    fun v' w' h2 h3 _ => h v' w' (by unfold Own; simpa [hnl] using h2) h3 (below_of_grown h3 (fun k hk => (World.ownsRow.lt hown k hk).1) hbase)

theorem own_tm {w : World} {base : Nat} {e : TypeId} {g n cap : Nat} {l : List Tm} (h : Own tenc 3 w base e (.slice (some ⟨g, 0, none⟩) n cap) l) {i : Nat} {x : Tm} (hx : l[i]? = some x) :
    w.cell? ⟨g, i * 3, none⟩ = some (.int .i64 x.s) ∧ w.cell? ⟨g, i * 3 + 1, none⟩ = some (.int .i64 x.e) ∧ w.cell? ⟨g, i * 3 + 2, none⟩ = some (.int .i64 x.k) ∧ g < w.heap.size := by
  obtain ⟨b, off, e, hb, c1, c2, c3⟩ := tm_cells (Own.rd (enc := tenc) (sz := 3) tenc_len h) hx
  simp only [Option.some.injEq, Addr.mk.injEq, and_true] at e
  obtain ⟨rfl, rfl⟩ := e
  simp only [Nat.zero_add] at c1 c2 c3
  exact ⟨c1, c2, c3, hb⟩
theorem own_drew {α : Type} {enc : α → List Value} {sz : Nat} {w : World} {base : Nat} {e : TypeId} {v : Value} {l : List α} (h : Own enc sz w base e v l) : Own enc sz w.drew base e v l := h
theorem own_frz {w : World} {base : Nat} {e : TypeId} {g n cap : Nat} {l : List Tm} (h : Own tenc 3 w base e (.slice (some ⟨g, 0, none⟩) n cap) l) (hn : n = l.length) : ∀ j, w.frozen? ⟨g, j, none⟩ = false := by
  subst hn
  exact fun j => World.ownsRow.frozenAt h j

set_option maxHeartbeats 4000000 in
set_option maxRecDepth 100000 in
theorem rswapped_any (A : Option Addr) (c : Nat) (l : List Tm) (i k : Nat) (w : World) (hi : i < l.length) (hk : k < l.length) (hik : i ≠ k) (hn : l.length ≤ 1099511627777) (hr : Rd tenc 3 w w.heap.size A l) :
    Calls Try.prog 105 #[.slice A l.length c, .int .i64 i, .int .i64 k] w fun e w' => ∃ v, e = .returned v ∧ Own tenc 3 w' w.heap.size 34 v (sw t0 l i k) ∧ Below w.heap.size w w' := by
  obtain ⟨i0, hi0, hz0, hz1, hz2⟩ := info_parts tm_info
  obtain ⟨n, hn'⟩ : ∃ n, n = l.length := ⟨_, rfl⟩
  have hx := List.getElem?_eq_getElem hi
  have hy := List.getElem?_eq_getElem hk
  obtain ⟨x, hxe⟩ : ∃ x, x = l[i] := ⟨_, rfl⟩
  obtain ⟨y, hye⟩ : ∃ y, y = l[k] := ⟨_, rfl⟩
  rw [← hxe] at hx
  rw [← hye] at hy
  have hsw : sw t0 l i k = (l.set i y).set k x := by unfold sw; rw [getD_some hx, getD_some hy]
  obtain ⟨b, off, rfl, hbB, f1, f2, f3⟩ := tm_cells hr hx
  obtain ⟨b', off', e', _, g1, g2, g3⟩ := tm_cells hr hy
  simp only [Option.some.injEq, Addr.mk.injEq, and_true] at e'
  obtain ⟨rfl, rfl⟩ := e'
  rw [← hn'] at hn hi hk ⊢
  have HN := Lib.hid hn'
  have HS := Lib.hid hsw
  have HX := Lib.hid hx
  have HY := Lib.hid hy
  have hflat := rd_flat tenc_len hr
  have HF := Lib.hid hflat
  clear hn' hx hy hxe hye hsw hflat
  have hmade := Own.made (enc := tenc) (sz := 3) tenc_len w w.heap.size 34 [] w.heap.size rfl (Nat.le_refl _) (by simp [maxLen])
  have HM := Lib.hid hmade
  clear hmade
  go_enter Try.func105, Try.ntmps105
  go_wp2_with (first
    | (at_builtin; refine wpList_append_list rfl (.tmp 8) (.tmp 9) 22 rfl w.heap.size 34 i0 (.agg #[.int .i64 0, .int .i64 0, .int .i64 0]) 3 24 Try.underlying22 hi0 hz0 hz1 hz2 rfl (by decide) tenc tenc_len (.slice (some ⟨w.heap.size, 0, none⟩) 0 0) [] l rfl HM.out ⟨b, off, none⟩ n c rfl HN.out.symm (fun j u hj => (Below.cell (p := (⟨b, off, none⟩ : Addr).add j) ((Below.refl w.heap.size w).alloc (Nat.le_refl _) _) (by unfold Addr.add; split <;> simpa using hbB)).trans (HF.out j u hj)) (tenc_one l) (by unfold maxLen; simp; omega) (by simp; omega) (by simp) ?_; intro v w1 hown hgrow hbel))
  have hb1 : Below w.heap.size w w1 := ((Below.refl w.heap.size w).alloc (Nat.le_refl _) _).trans hbel
  rw [List.nil_append] at hown
  obtain ⟨g, cap, rfl, hbg, hglt⟩ := World.ownsRow.form hown (by rw [← HN.out]; omega)
  obtain ⟨p1, p2, p3, -⟩ := own_tm hown HX.out
  obtain ⟨q1, q2, q3, -⟩ := own_tm hown HY.out
  have frz := own_frz hown rfl
  rw [← HN.out]
  have F1 := (hb1.cell (p := ⟨b, off + i * 3, none⟩) hbB).trans f1
  have F2 := (hb1.cell (p := ⟨b, off + i * 3 + 1, none⟩) hbB).trans f2
  have F3 := (hb1.cell (p := ⟨b, off + i * 3 + 2, none⟩) hbB).trans f3
  have G1 := (hb1.cell (p := ⟨b, off + k * 3, none⟩) hbB).trans g1
  have G2 := (hb1.cell (p := ⟨b, off + k * 3 + 1, none⟩) hbB).trans g2
  have G3 := (hb1.cell (p := ⟨b, off + k * 3 + 2, none⟩) hbB).trans g3
  have hgb : g ≠ b := by omega
  have i1 : (0 : Int) ≤ (i : Int) := by omega
  have i2 : (i : Int) < (n : Int) := by omega
  have i3 : (0 : Int) ≤ (k : Int) := by omega
  have i4 : (k : Int) < (n : Int) := by omega
  clear f1 f2 f3 g1 g2 g3 hr
  go_region
  all_goals
    go_wp2
    go_ret
    refine ⟨.slice (some ⟨g, 0, none⟩) n cap, rfl, ?_, (by repeat (first | with_reducible exact Below.refl _ _ | with_reducible assumption | (with_reducible exact Env.below (by assumption)) | (with_reducible refine below_new ?_ _) | (with_reducible refine below_drew ?_) | (with_reducible refine below_drewN ?_ _) | (with_reducible refine below_put ?_ ?_ _; rotate_left 1; (dsimp only; omega)) | (with_reducible refine below_then ?_ (by assumption))))⟩
    have h1 := (Own.set tenc_len hown rfl i (by rw [← HN.out]; exact hi) y).1
    have h2 := (Own.set tenc_len h1 (by simp) k (by simp; rw [← HN.out]; exact hk) x).1
    rw [HS.out, HN.out]
    exact own_drew h2
end Go.Proofs.Ytffehibdeogjeaa
