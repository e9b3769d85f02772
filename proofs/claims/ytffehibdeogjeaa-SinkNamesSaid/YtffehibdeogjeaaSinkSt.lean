/- The state of two sinks that take messages one after the other (chapter 34). No condition. -/
import Derived.Test.YtffehibdeogjeaaSinkTake6
namespace Go.Proofs.Ytffehibdeogjeaa
open Go.RowKit

theorem loc_swap {W : World} {a b : Nat} {x y : List Value} (h : Loc W [(a, x), (b, y)]) : Loc W [(b, y), (a, x)] := by
  obtain ⟨a1, a2, a3, b1, b2, b3, -⟩ := h
  exact ⟨b1, b2, b3, a1, a2, a3, trivial⟩
theorem Env.lt2 {w0 W : World} {L : List (Nat × List Value)} (h : Env w0 L W) : ∀ q ∈ L, q.1 < W.heap.size := h.lt'
theorem env_put9 {w0 W : World} {L : List (Nat × List Value)} {c : Nat} (h : Env w0 L W) (hc : w0.heap.size ≤ c) (v0 v1 v2 v3 v4 v5 v6 v7 v8 : Value) (hL : ∀ q ∈ L, q.1 ≠ c) : Env w0 L (put9 W c v0 v1 v2 v3 v4 v5 v6 v7 v8) := by
  unfold put9
  exact ((((((((h.far hc hL v0).far hc hL v1).far hc hL v2).far hc hL v3).far hc hL v4).far hc hL v5).far hc hL v6).far hc hL v7).far hc hL v8
/-- Two sinks, in boxes, behind some messages from the front and some from the back, and the rows that are wanted. -/
def MSt (l : List Ms) (kA kB pa pb B : Nat) (w : World) (v : Value) (W : World) : Prop :=
  ∃ (P M S E R L P' M' S' E' R' L' : Option Addr) (cp cm cs ce cr cl cp' cm' cs' ce' cr' cl' nx ny : Nat), (rowsOf (l.take kA)).length = nx ∧ (rowsOf (l.reverse.take kB)).length = ny ∧ nx ≤ kA ∧ ny ≤ kB ∧
    Own wenc 5 W B 72 v (rowsOf (l.take kA)) ∧ Loc W [(pa, [.int .u8 6, .int .i64 0, .int .i64 0, .slice P 0 cp, .slice M 0 cm, .slice S 0 cs, .slice E 0 ce, .slice R nx cr, .slice L 0 cl]), (pb, [.int .u8 6, .int .i64 0, .int .i64 0, .slice P' 0 cp', .slice M' 0 cm', .slice S' 0 cs', .slice E' 0 ce', .slice R' ny cr', .slice L' 0 cl'])] ∧
    Rd wenc 5 W W.heap.size R (rowsOf (l.take kA)) ∧ Rd wenc 5 W W.heap.size R' (rowsOf (l.reverse.take kB)) ∧ NzL P M S E R L cp cm cs ce cr cl ∧ NzL P' M' S' E' R' L' cp' cm' cs' ce' cr' cl' ∧
    (∀ ad, R = some ad → B ≤ ad.block) ∧ (∀ ad, R' = some ad → B ≤ ad.block) ∧ (rowsOf (l.take kA) ≠ [] → ∀ ad, R = some ad → v.ownBlock ≠ some ad.block) ∧ (rowsOf (l.reverse.take kB) ≠ [] → ∀ ad, R' = some ad → v.ownBlock ≠ some ad.block) ∧ Below w.heap.size w W ∧ B ≤ W.heap.size
theorem MSt.more {l : List Ms} {kA kB kA' kB' pa pb B : Nat} {w W W' : World} {v : Value} (h : MSt l kA kB pa pb B w v W) (hb : Below W.heap.size W W') (h1 : rowsOf (l.take kA') = rowsOf (l.take kA)) (h2 : rowsOf (l.reverse.take kB') = rowsOf (l.reverse.take kB)) (g1 : kA ≤ kA') (g2 : kB ≤ kB') : MSt l kA' kB' pa pb B w v W' := by
  obtain ⟨P, M, S, E, R, L, P', M', S', E', R', L', cp, cm, cs, ce, cr, cl, cp', cm', cs', ce', cr', cl', nx, ny, hnx, hny, hxk, hyk, hown, hl, hra, hrb, hza, hzb, hfa, hfb, hpa, hpb, hbb, hsr⟩ := h
  rw [← h1] at hnx hown hra hpa
  rw [← h2] at hny hrb hpb
  exact ⟨P, M, S, E, R, L, P', M', S', E', R', L', cp, cm, cs, ce, cr, cl, cp', cm', cs', ce', cr', cl', nx, ny, hnx, hny, Nat.le_trans hxk g1, Nat.le_trans hyk g2, hown.below hb, hl.below hb, rd_grown hra hb, rd_grown hrb hb, hza, hzb, hfa, hfb, hpa, hpb, below_then hbb hb, Nat.le_trans hsr hb.size⟩
/-- Rows that are read stay apart from a row that grows. -/
theorem rd_apart {Z w7 : World} {v v7 : Value} {R : Option Addr} {Y : List Rw} {o : Obj} (h : Rd wenc 5 Z Z.heap.size R Y) (hap : Y ≠ [] → ∀ ad, R = some ad → v.ownBlock ≠ some ad.block) (hgr : (Z.alloc o).grownBy w7 v.ownBlock) (hsf : v7.ownBlock = v.ownBlock ∨ ∀ k, v7.ownBlock = some k → (Z.alloc o).heap.size ≤ k) :
    Rd wenc 5 w7 w7.heap.size R Y ∧ (Y ≠ [] → ∀ ad, R = some ad → v7.ownBlock ≠ some ad.block) := by
  by_cases hY : Y = []
  · subst hY
    exact ⟨rd_emp, fun h => absurd rfl h⟩
  · have h' := rd_grown h (below_new (Below.refl _ _) o)
    refine ⟨rd_grownBy h' hgr (fun ad e => hap hY ad e), fun _ ad e => ?_⟩
    obtain ⟨b, off, e2, hb, -⟩ := h' hY
    rw [e] at e2
    injection e2 with e3
    rcases hsf with h1 | h1
    · rw [h1]; exact hap hY ad e
    · intro h2
      have := h1 _ h2
      rw [e3] at this
      exact absurd hb (Nat.not_lt.2 this)
/-- A sink behind a message, in a box of its own. -/
def TkR (kd : Int) (X : List Rw) (nx : Nat) (e : Int) (W : World) (v8 v9 : Value) (W' : World) : Prop :=
  ∃ (c : Nat) (P M S E R L : Option Addr) (cp cm cs ce cr cl : Nat), v8 = .pointer (some ⟨c, 0, none⟩) ∧ v9 = .int .i64 e ∧ W.heap.size ≤ c ∧ Loc W' [(c, [.int .u8 kd, .int .i64 0, .int .i64 0, .slice P 0 cp, .slice M 0 cm, .slice S 0 cs, .slice E 0 ce, .slice R nx cr, .slice L 0 cl])] ∧
    Rd wenc 5 W' W'.heap.size R X ∧ NzL P M S E R L cp cm cs ce cr cl ∧ (∀ ad, R = some ad → W.heap.size ≤ ad.block) ∧ Below W.heap.size W W'
/-- A box made behind what the call made. -/
theorem tkr_late {kd : Int} {X : List Rw} {nx : Nat} {e : Int} {W W0 W1 : World} {P M S E R L : Option Addr} {cp cm cs ce cr cl : Nat} (hb0 : Below W.heap.size W W0) (hb1 : Below W0.heap.size W0 W1) (hr : Rd wenc 5 W1 W1.heap.size R X) (hz : NzL P M S E R L cp cm cs ce cr cl) (hf : ∀ ad, R = some ad → W0.heap.size ≤ ad.block) :
    TkR kd X nx e W (.pointer (some ⟨W1.heap.size, 0, none⟩)) (.int .i64 e) (W1.alloc (.cells #[.int .u8 kd, .int .i64 0, .int .i64 0, .slice P 0 cp, .slice M 0 cm, .slice S 0 cs, .slice E 0 ce, .slice R nx cr, .slice L 0 cl] 67)) := by
  have hb := below_then hb0 hb1
  refine ⟨_, P, M, S, E, R, L, cp, cm, cs, ce, cr, cl, rfl, rfl, hb.size, (Loc.nil W1).new [.int .u8 kd, .int .i64 0, .int .i64 0, .slice P 0 cp, .slice M 0 cm, .slice S 0 cs, .slice E 0 ce, .slice R nx cr, .slice L 0 cl] 67, rd_grown hr (below_new (Below.refl _ _) _), hz, fun ad h => Nat.le_trans hb0.size (hf ad h), below_new hb _⟩
/-- A box made ahead of the call. -/
theorem tkr_first {kd : Int} {X : List Rw} {nx : Nat} {e : Int} {W W0 W1 : World} {c : Nat} {v0 v1 v2 v3 v4 v5 v6 v7 v8 : Value} {P M S E R L : Option Addr} {cp cm cs ce cr cl : Nat} (hb0 : Below W.heap.size W W0) (hl0 : Loc W0 [(c, [v0, v1, v2, v3, v4, v5, v6, v7, v8])]) (hc : W.heap.size ≤ c) (hb1 : Below W0.heap.size W0 W1) (hr : Rd wenc 5 W1 W1.heap.size R X) (hz : NzL P M S E R L cp cm cs ce cr cl) (hf : ∀ ad, R = some ad → W0.heap.size ≤ ad.block) :
    TkR kd X nx e W (.pointer (some ⟨c, 0, none⟩)) (.int .i64 e) (put9 W1 c (.int .u8 kd) (.int .i64 0) (.int .i64 0) (.slice P 0 cp) (.slice M 0 cm) (.slice S 0 cs) (.slice E 0 ce) (.slice R nx cr) (.slice L 0 cl)) := by
  have hb := below_then hb0 hb1
  have hl1 := hl0.below hb1
  have hc0 : c < W0.heap.size := hl0.1
  exact ⟨_, P, M, S, E, R, L, cp, cm, cs, ce, cr, cl, rfl, rfl, hc, put9_loc hl1 (by simp) _ _ _ _ _ _ _ _ _, rd_put9 hr (fun ad h => Nat.lt_of_lt_of_le hc0 (hf ad h)) _ _ _ _ _ _ _ _ _, hz, fun ad h => Nat.le_trans hb0.size (hf ad h), put9_below hb hc _ _ _ _ _ _ _ _ _⟩
end Go.Proofs.Ytffehibdeogjeaa
