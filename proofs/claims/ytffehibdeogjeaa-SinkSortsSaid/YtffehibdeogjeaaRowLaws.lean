/- Rows of elements of several cells that the call itself made: an element stored, a row cut, a row made and copied into. No condition. -/
import Derived.Test.YtffehibdeogjeaaAppend
import Derived.Laws.CopyRow
namespace Go.Proofs.Ytffehibdeogjeaa
open Go.RowKit

/-- Some cells stored one after the other. -/
def putW (w : World) (g o : Nat) : Nat → List Value → World
  | _, [] => w
  | j, u :: us => putW (w.setCell ⟨g, o + j, none⟩ u) g o (j + 1) us
def putL (xs : List Value) (o : Nat) : Nat → List Value → List Value
  | _, [] => xs
  | j, u :: us => putL (xs.set (o + j) u) o (j + 1) us
theorem putL_append_left (xs ys : List Value) (o : Nat) : ∀ (us : List Value) (j : Nat), o + j + us.length ≤ xs.length → putL (xs ++ ys) o j us = putL xs o j us ++ ys
  | [], _, _ => rfl
  | u :: us, j, h => by
    simp only [List.length_cons] at h
    unfold putL
    rw [List.set_append_left _ _ (by omega), putL_append_left _ ys o us (j + 1) (by simp; omega)]
theorem putL_append_right (xs ys : List Value) (o : Nat) : ∀ (us : List Value) (j : Nat), putL (xs ++ ys) (xs.length + o) j us = xs ++ putL ys o j us
  | [], _ => rfl
  | u :: us, j => by
    unfold putL
    rw [List.set_append_right _ _ (by omega), show xs.length + o + j - xs.length = o + j from by omega]
    exact putL_append_right xs _ o us (j + 1)
theorem putL_all : ∀ (us pre xs : List Value), us.length = xs.length → putL (pre ++ xs) 0 pre.length us = pre ++ us
  | [], pre, xs, h => by
    obtain rfl : xs = [] := List.eq_nil_of_length_eq_zero h.symm
    rfl
  | u :: us, pre, [], h => by simp at h
  | u :: us, pre, x :: xs, h => by
    unfold putL
    rw [List.set_append_right _ _ (by omega), show 0 + pre.length - pre.length = 0 from by omega]
    have e : pre ++ (x :: xs).set 0 u = (pre ++ [u]) ++ xs := by simp
    rw [e]
    have := putL_all us (pre ++ [u]) xs (by simpa using h)
    rw [show (pre ++ [u]).length = pre.length + 1 by simp] at this
    rw [this]
    simp

section
variable {α : Type} {enc : α → List Value} {sz : Nat}
theorem putL_flat (henc : ∀ x, (enc x).length = sz) (x : α) : ∀ (l : List α) (i : Nat), i < l.length → putL (l.flatMap enc) (i * sz) 0 (enc x) = (l.set i x).flatMap enc
  | [], _, h => by simp at h
  | y :: l, 0, _ => by
    rw [List.flatMap_cons, Nat.zero_mul, putL_append_left _ _ _ _ _ (by simp [henc]), List.set_cons_zero, List.flatMap_cons]
    have := putL_all (enc x) [] (enc y) (by rw [henc, henc])
    simp only [List.nil_append, List.length_nil] at this
    rw [this]
  | y :: l, i + 1, h => by
    have e : (i + 1) * sz = (enc y).length + i * sz := by rw [henc, Nat.add_mul]; omega
    rw [List.flatMap_cons, e, putL_append_right, putL_flat henc x l i (by simpa using h), List.set_cons_succ, List.flatMap_cons]

theorem row_put {base : Nat} {e : TypeId} {g n cap : Nat} (o : Nat) : ∀ (us xs : List Value) (j : Nat) (w : World), w.ownsRow base e sz (.slice (some ⟨g, 0, none⟩) n cap) n xs →
    (putW w g o j us).ownsRow base e sz (.slice (some ⟨g, 0, none⟩) n cap) n (putL xs o j us) ∧ w.grownBy (putW w g o j us) (some g)
  | [], xs, j, w, h => ⟨h, ⟨rfl, rfl, rfl, Nat.le_refl _, fun _ _ _ => rfl⟩⟩
  | u :: us, xs, j, w, h => by
    obtain ⟨h1, h2⟩ := World.ownsRow.stored h (o + j) u
    obtain ⟨h3, h4⟩ := row_put o us _ (j + 1) _ h1
    exact ⟨h3, ⟨h4.os.trans h2.os, h4.tape.trans h2.tape, h4.output.trans h2.output, Nat.le_trans h2.size h4.size, fun k hk hne => (h4.block k (Nat.lt_of_lt_of_le hk h2.size) hne).trans (h2.block k hk hne)⟩⟩
/-- An element stored. -/
theorem Own.set {w : World} {base : Nat} {e : TypeId} {g n cap : Nat} {l : List α} (henc : ∀ x, (enc x).length = sz) (h : Own enc sz w base e (.slice (some ⟨g, 0, none⟩) n cap) l) (hn : n = l.length) (i : Nat) (hi : i < l.length) (x : α) :
    Own enc sz (putW w g (i * sz) 0 (enc x)) base e (.slice (some ⟨g, 0, none⟩) n cap) (l.set i x) ∧ w.grownBy (putW w g (i * sz) 0 (enc x)) (some g) := by
  subst hn
  obtain ⟨h1, h2⟩ := row_put (sz := sz) (i * sz) (enc x) _ 0 w h
  rw [putL_flat henc x l i hi] at h1
  refine ⟨?_, h2⟩
  unfold Own
  rw [List.length_set]
  exact h1
/-- A row cut at its end. -/
theorem Own.take {w : World} {base : Nat} {e : TypeId} {g n cap : Nat} {l : List α} (henc : ∀ x, (enc x).length = sz) (h : Own enc sz w base e (.slice (some ⟨g, 0, none⟩) n cap) l) (m : Nat) (hm : m ≤ l.length) :
    Own enc sz w base e (.slice (some ⟨g, 0, none⟩) m cap) (l.take m) := by
  have hl : (l.take m).length = m := by rw [List.length_take]; omega
  have hflat : ((l.take m).flatMap enc) = (l.flatMap enc).take (m * sz) := by
    have e : l.flatMap enc = (l.take m).flatMap enc ++ (l.drop m).flatMap enc := by rw [← List.flatMap_append, List.take_append_drop]
    rw [e, List.take_left' (by rw [flat_length henc, hl])]
  unfold Own
  rw [hl]
  refine ⟨by rw [flat_length henc, hl], ?_⟩
  rcases h.2 with ⟨h', h0⟩ | ⟨g', cap', cur, h', hb, hg, hnc, hcm, hcs, htake⟩
  · cases h'
  · simp only [Value.slice.injEq, Option.some.injEq, Addr.mk.injEq, and_true] at h'
    obtain ⟨rfl, _, rfl⟩ := h'
    refine .inr ⟨g, cap, cur, rfl, hb, hg, by omega, hcm, hcs, ?_⟩
    rw [hflat, ← htake, List.take_take, Nat.min_eq_left (Nat.mul_le_mul_right sz hm)]
end

/-- A slice literal: a new block that holds the list. -/
theorem Own.made {α : Type} {enc : α → List Value} {sz : Nat} (henc : ∀ y, (enc y).length = sz) (w : World) (base : Nat) (e : TypeId) (l : List α) (g : Nat) (hg : g = w.heap.size) (hb : base ≤ g) (hm : l.length ≤ maxLen) :
    Own enc sz (w.alloc (.cells (l.flatMap enc).toArray e)) base e (.slice (some ⟨g, 0, none⟩) l.length l.length) l := by
  subst hg
  have hf := flat_length henc l
  refine ⟨hf, .inr ⟨w.heap.size, l.length, (l.flatMap enc).toArray, rfl, hb, ?_, Nat.le_refl _, hm, by simpa using hf, ?_⟩⟩
  · show (w.heap.push _)[w.heap.size]? = _
    simp
  · rw [List.take_of_length_le (by simp [hf])]

/-! ### copy -/
variable {P : Program}
theorem run_copy_cells (w : World) (dT sT ty elem : TypeId) (g dLen dCap : Nat) (a : Addr) (sLen sCap : Nat) (cur : Array Value) (t : TypeId) (cs : List Value) (size : Nat)
    (hu : P.underlying dT = some (.slice elem)) (hs : (P.info? elem).map (·.size) = some size)
    (hg : w.heap[g]? = some (.cells cur t (0, 0))) (hn : cs.length = Nat.min sLen dLen * size)
    (hsrc : ∀ j v, cs[j]? = some v → w.cell? (a.add j) = some v) (hfit : cs.length ≤ cur.size) (h1 : ∀ v ∈ cs, v.oneCell' = true) :
    (Builtin.copy_ #[dT, sT] ty #[.slice (some ⟨g, 0, none⟩) dLen dCap, .slice (some a) sLen sCap]).run P w =
      .ok (goInt (Nat.min sLen dLen : Nat)) (w.setRow g (cs ++ cur.toList.drop cs.length).toArray) := by
  have hl := run_loadCells_list (P := P) w a cs hsrc
  have hst := run_storeCells_at P g 0 t cs 0 cur w hg (by simpa using hfit) h1
  cases hq : P.info? elem with
  | none => simp [hq] at hs
  | some i =>
    have hi : i.size = size := by simpa [hq] using hs
    rw [hn] at hl
    simp [Builtin.copy_, run_underlying hu, Builtin.lenOf, Builtin.firstCells, sizeOf, typeInfo, hq, hi, hl, hst]
end Go.Proofs.Ytffehibdeogjeaa
