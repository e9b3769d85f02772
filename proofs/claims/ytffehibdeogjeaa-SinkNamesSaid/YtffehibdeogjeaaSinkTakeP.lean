/- What a sink takes, in plain terms (chapter 34). No condition. -/
import Derived.Test.YtffehibdeogjeaaTaskPlain
namespace Go.Proofs.Ytffehibdeogjeaa
open Go.RowKit

/-- The task of a sink that has rows alone. -/
def tk6 (W : List Rw) : Tk := { tk0 with kd := 6, rs := W }
def tk7 (W : List Rc) : Tk := { tk0 with kd := 7, ls := W }
theorem enchk_nil : enchk [] = 0 := by
  unfold enchk
  rw [if_neg (by simp), if_pos]
  exact ⟨fun i h => absurd h (by simp), fun i _ h => absurd h (by simp)⟩
theorem tk6_ok {W : List Rw} (h : ∀ x ∈ W, isrow x.s x.e = true) (hl : W.length ≤ 4000) : tkok (tk6 W) = true := by
  unfold tkok tk6 tk0 kept lone
  simp only [enchk_nil]
  simp [hl]
  exact h
theorem tk7_ok {W : List Rc} (h : ∀ x ∈ W, istime x.t = true) (hl : W.length ≤ 4000) : tkok (tk7 W) = true := by
  unfold tkok tk7 tk0 kept lone
  simp only [enchk_nil]
  simp [hl]
  exact h
/-- A message that a sink of rows takes. -/
def isRow (m : Ms) : Bool := msok m && decide (m.kind = 3)
theorem isRow_row {m : Ms} (h : isRow m = true) : isrow (mrow m).s (mrow m).e = true := by
  unfold isRow at h
  simp only [Bool.and_eq_true, decide_eq_true_eq] at h
  obtain ⟨h1, h2⟩ := h
  unfold msok at h1
  rw [if_neg (by omega), if_neg (by omega), if_pos h2] at h1
  simp only [Bool.and_eq_true] at h1
  exact h1.1
theorem take6 {W : List Rw} (m : Ms) (h : ∀ x ∈ W, isrow x.s x.e = true) (hl : W.length < 4000) : takeP (tk6 W) m = if isRow m = true then (tk6 (W ++ [mrow m]), 0) else (tk0, 8) := by
  unfold takeP
  rw [if_neg (by rw [tk6_ok h (by omega)]; simp), if_neg (by simp [tk6]), if_pos (by simp [tk6])]
  unfold isRow
  by_cases h1 : msok m = true ∧ m.kind = 3
  · rw [if_pos h1, if_neg (by simp [tk6]; omega), if_pos (by simp [h1])]
    rfl
  · rw [if_neg h1, if_neg (by simpa using h1)]
def rowsOf (l : List Ms) : List Rw := (l.filter isRow).map mrow
theorem rowsOf_ok (l : List Ms) : ∀ x ∈ rowsOf l, isrow x.s x.e = true := by
  intro x hx
  obtain ⟨m, hm, rfl⟩ := List.mem_map.1 hx
  exact isRow_row (List.mem_filter.1 hm).2
theorem rowsOf_len (l : List Ms) : (rowsOf l).length ≤ l.length := by
  unfold rowsOf
  rw [List.length_map]
  exact List.length_filter_le _ _
theorem rowsOf_snoc {l : List Ms} {k : Nat} {m : Ms} (h : l[k]? = some m) : rowsOf (l.take (k + 1)) = rowsOf (l.take k) ++ if isRow m = true then [mrow m] else [] := by
  unfold rowsOf
  rw [List.take_add_one, h]
  by_cases hm : isRow m = true
  · simp [hm]
  · simp [hm]
theorem rowsOf_rev (l : List Ms) : (rowsOf l.reverse).Perm (rowsOf l) := by
  unfold rowsOf
  rw [List.filter_reverse, List.map_reverse]
  exact List.reverse_perm _
theorem rev_at {l : List Ms} {n k : Nat} (hn : l.length = n) (hk : k < n) : l.reverse[k]? = l[n - 1 - k]? := by
  rw [List.getElem?_reverse (by omega), hn]
end Go.Proofs.Ytffehibdeogjeaa
