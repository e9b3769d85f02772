/- Plain laws of the loops that pop a heap: where sifting down stops, how it steps, the best of an element and its two children as a loop finds it. No condition. -/
import Derived.Test.YtffehibdeogjeaaSortPlain
namespace Go.Proofs.Ytffehibdeogjeaa
section
variable {α : Type} {lt : α → α → Bool} {d : α}
theorem dn_stop (m : Nat) (l : List α) {i : Nat} (h : ¬ (2 * i + 1 < l.length ∧ lt (l.getD (chld lt d l i) d) (l.getD i d) = true)) : dn lt d m l i = l := by
  cases m with
  | zero => rfl
  | succ m => unfold dn; rw [if_neg h]
theorem dn_step {m : Nat} {l : List α} {i : Nat} (h0 : 2 * i + 1 < l.length) (hm : l.length ≤ i + m) (h : lt (l.getD (chld lt d l i) d) (l.getD i d) = true) :
    ∃ m', m = m' + 1 ∧ dn lt d m l i = dn lt d m' (sw d l i (chld lt d l i)) (chld lt d l i) ∧ l.length ≤ chld lt d l i + m' := by
  have := chld_lt lt d l i h0
  cases m with
  | zero => omega
  | succ m => exact ⟨m, rfl, by rw [dn, if_pos ⟨h0, h⟩], by omega⟩

/-- The best of i and the first j of its children, as a loop finds it. -/
def bsk (lt : α → α → Bool) (d : α) (l : List α) (i : Nat) : Nat → Nat
  | 0 => i
  | j + 1 => if 2 * i + 1 + j < l.length ∧ lt (l.getD (2 * i + 1 + j) d) (l.getD (bsk lt d l i j) d) = true then 2 * i + 1 + j else bsk lt d l i j
theorem bsk_lt (l : List α) (i : Nat) (hi : i < l.length) : ∀ j, bsk lt d l i j < l.length
  | 0 => hi
  | j + 1 => by unfold bsk; split; omega; exact bsk_lt l i hi j
theorem bsk_out (l : List α) (i : Nat) : ∀ (k j : Nat), l.length ≤ 2 * i + 1 + j → bsk lt d l i (j + k) = bsk lt d l i j
  | 0, _, _ => rfl
  | k + 1, j, h => by
    rw [show j + (k + 1) = (j + k) + 1 from rfl, bsk, if_neg (by omega)]
    exact bsk_out l i k j h
theorem bsk_two (h : STO lt) (l : List α) (i : Nat) : bsk lt d l i 2 = if 2 * i + 1 < l.length ∧ lt (l.getD (chld lt d l i) d) (l.getD i d) = true then chld lt d l i else i := by
  have e1 : bsk lt d l i 1 = if 2 * i + 1 < l.length ∧ lt (l.getD (2 * i + 1) d) (l.getD i d) = true then 2 * i + 1 else i := rfl
  have e2 : bsk lt d l i 2 = if 2 * i + 2 < l.length ∧ lt (l.getD (2 * i + 2) d) (l.getD (bsk lt d l i 1) d) = true then 2 * i + 2 else bsk lt d l i 1 := rfl
  rw [e2, e1]
  unfold chld
  by_cases a1 : 2 * i + 1 < l.length
  · by_cases a2 : 2 * i + 2 < l.length
    · cases x1 : lt (l.getD (2 * i + 1) d) (l.getD i d) with
      | true =>
        cases x2 : lt (l.getD (2 * i + 2) d) (l.getD (2 * i + 1) d) with
        | true => simp [a1, a2, x2, h.tr _ _ _ x2 x1, -List.getD_eq_getElem?_getD]
        | false => simp [a1, a2, x1, x2, -List.getD_eq_getElem?_getD]
      | false =>
        cases x2 : lt (l.getD (2 * i + 2) d) (l.getD i d) with
        | true =>
          have x3 : lt (l.getD (2 * i + 2) d) (l.getD (2 * i + 1) d) = true := by
            cases x3 : lt (l.getD (2 * i + 2) d) (l.getD (2 * i + 1) d) with
            | true => rfl
            | false => rw [h.le x3 x1] at x2; cases x2
          simp [a1, a2, x2, x3, -List.getD_eq_getElem?_getD]
        | false =>
          cases x3 : lt (l.getD (2 * i + 2) d) (l.getD (2 * i + 1) d) with
          | true => simp [a1, a2, x2, -List.getD_eq_getElem?_getD]
          | false => simp [a1, a2, x1, x2, -List.getD_eq_getElem?_getD]
    · simp [a1, a2, -List.getD_eq_getElem?_getD]
  · have a2 : ¬ 2 * i + 2 < l.length := by omega
    simp [a1, a2, -List.getD_eq_getElem?_getD]
/-- A loop's step that sifts down by the best. -/
theorem bsk_step (h : STO lt) {m : Nat} {l : List α} {i : Nat} (hm : l.length ≤ i + m) (hb : bsk lt d l i 2 ≠ i) :
    ∃ m', m = m' + 1 ∧ dn lt d m l i = dn lt d m' (sw d l i (bsk lt d l i 2)) (bsk lt d l i 2) ∧ l.length ≤ bsk lt d l i 2 + m' := by
  rw [bsk_two h] at hb ⊢
  split at hb
  · rename_i hc
    rw [if_pos hc]
    exact dn_step hc.1 hm hc.2
  · exact absurd rfl hb
theorem bsk_stop (h : STO lt) (m : Nat) {l : List α} {i : Nat} (hb : bsk lt d l i 2 = i) : dn lt d m l i = l := by
  refine dn_stop _ _ fun hc => ?_
  rw [bsk_two h, if_pos hc] at hb
  have := chld_lt lt d l i hc.1
  omega

theorem popL_of {l : List α} {x : α} {n : Nat} (hn : l.length = n + 1) (hx : l[n]? = some x) : popL lt d l = dn lt d (n + 1) ((l.set 0 x).take n) 0 := by
  have e : l.getD n d = x := by simp [List.getD_eq_getElem?_getD, hx]
  unfold popL
  rw [hn, show n + 1 - 1 = n from rfl, e]
theorem popL_one {l : List α} (h : l.length = 1) : popL lt d l = [] := List.eq_nil_of_length_eq_zero (by rw [popL_length, h])
theorem untilL_step {p : α → Bool} {n : Nat} {l : List α} {x : α} (hl : l[0]? = some x) (hn : l.length ≤ n) (hp : p x = true) :
    ∃ n', untilL lt d p n l = (x :: (untilL lt d p n' (popL lt d l)).1, (untilL lt d p n' (popL lt d l)).2) ∧ (popL lt d l).length ≤ n' := by
  obtain ⟨h0, -⟩ := List.getElem?_eq_some_iff.1 hl
  have e : l.getD 0 d = x := by simp [List.getD_eq_getElem?_getD, hl]
  cases n with
  | zero => omega
  | succ n => exact ⟨n, by rw [untilL, if_pos ⟨List.length_pos_iff.1 h0, by rw [e]; exact hp⟩, e], by rw [popL_length]; omega⟩
theorem untilL_nil {p : α → Bool} (n : Nat) : untilL lt d p n [] = ([], []) := by
  cases n with
  | zero => rfl
  | succ n => simp [untilL]
theorem untilL_stop {p : α → Bool} (n : Nat) {l : List α} {x : α} (hl : l[0]? = some x) (hp : p x = false) : untilL lt d p n l = ([], l) := by
  have e : l.getD 0 d = x := by simp [List.getD_eq_getElem?_getD, hl]
  cases n with
  | zero => rfl
  | succ n => rw [untilL, if_neg]; rintro ⟨_, h⟩; rw [e, hp] at h; cases h
end
end Go.Proofs.Ytffehibdeogjeaa
