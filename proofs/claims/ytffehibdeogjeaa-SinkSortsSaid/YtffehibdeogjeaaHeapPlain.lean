/- Heaps as plain lists over a strict total order: sifting up and down keep the heap and what it holds; the first one is the least; a list sorted by sinking each element is sorted. No condition. -/
import Derived.Lib.Hide
namespace Go.Proofs.Ytffehibdeogjeaa

/-- A strict total order. -/
structure STO {α : Type} (lt : α → α → Bool) : Prop where
  irr : ∀ a, lt a a = false
  tr : ∀ a b c, lt a b = true → lt b c = true → lt a c = true
  tri : ∀ a b, lt a b = false → lt b a = false → a = b

section
variable {α : Type} {lt : α → α → Bool}
theorem STO.asym (h : STO lt) {a b : α} (hab : lt a b = true) : lt b a = false := by
  cases hba : lt b a with
  | false => rfl
  | true => have := h.tr _ _ _ hab hba; rw [h.irr] at this; cases this
/-- 'not less' is transitive. -/
theorem STO.le (h : STO lt) {a b c : α} (hab : lt a b = false) (hbc : lt b c = false) : lt a c = false := by
  cases hac : lt a c with
  | false => rfl
  | true =>
    cases hba : lt b a with
    | true => rw [h.tr _ _ _ hba hac] at hbc; cases hbc
    | false => have := h.tri _ _ hab hba; subst this; rw [hac] at hbc; cases hbc

/-- Two elements exchanged. -/
def sw (d : α) (l : List α) (i j : Nat) : List α := (l.set i (l.getD j d)).set j (l.getD i d)
theorem sw_length (d : α) (l : List α) (i j : Nat) : (sw d l i j).length = l.length := by simp [sw]
theorem sw_get (d : α) (l : List α) (i j k : Nat) (hi : i < l.length) (hj : j < l.length) : (sw d l i j).getD k d = if k = j then l.getD i d else if k = i then l.getD j d else l.getD k d := by
  unfold sw
  simp only [List.getD_eq_getElem?_getD, List.getElem?_set, List.length_set]
  by_cases h1 : k = j
  · subst h1; simp [hj]
  · have h1' : ¬ j = k := fun e => h1 e.symm
    by_cases h2 : k = i
    · subst h2; simp [h1, h1', hi]
    · have h2' : ¬ i = k := fun e => h2 e.symm
      simp [h1, h1', h2, h2']
theorem sw_perm (d : α) (l : List α) (i j : Nat) (hi : i < l.length) (hj : j < l.length) : (sw d l i j).Perm l := by
  have e : sw d l i j = (l.toArray.swap i j (by simpa using hi) (by simpa using hj)).toList := by
    simp [sw, Array.swap, List.getD_eq_getElem?_getD, List.getElem?_eq_getElem hi, List.getElem?_eq_getElem hj]
  rw [e]
  have := Array.swap_perm (xs := l.toArray) (i := i) (j := j) (by simpa using hi) (by simpa using hj)
  simpa using this.toList

/-! ### heaps -/
def IsHeap (lt : α → α → Bool) (d : α) (l : List α) : Prop := ∀ k, 0 < k → k < l.length → lt (l.getD k d) (l.getD ((k - 1) / 2) d) = false
theorem heap_first (h : STO lt) {d : α} {l : List α} (hh : IsHeap lt d l) : ∀ k, k < l.length → lt (l.getD k d) (l.getD 0 d) = false := by
  intro k
  induction k using Nat.strongRecOn with
  | ind k ih =>
    intro hk
    rcases Nat.eq_zero_or_pos k with rfl | h0
    · exact h.irr _
    · exact h.le (hh k h0 hk) (ih ((k - 1) / 2) (by omega) (by omega))

def up (lt : α → α → Bool) (d : α) : Nat → List α → Nat → List α
  | 0, l, _ => l
  | n + 1, l, i => if 0 < i ∧ lt (l.getD i d) (l.getD ((i - 1) / 2) d) = true then up lt d n (sw d l i ((i - 1) / 2)) ((i - 1) / 2) else l
/-- A heap but for the place i, which may be too small. -/
def UpInv (lt : α → α → Bool) (d : α) (l : List α) (i : Nat) : Prop :=
  (∀ k, 0 < k → k < l.length → k ≠ i → lt (l.getD k d) (l.getD ((k - 1) / 2) d) = false) ∧
  (∀ k, 0 < k → k < l.length → (k - 1) / 2 = i → 0 < i → lt (l.getD k d) (l.getD ((i - 1) / 2) d) = false)
theorem up_length (lt : α → α → Bool) (d : α) : ∀ (n : Nat) (l : List α) (i : Nat), (up lt d n l i).length = l.length
  | 0, _, _ => rfl
  | n + 1, l, i => by unfold up; split; rw [up_length lt d n, sw_length]; rfl
theorem up_perm (lt : α → α → Bool) (d : α) : ∀ (n : Nat) (l : List α) (i : Nat), i < l.length → (up lt d n l i).Perm l
  | 0, _, _, _ => List.Perm.refl _
  | n + 1, l, i, hi => by
    unfold up
    split
    · exact (up_perm lt d n _ _ (by rw [sw_length]; omega)).trans (sw_perm d l i _ hi (by omega))
    · exact List.Perm.refl _
theorem up_heap (h : STO lt) (d : α) : ∀ (n : Nat) (l : List α) (i : Nat), i ≤ n → i < l.length → UpInv lt d l i → IsHeap lt d (up lt d n l i)
  | 0, l, i, hn, hi, hv => by
    obtain rfl : i = 0 := by omega
    intro k h0 hk
    exact hv.1 k h0 hk (by omega)
  | n + 1, l, i, hn, hi, ⟨hv, hc⟩ => by
    unfold up
    split
    · rename_i hlt
      obtain ⟨h0, hlt⟩ := hlt
      have hp : (i - 1) / 2 < i := by omega
      refine up_heap h d n _ _ (by omega) (by rw [sw_length]; omega) ⟨fun k k0 hk hkp => ?_, fun k k0 hk hkp hp0 => ?_⟩
      · rw [sw_length] at hk
        rw [sw_get d l i _ k hi (by omega), sw_get d l i _ ((k - 1) / 2) hi (by omega), if_neg hkp]
        by_cases hki : k = i
        · subst hki
          rw [if_pos rfl, if_pos rfl]
          exact h.asym hlt
        · rw [if_neg hki]
          by_cases h1 : (k - 1) / 2 = (i - 1) / 2
          · rw [if_pos h1]
            have := hv k k0 hk hki
            rw [h1] at this
            cases hki2 : lt (l.getD k d) (l.getD i d) with
            | false => rfl
            | true => rw [h.tr _ _ _ hki2 hlt] at this; cases this
          · rw [if_neg h1]
            by_cases h2 : (k - 1) / 2 = i
            · rw [if_pos h2]
              exact hc k k0 hk h2 h0
            · rw [if_neg h2]
              exact hv k k0 hk hki
      · rw [sw_length] at hk
        rw [sw_get d l i _ k hi (by omega), sw_get d l i _ (((i - 1) / 2 - 1) / 2) hi (by omega)]
        have hpp := hv ((i - 1) / 2) hp0 (by omega) (by omega)
        rw [if_neg (by omega), if_neg (by omega : ((i - 1) / 2 - 1) / 2 ≠ (i - 1) / 2), if_neg (by omega : ((i - 1) / 2 - 1) / 2 ≠ i)]
        by_cases hki : k = i
        · subst hki
          rw [if_pos rfl]
          exact hpp
        · rw [if_neg hki]
          have := hv k k0 hk hki
          rw [hkp] at this
          exact h.le this hpp
    · rename_i hlt
      intro k k0 hk
      by_cases hki : k = i
      · subst hki
        cases hx : lt (l.getD k d) (l.getD ((k - 1) / 2) d) with
        | false => rfl
        | true => exact absurd ⟨k0, hx⟩ hlt
      · exact hv k k0 hk hki

/-- Pushing. -/
def pushL (lt : α → α → Bool) (d : α) (l : List α) (x : α) : List α := up lt d l.length (l ++ [x]) l.length
theorem pushL_perm (lt : α → α → Bool) (d : α) (l : List α) (x : α) : (pushL lt d l x).Perm (l ++ [x]) := up_perm lt d _ _ _ (by simp)
theorem pushL_length (lt : α → α → Bool) (d : α) (l : List α) (x : α) : (pushL lt d l x).length = l.length + 1 := by simp [pushL, up_length]
theorem pushL_heap (h : STO lt) (d : α) (l : List α) (x : α) (hh : IsHeap lt d l) : IsHeap lt d (pushL lt d l x) := by
  refine up_heap h d _ _ _ (Nat.le_refl _) (by simp) ⟨fun k k0 hk hki => ?_, fun k k0 hk hkp h0 => ?_⟩
  · have hk' : k < l.length := by simp at hk; omega
    have := hh k k0 hk'
    simp only [List.getD_eq_getElem?_getD] at this ⊢
    rw [List.getElem?_append_left hk', List.getElem?_append_left (by omega)]
    exact this
  · simp at hk
    omega

/-- The lesser child. -/
def chld (lt : α → α → Bool) (d : α) (l : List α) (i : Nat) : Nat := if 2 * i + 2 < l.length ∧ lt (l.getD (2 * i + 2) d) (l.getD (2 * i + 1) d) = true then 2 * i + 2 else 2 * i + 1
def dn (lt : α → α → Bool) (d : α) : Nat → List α → Nat → List α
  | 0, l, _ => l
  | n + 1, l, i => if 2 * i + 1 < l.length ∧ lt (l.getD (chld lt d l i) d) (l.getD i d) = true then dn lt d n (sw d l i (chld lt d l i)) (chld lt d l i) else l
theorem chld_lt (lt : α → α → Bool) (d : α) (l : List α) (i : Nat) (h : 2 * i + 1 < l.length) : chld lt d l i < l.length ∧ (chld lt d l i - 1) / 2 = i ∧ i < chld lt d l i := by
  unfold chld; split <;> omega
theorem chld_min (h : STO lt) (d : α) (l : List α) (i k : Nat) (hk : k < l.length) (hp : (k - 1) / 2 = i) (k0 : 0 < k) : lt (l.getD k d) (l.getD (chld lt d l i) d) = false := by
  unfold chld
  have hk2 : k = 2 * i + 1 ∨ k = 2 * i + 2 := by omega
  split
  · rename_i hc
    rcases hk2 with rfl | rfl
    · exact h.asym hc.2
    · exact h.irr _
  · rename_i hc
    rcases hk2 with rfl | rfl
    · exact h.irr _
    · cases hx : lt (l.getD (2 * i + 2) d) (l.getD (2 * i + 1) d) with
      | false => rfl
      | true => exact absurd ⟨hk, hx⟩ hc
theorem dn_length (lt : α → α → Bool) (d : α) : ∀ (n : Nat) (l : List α) (i : Nat), (dn lt d n l i).length = l.length
  | 0, _, _ => rfl
  | n + 1, l, i => by unfold dn; split; rw [dn_length lt d n, sw_length]; rfl
theorem dn_perm (lt : α → α → Bool) (d : α) : ∀ (n : Nat) (l : List α) (i : Nat), (dn lt d n l i).Perm l
  | 0, _, _ => List.Perm.refl _
  | n + 1, l, i => by
    unfold dn
    split
    · rename_i hc
      have := chld_lt lt d l i hc.1
      exact (dn_perm lt d n _ _).trans (sw_perm d l i _ (by omega) (by omega))
    · exact List.Perm.refl _
/-- A heap but for the place i, which may be too great. -/
def DnInv (lt : α → α → Bool) (d : α) (l : List α) (i : Nat) : Prop :=
  (∀ k, 0 < k → k < l.length → (k - 1) / 2 ≠ i → lt (l.getD k d) (l.getD ((k - 1) / 2) d) = false) ∧
  (∀ k, 0 < k → k < l.length → (k - 1) / 2 = i → 0 < i → lt (l.getD k d) (l.getD ((i - 1) / 2) d) = false)
theorem dn_heap (h : STO lt) (d : α) : ∀ (n : Nat) (l : List α) (i : Nat), l.length ≤ i + n → DnInv lt d l i → IsHeap lt d (dn lt d n l i)
  | 0, l, i, hn, ⟨hv, _⟩ => by
    intro k k0 hk
    have hk' : k < l.length := hk
    exact hv k k0 hk' (by omega)
  | n + 1, l, i, hn, ⟨hv, hc⟩ => by
    unfold dn
    split
    · rename_i hlt
      obtain ⟨h0, hlt⟩ := hlt
      obtain ⟨c1, c2, c3⟩ := chld_lt lt d l i h0
      have hmin := fun k hk hp k0 => chld_min h d l i k hk hp k0
      obtain ⟨c, hce⟩ : ∃ c, c = chld lt d l i := ⟨_, rfl⟩
      rw [← hce] at c1 c2 c3 hlt hmin ⊢
      refine dn_heap h d n _ _ (by rw [sw_length]; omega) ⟨fun k k0 hk hkp => ?_, fun k k0 hk hkp hp0 => ?_⟩
      · rw [sw_length] at hk
        rw [sw_get d l i c k (by omega) c1, sw_get d l i c ((k - 1) / 2) (by omega) c1, if_neg hkp]
        by_cases hkc : k = c
        · subst hkc
          rw [if_pos rfl, if_pos c2]
          exact h.asym hlt
        · rw [if_neg hkc]
          by_cases hki : k = i
          · subst hki
            rw [if_pos rfl, if_neg (by omega)]
            exact hc c (by omega) c1 c2 k0
          · rw [if_neg hki]
            by_cases h2 : (k - 1) / 2 = i
            · rw [if_pos h2]
              exact hmin k hk h2 k0
            · rw [if_neg h2]
              exact hv k k0 hk h2
      · rw [sw_length] at hk
        rw [sw_get d l i c k (by omega) c1, sw_get d l i c ((c - 1) / 2) (by omega) c1, if_neg (by omega), if_neg (by omega), if_neg (by omega : (c - 1) / 2 ≠ c), if_pos c2]
        have := hv k k0 hk (by omega)
        rw [hkp] at this
        exact this
    · rename_i hlt
      intro k k0 hk
      by_cases h2 : (k - 1) / 2 = i
      · have h0 : 2 * i + 1 < l.length := by omega
        have hx : lt (l.getD (chld lt d l i) d) (l.getD i d) = false := by
          cases hx : lt (l.getD (chld lt d l i) d) (l.getD i d) with
          | false => rfl
          | true => exact absurd ⟨h0, hx⟩ hlt
        rw [h2]
        exact h.le (chld_min h d l i k hk h2 k0) hx
      · exact hv k k0 hk h2

/-- Popping: what is left of a heap that is not empty. -/
def popL (lt : α → α → Bool) (d : α) (l : List α) : List α := dn lt d l.length ((l.set 0 (l.getD (l.length - 1) d)).take (l.length - 1)) 0
theorem popL_length (lt : α → α → Bool) (d : α) (l : List α) : (popL lt d l).length = l.length - 1 := by simp [popL, dn_length]
theorem popL_heap (h : STO lt) (d : α) (l : List α) (hh : IsHeap lt d l) : IsHeap lt d (popL lt d l) := by
  refine dn_heap h d _ _ _ (by simp) ⟨fun k k0 hk hkp => ?_, fun k k0 hk hkp h0 => by omega⟩
  simp at hk
  have := hh k k0 (by omega)
  simp only [List.getD_eq_getElem?_getD, List.getElem?_take, List.getElem?_set] at this ⊢
  rw [if_pos (by omega), if_neg (by omega), if_pos (by omega), if_neg (by omega)]
  exact this
theorem popL_perm (lt : α → α → Bool) (d : α) (l : List α) (hl : l ≠ []) : (l.getD 0 d :: popL lt d l).Perm l := by
  have hlen : 0 < l.length := List.length_pos_iff.2 hl
  refine ((dn_perm lt d _ _ _).cons _).trans ?_
  match l, hl with
  | x :: l, _ =>
    rcases List.eq_nil_or_concat l with rfl | ⟨l', y, rfl⟩
    · simp
    · have e1 : (x :: l'.concat y).getD ((x :: l'.concat y).length - 1) d = y := by simp [List.getD_eq_getElem?_getD]
      rw [e1]
      simp
      exact (List.perm_append_comm (l₁ := [y]) (l₂ := l'))
end
end Go.Proofs.Ytffehibdeogjeaa
