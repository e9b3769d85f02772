/- Lemmas and contracts that the later texts use: HeapPlain, SortPlain, Cmp, Timers, Entries, Entries2, joined into one text. The conditions of each stand at its head. -/
import Derived.Lib.Hide
import Derived.Test.YtffehibdeogjeaaKitA
import Derived.StillTailTactics
/- Heaps as plain lists over a strict total order: sifting up and down keep the heap and what it holds; the first one is the least; a list sorted by sinking each element is sorted. No condition. -/
namespace Go.Proofs.Ytffehibdeogjeaa

/-- A strict total order. -/
structure STO {α : Type} (lt : α → α → Bool) : Prop where
  irr : ∀ a, lt a a = false
  tr : ∀ a b c, lt a b = true → lt b c = true → lt a c = true
  tri : ∀ a b, lt a b = false → lt b a = false → a = b

section
variable {α : Type} {lt : α → α → Bool}
theorem STO.asym (h : STO lt) {a b : α} (hab : lt a b = true) : lt b a = false := by
  cases hba : lt b a with
  | false => rfl
  | true => have := h.tr _ _ _ hab hba; rw [h.irr] at this; cases this
/-- 'not less' is transitive. -/
theorem STO.le (h : STO lt) {a b c : α} (hab : lt a b = false) (hbc : lt b c = false) : lt a c = false := by
  cases hac : lt a c with
  | false => rfl
  | true =>
    cases hba : lt b a with
    | true => rw [h.tr _ _ _ hba hac] at hbc; cases hbc
    | false => have := h.tri _ _ hab hba; subst this; rw [hac] at hbc; cases hbc

/-- Two elements exchanged. -/
def sw (d : α) (l : List α) (i j : Nat) : List α := (l.set i (l.getD j d)).set j (l.getD i d)
theorem sw_length (d : α) (l : List α) (i j : Nat) : (sw d l i j).length = l.length := by simp [sw]
theorem sw_get (d : α) (l : List α) (i j k : Nat) (hi : i < l.length) (hj : j < l.length) : (sw d l i j).getD k d = if k = j then l.getD i d else if k = i then l.getD j d else l.getD k d := by
  unfold sw
  simp only [List.getD_eq_getElem?_getD, List.getElem?_set, List.length_set]
  by_cases h1 : k = j
  · subst h1; simp [hj]
  · have h1' : ¬ j = k := fun e => h1 e.symm
    by_cases h2 : k = i
    · subst h2; simp [h1, h1', hi]
    · have h2' : ¬ i = k := fun e => h2 e.symm
      simp [h1, h1', h2, h2']
theorem sw_perm (d : α) (l : List α) (i j : Nat) (hi : i < l.length) (hj : j < l.length) : (sw d l i j).Perm l := by
  have e : sw d l i j = (l.toArray.swap i j (by simpa using hi) (by simpa using hj)).toList := by
    simp [sw, Array.swap, List.getD_eq_getElem?_getD, List.getElem?_eq_getElem hi, List.getElem?_eq_getElem hj]
  rw [e]
  have := Array.swap_perm (xs := l.toArray) (i := i) (j := j) (by simpa using hi) (by simpa using hj)
  simpa using this.toList

/-! ### heaps -/
def IsHeap (lt : α → α → Bool) (d : α) (l : List α) : Prop := ∀ k, 0 < k → k < l.length → lt (l.getD k d) (l.getD ((k - 1) / 2) d) = false
theorem heap_first (h : STO lt) {d : α} {l : List α} (hh : IsHeap lt d l) : ∀ k, k < l.length → lt (l.getD k d) (l.getD 0 d) = false := by
  intro k
  induction k using Nat.strongRecOn with
  | ind k ih =>
    intro hk
    rcases Nat.eq_zero_or_pos k with rfl | h0
    · exact h.irr _
    · exact h.le (hh k h0 hk) (ih ((k - 1) / 2) (by omega) (by omega))

def up (lt : α → α → Bool) (d : α) : Nat → List α → Nat → List α
  | 0, l, _ => l
  | n + 1, l, i => if 0 < i ∧ lt (l.getD i d) (l.getD ((i - 1) / 2) d) = true then up lt d n (sw d l i ((i - 1) / 2)) ((i - 1) / 2) else l
/-- A heap but for the place i, which may be too small. -/
def UpInv (lt : α → α → Bool) (d : α) (l : List α) (i : Nat) : Prop :=
  (∀ k, 0 < k → k < l.length → k ≠ i → lt (l.getD k d) (l.getD ((k - 1) / 2) d) = false) ∧
  (∀ k, 0 < k → k < l.length → (k - 1) / 2 = i → 0 < i → lt (l.getD k d) (l.getD ((i - 1) / 2) d) = false)
theorem up_length (lt : α → α → Bool) (d : α) : ∀ (n : Nat) (l : List α) (i : Nat), (up lt d n l i).length = l.length
  | 0, _, _ => rfl
  | n + 1, l, i => by unfold up; split; rw [up_length lt d n, sw_length]; rfl
theorem up_perm (lt : α → α → Bool) (d : α) : ∀ (n : Nat) (l : List α) (i : Nat), i < l.length → (up lt d n l i).Perm l
  | 0, _, _, _ => List.Perm.refl _
  | n + 1, l, i, hi => by
    unfold up
    split
    · exact (up_perm lt d n _ _ (by rw [sw_length]; omega)).trans (sw_perm d l i _ hi (by omega))
    · exact List.Perm.refl _
theorem up_heap (h : STO lt) (d : α) : ∀ (n : Nat) (l : List α) (i : Nat), i ≤ n → i < l.length → UpInv lt d l i → IsHeap lt d (up lt d n l i)
  | 0, l, i, hn, hi, hv => by
    obtain rfl : i = 0 := by omega
    intro k h0 hk
    exact hv.1 k h0 hk (by omega)
  | n + 1, l, i, hn, hi, ⟨hv, hc⟩ => by
    unfold up
    split
    · rename_i hlt
      obtain ⟨h0, hlt⟩ := hlt
      have hp : (i - 1) / 2 < i := by omega
      refine up_heap h d n _ _ (by omega) (by rw [sw_length]; omega) ⟨fun k k0 hk hkp => ?_, fun k k0 hk hkp hp0 => ?_⟩
      · rw [sw_length] at hk
        rw [sw_get d l i _ k hi (by omega), sw_get d l i _ ((k - 1) / 2) hi (by omega), if_neg hkp]
        by_cases hki : k = i
        · subst hki
          rw [if_pos rfl, if_pos rfl]
          exact h.asym hlt
        · rw [if_neg hki]
          by_cases h1 : (k - 1) / 2 = (i - 1) / 2
          · rw [if_pos h1]
            have := hv k k0 hk hki
            rw [h1] at this
            cases hki2 : lt (l.getD k d) (l.getD i d) with
            | false => rfl
            | true => rw [h.tr _ _ _ hki2 hlt] at this; cases this
          · rw [if_neg h1]
            by_cases h2 : (k - 1) / 2 = i
            · rw [if_pos h2]
              exact hc k k0 hk h2 h0
            · rw [if_neg h2]
              exact hv k k0 hk hki
      · rw [sw_length] at hk
        rw [sw_get d l i _ k hi (by omega), sw_get d l i _ (((i - 1) / 2 - 1) / 2) hi (by omega)]
        have hpp := hv ((i - 1) / 2) hp0 (by omega) (by omega)
        rw [if_neg (by omega), if_neg (by omega : ((i - 1) / 2 - 1) / 2 ≠ (i - 1) / 2), if_neg (by omega : ((i - 1) / 2 - 1) / 2 ≠ i)]
        by_cases hki : k = i
        · subst hki
          rw [if_pos rfl]
          exact hpp
        · rw [if_neg hki]
          have := hv k k0 hk hki
          rw [hkp] at this
          exact h.le this hpp
    · rename_i hlt
      intro k k0 hk
      by_cases hki : k = i
      · subst hki
        cases hx : lt (l.getD k d) (l.getD ((k - 1) / 2) d) with
        | false => rfl
        | true => exact absurd ⟨k0, hx⟩ hlt
      · exact hv k k0 hk hki

/-- Pushing. -/
def pushL (lt : α → α → Bool) (d : α) (l : List α) (x : α) : List α := up lt d l.length (l ++ [x]) l.length
theorem pushL_perm (lt : α → α → Bool) (d : α) (l : List α) (x : α) : (pushL lt d l x).Perm (l ++ [x]) := up_perm lt d _ _ _ (by simp)
theorem pushL_length (lt : α → α → Bool) (d : α) (l : List α) (x : α) : (pushL lt d l x).length = l.length + 1 := by simp [pushL, up_length]
theorem pushL_heap (h : STO lt) (d : α) (l : List α) (x : α) (hh : IsHeap lt d l) : IsHeap lt d (pushL lt d l x) := by
  refine up_heap h d _ _ _ (Nat.le_refl _) (by simp) ⟨fun k k0 hk hki => ?_, fun k k0 hk hkp h0 => ?_⟩
  · have hk' : k < l.length := by simp at hk; omega
    have := hh k k0 hk'
    simp only [List.getD_eq_getElem?_getD] at this ⊢
    rw [List.getElem?_append_left hk', List.getElem?_append_left (by omega)]
    exact this
  · simp at hk
    omega

/-- The lesser child. -/
def chld (lt : α → α → Bool) (d : α) (l : List α) (i : Nat) : Nat := if 2 * i + 2 < l.length ∧ lt (l.getD (2 * i + 2) d) (l.getD (2 * i + 1) d) = true then 2 * i + 2 else 2 * i + 1
def dn (lt : α → α → Bool) (d : α) : Nat → List α → Nat → List α
  | 0, l, _ => l
  | n + 1, l, i => if 2 * i + 1 < l.length ∧ lt (l.getD (chld lt d l i) d) (l.getD i d) = true then dn lt d n (sw d l i (chld lt d l i)) (chld lt d l i) else l
theorem chld_lt (lt : α → α → Bool) (d : α) (l : List α) (i : Nat) (h : 2 * i + 1 < l.length) : chld lt d l i < l.length ∧ (chld lt d l i - 1) / 2 = i ∧ i < chld lt d l i := by
  unfold chld; split <;> omega
theorem chld_min (h : STO lt) (d : α) (l : List α) (i k : Nat) (hk : k < l.length) (hp : (k - 1) / 2 = i) (k0 : 0 < k) : lt (l.getD k d) (l.getD (chld lt d l i) d) = false := by
  unfold chld
  have hk2 : k = 2 * i + 1 ∨ k = 2 * i + 2 := by omega
  split
  · rename_i hc
    rcases hk2 with rfl | rfl
    · exact h.asym hc.2
    · exact h.irr _
  · rename_i hc
    rcases hk2 with rfl | rfl
    · exact h.irr _
    · cases hx : lt (l.getD (2 * i + 2) d) (l.getD (2 * i + 1) d) with
      | false => rfl
      | true => exact absurd ⟨hk, hx⟩ hc
theorem dn_length (lt : α → α → Bool) (d : α) : ∀ (n : Nat) (l : List α) (i : Nat), (dn lt d n l i).length = l.length
  | 0, _, _ => rfl
  | n + 1, l, i => by unfold dn; split; rw [dn_length lt d n, sw_length]; rfl
theorem dn_perm (lt : α → α → Bool) (d : α) : ∀ (n : Nat) (l : List α) (i : Nat), (dn lt d n l i).Perm l
  | 0, _, _ => List.Perm.refl _
  | n + 1, l, i => by
    unfold dn
    split
    · rename_i hc
      have := chld_lt lt d l i hc.1
      exact (dn_perm lt d n _ _).trans (sw_perm d l i _ (by omega) (by omega))
    · exact List.Perm.refl _
/-- A heap but for the place i, which may be too great. -/
def DnInv (lt : α → α → Bool) (d : α) (l : List α) (i : Nat) : Prop :=
  (∀ k, 0 < k → k < l.length → (k - 1) / 2 ≠ i → lt (l.getD k d) (l.getD ((k - 1) / 2) d) = false) ∧
  (∀ k, 0 < k → k < l.length → (k - 1) / 2 = i → 0 < i → lt (l.getD k d) (l.getD ((i - 1) / 2) d) = false)
theorem dn_heap (h : STO lt) (d : α) : ∀ (n : Nat) (l : List α) (i : Nat), l.length ≤ i + n → DnInv lt d l i → IsHeap lt d (dn lt d n l i)
  | 0, l, i, hn, ⟨hv, _⟩ => by
    intro k k0 hk
    have hk' : k < l.length := hk
    exact hv k k0 hk' (by omega)
  | n + 1, l, i, hn, ⟨hv, hc⟩ => by
    unfold dn
    split
    · rename_i hlt
      obtain ⟨h0, hlt⟩ := hlt
      obtain ⟨c1, c2, c3⟩ := chld_lt lt d l i h0
      have hmin := fun k hk hp k0 => chld_min h d l i k hk hp k0
      obtain ⟨c, hce⟩ : ∃ c, c = chld lt d l i := ⟨_, rfl⟩
      rw [← hce] at c1 c2 c3 hlt hmin ⊢
      refine dn_heap h d n _ _ (by rw [sw_length]; omega) ⟨fun k k0 hk hkp => ?_, fun k k0 hk hkp hp0 => ?_⟩
      · rw [sw_length] at hk
        rw [sw_get d l i c k (by omega) c1, sw_get d l i c ((k - 1) / 2) (by omega) c1, if_neg hkp]
        by_cases hkc : k = c
        · subst hkc
          rw [if_pos rfl, if_pos c2]
          exact h.asym hlt
        · rw [if_neg hkc]
          by_cases hki : k = i
          · subst hki
            rw [if_pos rfl, if_neg (by omega)]
            exact hc c (by omega) c1 c2 k0
          · rw [if_neg hki]
            by_cases h2 : (k - 1) / 2 = i
            · rw [if_pos h2]
              exact hmin k hk h2 k0
            · rw [if_neg h2]
              exact hv k k0 hk h2
      · rw [sw_length] at hk
        rw [sw_get d l i c k (by omega) c1, sw_get d l i c ((c - 1) / 2) (by omega) c1, if_neg (by omega), if_neg (by omega), if_neg (by omega : (c - 1) / 2 ≠ c), if_pos c2]
        have := hv k k0 hk (by omega)
        rw [hkp] at this
        exact this
    · rename_i hlt
      intro k k0 hk
      by_cases h2 : (k - 1) / 2 = i
      · have h0 : 2 * i + 1 < l.length := by omega
        have hx : lt (l.getD (chld lt d l i) d) (l.getD i d) = false := by
          cases hx : lt (l.getD (chld lt d l i) d) (l.getD i d) with
          | false => rfl
          | true => exact absurd ⟨h0, hx⟩ hlt
        rw [h2]
        exact h.le (chld_min h d l i k hk h2 k0) hx
      · exact hv k k0 hk h2

/-- Popping: what is left of a heap that is not empty. -/
def popL (lt : α → α → Bool) (d : α) (l : List α) : List α := dn lt d l.length ((l.set 0 (l.getD (l.length - 1) d)).take (l.length - 1)) 0
theorem popL_length (lt : α → α → Bool) (d : α) (l : List α) : (popL lt d l).length = l.length - 1 := by simp [popL, dn_length]
theorem popL_heap (h : STO lt) (d : α) (l : List α) (hh : IsHeap lt d l) : IsHeap lt d (popL lt d l) := by
  refine dn_heap h d _ _ _ (by simp) ⟨fun k k0 hk hkp => ?_, fun k k0 hk hkp h0 => by omega⟩
  simp at hk
  have := hh k k0 (by omega)
  simp only [List.getD_eq_getElem?_getD, List.getElem?_take, List.getElem?_set] at this ⊢
  rw [if_pos (by omega), if_neg (by omega), if_pos (by omega), if_neg (by omega)]
  exact this
theorem popL_perm (lt : α → α → Bool) (d : α) (l : List α) (hl : l ≠ []) : (l.getD 0 d :: popL lt d l).Perm l := by
  have hlen : 0 < l.length := List.length_pos_iff.2 hl
  refine ((dn_perm lt d _ _ _).cons _).trans ?_
  match l, hl with
  | x :: l, _ =>
    rcases List.eq_nil_or_concat l with rfl | ⟨l', y, rfl⟩
    · simp
    · have e1 : (x :: l'.concat y).getD ((x :: l'.concat y).length - 1) d = y := by simp [List.getD_eq_getElem?_getD]
      rw [e1]
      simp
      exact (List.perm_append_comm (l₁ := [y]) (l₂ := l'))
end
end Go.Proofs.Ytffehibdeogjeaa

/- Sorting by sinking each element from the end, as plain lists over a strict total order: what is sorted, that it is the only such list; popping a heap gives the elements in order. No condition. -/
namespace Go.Proofs.Ytffehibdeogjeaa
section
variable {α : Type} {lt : α → α → Bool}
/-- Sorted. -/
def Srt (lt : α → α → Bool) (l : List α) : Prop := l.Pairwise fun a b => lt b a = false
theorem srt_get {d : α} {l : List α} : Srt lt l ↔ ∀ i j, i < j → j < l.length → lt (l.getD j d) (l.getD i d) = false := by
  unfold Srt
  rw [List.pairwise_iff_getElem]
  constructor
  · intro h i j hij hj
    have := h i j (by omega) hj hij
    simpa [List.getD_eq_getElem?_getD, List.getElem?_eq_getElem hj, List.getElem?_eq_getElem (show i < l.length by omega)] using this
  · intro h i j hi hj hij
    have := h i j hij hj
    simpa [List.getD_eq_getElem?_getD, List.getElem?_eq_getElem hj, List.getElem?_eq_getElem hi] using this
/-- There is one sorted list of some elements. -/
theorem srt_unique (h : STO lt) : ∀ {l m : List α}, l.Perm m → Srt lt l → Srt lt m → l = m
  | [], m, hp, _, _ => (List.Perm.nil_eq hp)
  | a :: l, m, hp, hl, hm => by
    match m, hp, hm with
    | [], hp, _ => exact absurd hp.length_eq (by simp)
    | b :: m, hp, hm =>
      have ha : a ∈ b :: m := hp.mem_iff.1 (by simp)
      have hb : b ∈ a :: l := hp.mem_iff.2 (by simp)
      have e : a = b := by
        rcases List.mem_cons.1 ha with e | ha
        · exact e
        · rcases List.mem_cons.1 hb with e | hb
          · exact e.symm
          · exact h.tri _ _ ((List.pairwise_cons.1 hm).1 a ha) ((List.pairwise_cons.1 hl).1 b hb)
      subst e
      rw [srt_unique h (List.Perm.cons_inv hp) (List.pairwise_cons.1 hl).2 (List.pairwise_cons.1 hm).2]

/-- The element number k sinks to its place. -/
def bub (lt : α → α → Bool) (d : α) : Nat → List α → List α
  | 0, l => l
  | k + 1, l => if lt (l.getD (k + 1) d) (l.getD k d) = true then bub lt d k (sw d l (k + 1) k) else l
theorem bub_length (lt : α → α → Bool) (d : α) : ∀ (k : Nat) (l : List α), (bub lt d k l).length = l.length
  | 0, _ => rfl
  | k + 1, l => by unfold bub; split; rw [bub_length lt d k, sw_length]; rfl
theorem bub_perm (lt : α → α → Bool) (d : α) : ∀ (k : Nat) (l : List α), k < l.length → (bub lt d k l).Perm l
  | 0, _, _ => List.Perm.refl _
  | k + 1, l, hk => by
    unfold bub
    split
    · exact (bub_perm lt d k _ (by rw [sw_length]; omega)).trans (sw_perm d l _ _ hk (by omega))
    · exact List.Perm.refl _
theorem bub_srt (h : STO lt) (d : α) : ∀ (k : Nat) (l : List α), k < l.length →
    (∀ i j, i < j → j < l.length → i ≠ k → j ≠ k → lt (l.getD j d) (l.getD i d) = false) → (∀ j, k < j → j < l.length → lt (l.getD j d) (l.getD k d) = false) → Srt lt (bub lt d k l)
  | 0, l, hk, h1, h2 => by
    rw [show bub lt d 0 l = l from rfl, srt_get (d := d)]
    intro i j hij hj
    by_cases hi : i = 0
    · subst hi; exact h2 j hij hj
    · exact h1 i j hij hj hi (by omega)
  | k + 1, l, hk, h1, h2 => by
    unfold bub
    split
    · rename_i hlt
      refine bub_srt h d k _ (by rw [sw_length]; omega) (fun i j hij hj hik hjk => ?_) (fun j hkj hj => ?_)
      · rw [sw_length] at hj
        rw [sw_get d l (k + 1) k j hk (by omega), sw_get d l (k + 1) k i hk (by omega), if_neg hjk, if_neg hik]
        by_cases hj1 : j = k + 1
        · rw [if_pos hj1, if_neg (by omega)]
          exact h1 i k (by omega) (by omega) (by omega) (by omega)
        · rw [if_neg hj1]
          by_cases hi1 : i = k + 1
          · rw [if_pos hi1]
            exact h1 k j (by omega) hj (by omega) hj1
          · rw [if_neg hi1]
            exact h1 i j hij hj hi1 hj1
      · rw [sw_length] at hj
        rw [sw_get d l (k + 1) k j hk (by omega), sw_get d l (k + 1) k k hk (by omega), if_neg (by omega), if_pos rfl]
        by_cases hj1 : j = k + 1
        · rw [if_pos hj1]
          exact h.asym hlt
        · rw [if_neg hj1]
          exact h2 j (by omega) hj
    · rename_i hlt
      have hlt' : lt (l.getD (k + 1) d) (l.getD k d) = false := by
        cases hx : lt (l.getD (k + 1) d) (l.getD k d) with
        | false => rfl
        | true => exact absurd hx hlt
      rw [srt_get (d := d)]
      intro i j hij hj
      by_cases hj1 : j = k + 1
      · subst hj1
        by_cases hi : i = k
        · subst hi; exact hlt'
        · exact h.le hlt' (h1 i k (by omega) (by omega) (by omega) (by omega))
      · by_cases hi1 : i = k + 1
        · subst hi1; exact h2 j hij hj
        · exact h1 i j hij hj hi1 hj1

/-- All of them, one after the other. -/
def sortL (lt : α → α → Bool) (d : α) (xs : List α) : List α := xs.foldl (fun acc x => bub lt d acc.length (acc ++ [x])) []
theorem sortL_snoc (lt : α → α → Bool) (d : α) (xs : List α) (x : α) : sortL lt d (xs ++ [x]) = bub lt d (sortL lt d xs).length (sortL lt d xs ++ [x]) := by simp [sortL]
theorem sortL_facts (h : STO lt) (d : α) (xs : List α) : (sortL lt d xs).Perm xs ∧ Srt lt (sortL lt d xs) := by
  suffices H : ∀ ys acc : List α, Srt lt acc → (ys.foldl (fun acc x => bub lt d acc.length (acc ++ [x])) acc).Perm (acc ++ ys) ∧ Srt lt (ys.foldl (fun acc x => bub lt d acc.length (acc ++ [x])) acc) by
    have := H xs [] List.Pairwise.nil
    simpa [sortL] using this
  intro ys
  induction ys with
  | nil => intro acc ha; simpa using ha
  | cons y ys ih =>
    intro acc ha
    have hb : Srt lt (bub lt d acc.length (acc ++ [y])) := by
      refine bub_srt h d _ _ (by simp) (fun i j hij hj hi hj1 => ?_) (fun j h1 h2 => by simp at h2; omega)
      have hj' : j < acc.length := by simp at hj; omega
      have := (srt_get (d := d)).1 ha i j hij hj'
      simp only [List.getD_eq_getElem?_getD] at this ⊢
      rw [List.getElem?_append_left hj', List.getElem?_append_left (by omega)]
      exact this
    obtain ⟨h1, h2⟩ := ih _ hb
    rw [List.foldl_cons]
    refine ⟨h1.trans ?_, h2⟩
    have := (bub_perm lt d acc.length (acc ++ [y]) (by simp)).append_right ys
    simpa using this
theorem sortL_perm (h : STO lt) (d : α) (xs : List α) : (sortL lt d xs).Perm xs := (sortL_facts h d xs).1
theorem sortL_srt (h : STO lt) (d : α) (xs : List α) : Srt lt (sortL lt d xs) := (sortL_facts h d xs).2
theorem sortL_length (h : STO lt) (d : α) (xs : List α) : (sortL lt d xs).length = xs.length := (sortL_perm h d xs).length_eq
theorem sortL_eq (h : STO lt) (d : α) {xs ys : List α} (hp : xs.Perm ys) (hs : Srt lt ys) : sortL lt d xs = ys := srt_unique h ((sortL_perm h d xs).trans hp) (sortL_srt h d xs) hs
theorem sortL_congr (h : STO lt) (d : α) {xs ys : List α} (hp : xs.Perm ys) : sortL lt d xs = sortL lt d ys := sortL_eq h d (hp.trans (sortL_perm h d ys).symm) (sortL_srt h d ys)

/-- The first of a heap is the first of the sorted list of the same elements. -/
theorem heap_head (h : STO lt) {d : α} {l : List α} {x : α} {m : List α} (hh : IsHeap lt d l) (hp : l.Perm (x :: m)) (hs : Srt lt (x :: m)) : l ≠ [] ∧ l.getD 0 d = x ∧ (popL lt d l).Perm m := by
  have hl : l ≠ [] := by rintro rfl; exact absurd hp.length_eq (by simp)
  have hlen : 0 < l.length := List.length_pos_iff.2 hl
  have h0 : l.getD 0 d ∈ l := by simp [List.getD_eq_getElem?_getD, List.getElem?_eq_getElem hlen]
  have e : l.getD 0 d = x := by
    rcases List.mem_cons.1 (hp.mem_iff.1 h0) with e | hm
    · exact e
    · obtain ⟨k, hk, hx⟩ := List.getElem_of_mem (hp.mem_iff.2 (by simp : x ∈ x :: m))
      have h1 := heap_first h hh k hk
      rw [show l.getD k d = x by simp [List.getD_eq_getElem?_getD, List.getElem?_eq_getElem hk, hx]] at h1
      exact (h.tri _ _ h1 ((List.pairwise_cons.1 hs).1 _ hm)).symm
  refine ⟨hl, e, ?_⟩
  have := (popL_perm lt d l hl).trans hp
  rw [e] at this
  exact this.cons_inv

/-- Popping while the first one fits. -/
def untilL (lt : α → α → Bool) (d : α) (p : α → Bool) : Nat → List α → List α × List α
  | 0, l => ([], l)
  | n + 1, l => if l ≠ [] ∧ p (l.getD 0 d) = true then ((l.getD 0 d) :: (untilL lt d p n (popL lt d l)).1, (untilL lt d p n (popL lt d l)).2) else ([], l)
theorem untilL_facts (h : STO lt) (d : α) (p : α → Bool) : ∀ (n : Nat) (l : List α), l.length ≤ n → IsHeap lt d l →
    IsHeap lt d (untilL lt d p n l).2 ∧ (untilL lt d p n l).1 ++ sortL lt d (untilL lt d p n l).2 = sortL lt d l ∧ (∀ x ∈ (untilL lt d p n l).1, p x = true) ∧ ((untilL lt d p n l).2 = [] ∨ p ((untilL lt d p n l).2.getD 0 d) = false) ∧
    (untilL lt d p n l).1.length + (untilL lt d p n l).2.length = l.length
  | 0, l, hn, hh => by
    have : l = [] := List.eq_nil_of_length_eq_zero (by omega)
    subst this
    simp [untilL, hh]
  | n + 1, l, hn, hh => by
    unfold untilL
    split
    · rename_i hc
      have hlen : 0 < l.length := List.length_pos_iff.2 hc.1
      obtain ⟨i1, i2, i3, i4, i5⟩ := untilL_facts h d p n (popL lt d l) (by rw [popL_length]; omega) (popL_heap h d l hh)
      refine ⟨i1, ?_, ?_, i4, ?_⟩
      · rw [List.cons_append, i2]
        refine (sortL_eq h d ((popL_perm lt d l hc.1).symm.trans ((sortL_perm h d _).symm.cons _)) (List.pairwise_cons.2 ⟨fun x hx => ?_, sortL_srt h d _⟩)).symm
        have hx' : x ∈ l := (popL_perm lt d l hc.1).mem_iff.1 (List.mem_cons_of_mem _ ((sortL_perm h d _).mem_iff.1 hx))
        obtain ⟨k, hk, rfl⟩ := List.getElem_of_mem hx'
        have := heap_first h hh k hk
        simpa [List.getD_eq_getElem?_getD, List.getElem?_eq_getElem hk] using this
      · intro x hx
        rcases List.mem_cons.1 hx with rfl | hx
        · exact hc.2
        · exact i3 x hx
      · rw [popL_length] at i5
        simp only [List.length_cons]
        omega
    · rename_i hc
      refine ⟨hh, by simp, by simp, ?_, by simp⟩
      by_cases hl : l = []
      · exact .inl hl
      · right
        cases hx : p (l.getD 0 d) with
        | false => rfl
        | true => exact absurd ⟨hl, hx⟩ hc
end
end Go.Proofs.Ytffehibdeogjeaa

/- The contracts of cmp.Compare at int64 and of cmp.Or at int. No condition. -/
namespace Go.Proofs.Ytffehibdeogjeaa
open Go.RowKit

def cmpI (a b : Int) : Int := if a < b then -1 else if b < a then 1 else 0
theorem isNaN_any (a : Int) (w : World) : Calls Try.prog 121 #[.int .i64 a] w fun e w' => e = .returned (.bool false) ∧ w = w' := by
  go_enter Try.func121, Try.ntmps121
  go_wp2
  go_ret
  exact ⟨ret_bool (by simp), rfl⟩
set_option maxHeartbeats 400000 in
theorem cmp_any (a b : Int) (w : World) : Calls Try.prog 87 #[.int .i64 a, .int .i64 b] w fun e w' => e = .returned (.int .i64 (cmpI a b)) ∧ w = w' := by
  go_enter Try.func87, Try.ntmps87
  go_wp2_with (go_at_call 121; refine (isNaN_any _ _).mono ?_; rintro e w' ⟨rfl, rfl⟩)
  all_goals (go_ret; exact ⟨ret_i64 (by unfold cmpI; grind), rfl⟩)
/-- The first one that is not zero. -/
def orL : List Int → Int
  | [] => 0
  | x :: xs => if x = 0 then orL xs else x
theorem orL_append (xs ys : List Int) (h : ∀ x ∈ xs, x = 0) : orL (xs ++ ys) = orL ys := by
  induction xs with
  | nil => rfl
  | cons x xs ih =>
    rw [List.cons_append, orL, if_pos (h x (by simp)), ih (fun y hy => h y (by simp [hy]))]
set_option maxHeartbeats 1000000 in
theorem or_any (A : Option Addr) (c : Nat) (xs : List Int) (w : World) (hn : xs.length ≤ 1000000) (h : Rd ienc 1 w w.heap.size A xs) :
    Calls Try.prog 86 #[.slice A xs.length c] w fun e w' => e = .returned (.int .i64 (orL xs)) ∧ w = w' := by
  obtain ⟨n, hn'⟩ : ∃ n, n = xs.length := ⟨_, rfl⟩
  rw [← hn'] at hn ⊢
  have HN := Lib.hid hn'
  clear hn'
  go_enter Try.func86, Try.ntmps86
  go_wp2
  go_loop [8] (fun i => ∃ k : Nat, k ≤ n ∧ i = .int .i64 k ∧ ∀ x ∈ xs.take k, x = 0) (fun i => n - (intOf i).toNat)
  case atStart => exact ⟨0, Nat.zero_le _, rfl, by simp⟩
  case round =>
    obtain ⟨k, hk, rfl, hz⟩ := hrel
    by_cases hlt : k < n
    · have hkx : k < xs.length := by rw [← HN.out]; exact hlt
      have hx := List.getElem?_eq_getElem hkx
      have e1 : orL xs = orL (xs[k] :: xs.drop (k + 1)) := by
        rw [← List.drop_eq_getElem_cons hkx]
        conv => lhs; rw [← List.take_append_drop k xs]
        exact orL_append _ _ hz
      have e2 : xs.take (k + 1) = xs.take k ++ [xs[k]] := List.take_succ_eq_append_getElem hkx
      obtain ⟨x, hxe⟩ : ∃ x, x = xs[k] := ⟨_, rfl⟩
      rw [← hxe] at hx e1 e2
      obtain ⟨b, off, rfl, hb, hc⟩ := h.at_ hx
      have hc0 : w.cell? ⟨b, off + k, none⟩ = some (.int .i64 x) := by simpa using hc 0 _ rfl
      have E1 := Lib.hid e1; have E2 := Lib.hid e2; have HZ := Lib.hid hz
      clear hx hxe h hc e1 e2 hz
      by_cases hx0 : x = 0
      · have hb0 : (x != 0) = false := by simp [hx0]
        have H0 := Lib.hid hx0
        clear hx0
        go_wp2
        go_round
        case rel => exact ⟨k + 1, by omega, by go_num, by rw [E2.out]; intro y hy; rcases List.mem_append.1 hy with hy | hy; exact HZ.out y hy; rw [List.mem_singleton] at hy; rw [hy]; exact H0.out⟩
        case measure => simp [intOf]; omega
      · have hb0 : (x != 0) = true := by simp [hx0]
        have H0 := Lib.hid hx0
        clear hx0
        go_wp2
        go_ret
        exact ⟨ret_i64 (by rw [E1.out, orL, if_neg H0.out]), rfl⟩
    · have e1 : orL xs = 0 := by
        have : xs.take k = xs := List.take_of_length_le (by rw [← HN.out]; omega)
        rw [this] at hz
        have := orL_append xs [] hz
        simpa [orL] using this
      have E1 := Lib.hid e1
      clear e1 hz
      go_wp2
      go_ret
      exact ⟨ret_i64 (by rw [E1.out]), rfl⟩
/-! Of some, laid before. -/
theorem or2 (x y : Int) (g : Nat) (w : World) (hg : g < w.heap.size) (h0 : w.cell? ⟨g, 0, none⟩ = some (.int .i64 x)) (h1 : w.cell? ⟨g, 1, none⟩ = some (.int .i64 y)) : Calls Try.prog 86 #[.slice (some ⟨g, 0, none⟩) 2 2] w fun e w' =>
    e = .returned (.int .i64 (orL [x, y])) ∧ w = w' :=
  or_any (some ⟨g, 0, none⟩) 2 [x, y] w (by simp) fun _ => ⟨g, 0, rfl, hg, fun k x hx j u hu => by
    match j, hu with
    | 0, hu =>
    simp [ienc] at hu; subst hu
    match k, x, hx with
    | 0, x, hx => simp at hx; subst hx; exact h0
    | 1, x, hx => simp at hx; subst hx; exact h1⟩
theorem or3 (x y z : Int) (g : Nat) (w : World) (hg : g < w.heap.size) (h0 : w.cell? ⟨g, 0, none⟩ = some (.int .i64 x)) (h1 : w.cell? ⟨g, 1, none⟩ = some (.int .i64 y)) (h2 : w.cell? ⟨g, 2, none⟩ = some (.int .i64 z)) : Calls Try.prog 86 #[.slice (some ⟨g, 0, none⟩) 3 3] w fun e w' =>
    e = .returned (.int .i64 (orL [x, y, z])) ∧ w = w' :=
  or_any (some ⟨g, 0, none⟩) 3 [x, y, z] w (by simp) fun _ => ⟨g, 0, rfl, hg, fun k x hx j u hu => by
    match j, hu with
    | 0, hu =>
    simp [ienc] at hu; subst hu
    match k, x, hx with
    | 0, x, hx => simp at hx; subst hx; exact h0
    | 1, x, hx => simp at hx; subst hx; exact h1
    | 2, x, hx => simp at hx; subst hx; exact h2⟩
theorem or5 (a b x y z : Int) (g : Nat) (w : World) (hg : g < w.heap.size) (h0 : w.cell? ⟨g, 0, none⟩ = some (.int .i64 a)) (h1 : w.cell? ⟨g, 1, none⟩ = some (.int .i64 b)) (h2 : w.cell? ⟨g, 2, none⟩ = some (.int .i64 x)) (h3 : w.cell? ⟨g, 3, none⟩ = some (.int .i64 y)) (h4 : w.cell? ⟨g, 4, none⟩ = some (.int .i64 z)) : Calls Try.prog 86 #[.slice (some ⟨g, 0, none⟩) 5 5] w fun e w' =>
    e = .returned (.int .i64 (orL [a, b, x, y, z])) ∧ w = w' :=
  or_any (some ⟨g, 0, none⟩) 5 [a, b, x, y, z] w (by simp) fun _ => ⟨g, 0, rfl, hg, fun k x hx j u hu => by
    match j, hu with
    | 0, hu =>
    simp [ienc] at hu; subst hu
    match k, x, hx with
    | 0, x, hx => simp at hx; subst hx; exact h0
    | 1, x, hx => simp at hx; subst hx; exact h1
    | 2, x, hx => simp at hx; subst hx; exact h2
    | 3, x, hx => simp at hx; subst hx; exact h3
    | 4, x, hx => simp at hx; subst hx; exact h4⟩
end Go.Proofs.Ytffehibdeogjeaa

/- The contracts of the timers (chapter 18): the order, what is right, the check. No condition but those that each names. -/
namespace Go.Proofs.Ytffehibdeogjeaa
open Go.RowKit

theorem cmp_still (a b : Int) (w : World) : Calls Try.prog 87 #[.int .i64 a, .int .i64 b] w fun e w' => e = .returned (.int .i64 (cmpI a b)) ∧ w' = w :=
  (cmp_any a b w).mono fun _ _ h => ⟨h.1, h.2.symm⟩
theorem region_still_tail {P : Program} {id : Nat} {Q : Exit → Act → World → Prop} {a : Act} {w : World} {l : List Oper} (n : Nat) (hm : P.follows .mixedOrders = true) (hB : Region.lexTailB .any l.toArray n = true)
    (h : wpStill P l.toArray w.drew (fun a' => wpList P l.toArray Q (l.drop n) a' w.drew) (l.take n) a) : (Code.region id l.toArray true).wp P Q a w := wp_region_still_tail n hm hB h

/-- A timer: where its span begins and ends, and its key. -/
structure Tm where
  s : Int
  e : Int
  k : Int
deriving DecidableEq
instance : Inhabited Tm := ⟨⟨0, 0, 0⟩⟩
def tenc (t : Tm) : List Value := [.int .i64 t.s, .int .i64 t.e, .int .i64 t.k]
def t0 : Tm := ⟨0, 0, 0⟩
/-- One comes before another one. -/
def tlt (a b : Tm) : Bool := decide (a.e < b.e ∨ (a.e = b.e ∧ (a.s < b.s ∨ (a.s = b.s ∧ a.k < b.k))))
theorem tsto : STO tlt where
  irr a := by simp [tlt]
  tr a b c h1 h2 := by simp [tlt] at *; omega
  tri a b h1 h2 := by
    obtain ⟨a1, a2, a3⟩ := a
    obtain ⟨b1, b2, b3⟩ := b
    simp [tlt] at *; omega
theorem or_tlt (a b : Tm) : decide (orL [cmpI a.e b.e, cmpI a.s b.s, cmpI a.k b.k] < 0) = tlt a b := by
  unfold tlt
  rw [decide_eq_decide]
  unfold orL orL orL orL cmpI
  grind

set_option maxHeartbeats 4000000 in
set_option maxRecDepth 100000 in
theorem before_any (a b : Tm) (w : World) :
    Calls Try.prog 75 #[.agg #[.int .i64 a.s, .int .i64 a.e, .int .i64 a.k], .agg #[.int .i64 b.s, .int .i64 b.e, .int .i64 b.k]] w fun e w' => e = .returned (.bool (tlt a b)) ∧ Below w.heap.size w w' := by
  have hor := Lib.hid (or_tlt a b)
  go_enter Try.func75, Try.ntmps75
  go_wp2_with fail
  refine region_still_tail 19 (by kernel_rfl) (by kernel_rfl) ?_
  simp only [List.take_succ_cons, List.take_zero, List.drop_succ_cons, List.drop_zero]
  repeat still_step
  still_call (cmp_still _ _ _)
  repeat still_step
  still_call (cmp_still _ _ _)
  repeat still_step
  still_call (cmp_still _ _ _)
  repeat still_step
  refine wpStill_nil ?_
  go_wp2_with (first
      | (go_at_call 86; refine (or3 (cmpI a.e b.e) (cmpI a.s b.s) (cmpI a.k b.k) _ _ (by simp) (by go_simp) (by go_simp) (by go_simp)).mono ?_; rintro e w1 ⟨rfl, rfl⟩))
  go_ret
  exact ⟨ret_bool hor.out, (by repeat (first | exact Below.refl _ _ | assumption | (with_reducible exact Env.below (by assumption)) | (with_reducible refine below_new ?_ _) | (with_reducible refine below_drew ?_) | (with_reducible refine below_drewN ?_ _) | (with_reducible refine below_put ?_ ?_ _; rotate_left 1; (dsimp only; omega)) | (refine below_then ?_ (by assumption))))⟩

/-- What is right. -/
def tok (t : Tm) : Prop := -1100585369600 ≤ t.s ∧ t.s < t.e ∧ t.e ≤ 1100585369600
instance (t : Tm) : Decidable (tok t) := by unfold tok; infer_instance
set_option maxHeartbeats 1000000 in
theorem tright_any (t : Tm) (w : World) :
    Calls Try.prog 74 #[.agg #[.int .i64 t.s, .int .i64 t.e, .int .i64 t.k]] w fun e w' => e = .returned (.bool (decide (tok t))) ∧ Below w.heap.size w w' := by
  go_enter Try.func74, Try.ntmps74
  go_wp2
  all_goals (go_ret; exact ⟨ret_bool (by unfold tok; grind), (by repeat (first | exact Below.refl _ _ | assumption | (with_reducible exact Env.below (by assumption)) | (with_reducible refine below_new ?_ _) | (with_reducible refine below_drew ?_) | (with_reducible refine below_drewN ?_ _) | (with_reducible refine below_put ?_ ?_ _; rotate_left 1; (dsimp only; omega)) | (refine below_then ?_ (by assumption))))⟩)
set_option maxHeartbeats 1000000 in
theorem rtright_any (t : Tm) (w : World) :
    Calls Try.prog 27 #[.agg #[.int .i64 t.s, .int .i64 t.e, .int .i64 t.k]] w fun e w' => e = .returned (.bool (decide (tok t))) ∧ Below w.heap.size w w' := by
  go_enter Try.func27, Try.ntmps27
  go_wp2
  all_goals (go_ret; exact ⟨ret_bool (by unfold tok; grind), (by repeat (first | exact Below.refl _ _ | assumption | (with_reducible exact Env.below (by assumption)) | (with_reducible refine below_new ?_ _) | (with_reducible refine below_drew ?_) | (with_reducible refine below_drewN ?_ _) | (with_reducible refine below_put ?_ ?_ _; rotate_left 1; (dsimp only; omega)) | (refine below_then ?_ (by assumption))))⟩)
end Go.Proofs.Ytffehibdeogjeaa

/- Entries of a store: their order, the check of an accumulator (chapters 16, 17). No condition. -/
namespace Go.Proofs.Ytffehibdeogjeaa
open Go.RowKit

/-- An entry: key, span, the accumulators of both sides. -/
structure En where
  k : Int
  s : Int
  e : Int
  c1 : Int
  s1 : Int
  m1 : Int
  x1 : Int
  c2 : Int
  s2 : Int
  m2 : Int
  x2 : Int
deriving DecidableEq
instance : Inhabited En := ⟨⟨0, 0, 0, 0, 0, 0, 0, 0, 0, 0, 0⟩⟩
def enenc (x : En) : List Value := [.int .i64 x.k, .int .i64 x.s, .int .i64 x.e, .int .i64 x.c1, .int .i64 x.s1, .int .i64 x.m1, .int .i64 x.x1, .int .i64 x.c2, .int .i64 x.s2, .int .i64 x.m2, .int .i64 x.x2]
theorem enenc_len (x : En) : (enenc x).length = 11 := rfl
theorem enenc_one (l : List En) : ∀ u ∈ l.flatMap enenc, u.oneCell' = true := by
  intro u hu
  obtain ⟨x, _, hx⟩ := List.mem_flatMap.1 hu
  simp [enenc] at hx
  rcases hx with rfl | rfl | rfl | rfl | rfl | rfl | rfl | rfl | rfl | rfl | rfl <;> rfl
theorem en_cells {w : World} {B : Nat} {A : Option Addr} {l : List En} (h : Rd enenc 11 w B A l) {k : Nat} {x : En} (hx : l[k]? = some x) :
    ∃ b off, A = some ⟨b, off, none⟩ ∧ b < B ∧ w.cell? ⟨b, off + k * 11, none⟩ = some (.int .i64 x.k) ∧ w.cell? ⟨b, off + k * 11 + 1, none⟩ = some (.int .i64 x.s) ∧ w.cell? ⟨b, off + k * 11 + 2, none⟩ = some (.int .i64 x.e) ∧ w.cell? ⟨b, off + k * 11 + 3, none⟩ = some (.int .i64 x.c1) ∧ w.cell? ⟨b, off + k * 11 + 4, none⟩ = some (.int .i64 x.s1) ∧ w.cell? ⟨b, off + k * 11 + 5, none⟩ = some (.int .i64 x.m1) ∧ w.cell? ⟨b, off + k * 11 + 6, none⟩ = some (.int .i64 x.x1) ∧ w.cell? ⟨b, off + k * 11 + 7, none⟩ = some (.int .i64 x.c2) ∧ w.cell? ⟨b, off + k * 11 + 8, none⟩ = some (.int .i64 x.s2) ∧ w.cell? ⟨b, off + k * 11 + 9, none⟩ = some (.int .i64 x.m2) ∧ w.cell? ⟨b, off + k * 11 + 10, none⟩ = some (.int .i64 x.x2) := by
  obtain ⟨b, off, e, hb, hc⟩ := h.at_ hx
  exact ⟨b, off, e, hb, by simpa using hc 0 _ rfl, hc 1 _ rfl, hc 2 _ rfl, hc 3 _ rfl, hc 4 _ rfl, hc 5 _ rfl, hc 6 _ rfl, hc 7 _ rfl, hc 8 _ rfl, hc 9 _ rfl, hc 10 _ rfl⟩
/-- One comes before another one: by the end, the start, the key. -/
def enlt (a b : En) : Bool := decide (a.e < b.e ∨ (a.e = b.e ∧ (a.s < b.s ∨ (a.s = b.s ∧ a.k < b.k))))
def encmp (a b : En) : Int := orL [cmpI a.e b.e, cmpI a.s b.s, cmpI a.k b.k]
theorem encmp_ge (a b : En) : decide (0 ≤ encmp a b) = !enlt a b := by
  unfold enlt encmp
  rw [Bool.eq_iff_iff]
  simp only [decide_eq_true_eq, Bool.not_eq_true', decide_eq_false_iff_not]
  unfold orL orL orL orL cmpI
  grind
set_option maxHeartbeats 4000000 in
set_option maxRecDepth 100000 in
theorem order17_any (a b : En) (w : World) : Calls Try.prog 131 #[.agg #[.int .i64 a.k, .int .i64 a.s, .int .i64 a.e, .int .i64 a.c1, .int .i64 a.s1, .int .i64 a.m1, .int .i64 a.x1, .int .i64 a.c2, .int .i64 a.s2, .int .i64 a.m2, .int .i64 a.x2], .agg #[.int .i64 b.k, .int .i64 b.s, .int .i64 b.e, .int .i64 b.c1, .int .i64 b.s1, .int .i64 b.m1, .int .i64 b.x1, .int .i64 b.c2, .int .i64 b.s2, .int .i64 b.m2, .int .i64 b.x2]] w fun e w' => e = .returned (.int .i64 (encmp a b)) ∧ Below w.heap.size w w' := by
  have hor := Lib.hid (show orL [cmpI a.e b.e, cmpI a.s b.s, cmpI a.k b.k] = encmp a b from rfl)
  go_enter Try.func131, Try.ntmps131
  go_wp2_with fail
  refine region_still_tail 19 (by kernel_rfl) (by kernel_rfl) ?_
  simp only [List.take_succ_cons, List.take_zero, List.drop_succ_cons, List.drop_zero]
  repeat still_step
  still_call (cmp_still _ _ _)
  repeat still_step
  still_call (cmp_still _ _ _)
  repeat still_step
  still_call (cmp_still _ _ _)
  repeat still_step
  refine wpStill_nil ?_
  go_wp2_with (first
      | (go_at_call 86; refine (or3 (cmpI a.e b.e) (cmpI a.s b.s) (cmpI a.k b.k) _ _ (by simp) (by go_simp) (by go_simp) (by go_simp)).mono ?_; rintro e w1 ⟨rfl, rfl⟩))
  go_ret
  exact ⟨ret_i64 hor.out, (by repeat (first | exact Below.refl _ _ | assumption | (with_reducible exact Env.below (by assumption)) | (with_reducible refine below_new ?_ _) | (with_reducible refine below_drew ?_) | (with_reducible refine below_drewN ?_ _) | (with_reducible refine below_put ?_ ?_ _; rotate_left 1; (dsimp only; omega)) | (refine below_then ?_ (by assumption))))⟩
set_option maxHeartbeats 1000000 in
theorem less17_any (a b : En) (w : World) : Calls Try.prog 76 #[.agg #[.int .i64 a.k, .int .i64 a.s, .int .i64 a.e, .int .i64 a.c1, .int .i64 a.s1, .int .i64 a.m1, .int .i64 a.x1, .int .i64 a.c2, .int .i64 a.s2, .int .i64 a.m2, .int .i64 a.x2], .agg #[.int .i64 b.k, .int .i64 b.s, .int .i64 b.e, .int .i64 b.c1, .int .i64 b.s1, .int .i64 b.m1, .int .i64 b.x1, .int .i64 b.c2, .int .i64 b.s2, .int .i64 b.m2, .int .i64 b.x2]] w fun e w' => e = .returned (.bool (enlt a b)) ∧ Below w.heap.size w w' := by
  go_enter Try.func76, Try.ntmps76
  go_wp2
  all_goals (go_ret; exact ⟨ret_bool (by unfold enlt; grind), (by repeat (first | exact Below.refl _ _ | assumption | (with_reducible exact Env.below (by assumption)) | (with_reducible refine below_new ?_ _) | (with_reducible refine below_drew ?_) | (with_reducible refine below_drewN ?_ _) | (with_reducible refine below_put ?_ ?_ _; rotate_left 1; (dsimp only; omega)) | (refine below_then ?_ (by assumption))))⟩)
/-- An accumulator that is right. -/
def accok (c s m x : Int) : Bool := decide ((c = 0 ∧ s = 0 ∧ m = 0 ∧ x = 0) ∨ (c = 1 ∧ s = m ∧ s = x) ∨ (1 < c ∧ c ≤ 1073741824 ∧ m ≤ x))
def accerr (c s m x : Int) : Int := if accok c s m x = true then 0 else 8
set_option maxHeartbeats 1000000 in
theorem acchk_any (c s m x : Int) (w : World) : Calls Try.prog 144 #[.agg #[.int .i64 c, .int .i64 s, .int .i64 m, .int .i64 x]] w fun e w' => e = .returned (.int .i64 (accerr c s m x)) ∧ Below w.heap.size w w' := by
  go_enter Try.func144, Try.ntmps144
  go_wp2
  all_goals (go_ret; exact ⟨ret_i64 (by unfold accerr accok; grind), (by repeat (first | exact Below.refl _ _ | assumption | (with_reducible exact Env.below (by assumption)) | (with_reducible refine below_new ?_ _) | (with_reducible refine below_drew ?_) | (with_reducible refine below_drewN ?_ _) | (with_reducible refine below_put ?_ ?_ _; rotate_left 1; (dsimp only; omega)) | (refine below_then ?_ (by assumption))))⟩)
set_option maxHeartbeats 1000000 in
theorem racchk_any (c s m x : Int) (w : World) : Calls Try.prog 139 #[.agg #[.int .i64 c, .int .i64 s, .int .i64 m, .int .i64 x]] w fun e w' => e = .returned (.int .i64 (accerr c s m x)) ∧ Below w.heap.size w w' := by
  go_enter Try.func139, Try.ntmps139
  go_wp2
  all_goals (go_ret; exact ⟨ret_i64 (by unfold accerr accok; grind), (by repeat (first | exact Below.refl _ _ | assumption | (with_reducible exact Env.below (by assumption)) | (with_reducible refine below_new ?_ _) | (with_reducible refine below_drew ?_) | (with_reducible refine below_drewN ?_ _) | (with_reducible refine below_put ?_ ?_ _; rotate_left 1; (dsimp only; omega)) | (refine below_then ?_ (by assumption))))⟩)
end Go.Proofs.Ytffehibdeogjeaa

/- An entry of a store checked (chapter 17). No condition. -/
namespace Go.Proofs.Ytffehibdeogjeaa
open Go.RowKit

/-- An entry that is right. -/
def enok (x : En) : Bool := decide (-1100585369600 ≤ x.s ∧ x.s < x.e ∧ x.e ≤ 1100585369600) && (accok x.c1 x.s1 x.m1 x.x1 && (accok x.c2 x.s2 x.m2 x.x2 && decide (0 < x.c1 + x.c2)))
theorem accok_c {c s m x : Int} (h : accok c s m x = true) : 0 ≤ c ∧ c ≤ 1073741824 := by
  unfold accok at h
  have := of_decide_eq_true h
  omega
set_option maxHeartbeats 4000000 in
set_option maxRecDepth 100000 in
theorem enright_any (x : En) (w : World) : Calls Try.prog 130 #[.agg #[.int .i64 x.k, .int .i64 x.s, .int .i64 x.e, .int .i64 x.c1, .int .i64 x.s1, .int .i64 x.m1, .int .i64 x.x1, .int .i64 x.c2, .int .i64 x.s2, .int .i64 x.m2, .int .i64 x.x2]] w fun e w' => e = .returned (.bool (enok x)) ∧ Below w.heap.size w w' := by
  obtain ⟨p1, hp1⟩ : ∃ b, decide (x.s < -1100585369600) = b := ⟨_, rfl⟩
  obtain ⟨p2, hp2⟩ : ∃ b, decide (x.e ≤ x.s) = b := ⟨_, rfl⟩
  obtain ⟨p3, hp3⟩ : ∃ b, decide (1100585369600 < x.e) = b := ⟨_, rfl⟩
  obtain ⟨q1, hq1⟩ : ∃ b, b = accok x.c1 x.s1 x.m1 x.x1 := ⟨_, rfl⟩
  obtain ⟨q2, hq2⟩ : ∃ b, b = accok x.c2 x.s2 x.m2 x.x2 := ⟨_, rfl⟩
  obtain ⟨q3, hq3⟩ : ∃ b, decide (0 < x.c1 + x.c2) = b := ⟨_, rfl⟩
  have hv : enok x = ((!p1 && (!p2 && !p3)) && (q1 && (q2 && q3))) := by
    unfold enok
    rw [← hq1, ← hq2, hq3, ← hp1, ← hp2, ← hp3]
    congr 1
    rw [Bool.eq_iff_iff]
    simp
  rw [hv]
  have h1 := fun W => acchk_any x.c1 x.s1 x.m1 x.x1 W
  have h2 := fun W => acchk_any x.c2 x.s2 x.m2 x.x2 W
  unfold accerr at h1 h2
  rw [← hq1] at h1
  rw [← hq2] at h2
  have H1 := Lib.hid h1; have H2 := Lib.hid h2
  have hL : Loc w [] := trivial
  have hsum : q1 = true → q2 = true → IntKind.i64.wrap (x.c1 + x.c2) = x.c1 + x.c2 := fun a b => by
    rw [a] at hq1
    rw [b] at hq2
    have c1 := accok_c hq1.symm
    have c2 := accok_c hq2.symm
    exact IntWalk.i64_in _ (by omega)
  have HS := Lib.hid hsum
  clear hv h1 h2 hsum hq1 hq2
  rcases p1 with _ | _
  · rcases p2 with _ | _
    · rcases p3 with _ | _
      · rcases q1 with _ | _
        · go_enter Try.func130, Try.ntmps130
          go_wp2_with (go_at_call 144; refine (H1.out _).mono ?_; rintro r w1 ⟨rfl, hb1⟩; replace hL := (by with_reducible first | exact hL.below hb1 | exact (hL.new _ _).below hb1 | exact ((hL.new _ _).new _ _).below hb1 | exact (((hL.new _ _).new _ _).new _ _).below hb1 | exact ((((hL.new _ _).new _ _).new _ _).new _ _).below hb1); (repeat rw [World.size_alloc] at hL); have hF := hL; (repeat unfold Loc at hF))
          go_ret
          exact ⟨rfl, (by repeat (first | with_reducible exact Below.refl _ _ | with_reducible assumption | (with_reducible exact Env.below (by assumption)) | (with_reducible refine below_new ?_ _) | (with_reducible refine below_drew ?_) | (with_reducible refine below_drewN ?_ _) | (with_reducible refine below_put ?_ ?_ _; rotate_left 1; (dsimp only; omega)) | (with_reducible refine below_then ?_ (by assumption))))⟩
        · rcases q2 with _ | _
          · go_enter Try.func130, Try.ntmps130
            go_wp2_with fail
            go_at_call 144
            refine (H1.out _).mono ?_
            rintro r w1 ⟨rfl, hb1⟩
            replace hL := (by with_reducible first | exact hL.below hb1 | exact (hL.new _ _).below hb1 | exact ((hL.new _ _).new _ _).below hb1 | exact (((hL.new _ _).new _ _).new _ _).below hb1 | exact ((((hL.new _ _).new _ _).new _ _).new _ _).below hb1); (repeat rw [World.size_alloc] at hL); have hF := hL; (repeat unfold Loc at hF)
            go_wp2_with fail
            go_at_call 144
            refine (H2.out _).mono ?_
            rintro r w2 ⟨rfl, hb2⟩
            replace hL := (by with_reducible first | exact hL.below hb2 | exact (hL.new _ _).below hb2 | exact ((hL.new _ _).new _ _).below hb2 | exact (((hL.new _ _).new _ _).new _ _).below hb2 | exact ((((hL.new _ _).new _ _).new _ _).new _ _).below hb2); (repeat rw [World.size_alloc] at hL); have hF := hL; (repeat unfold Loc at hF)
            go_wp2
            go_ret
            exact ⟨rfl, (by repeat (first | with_reducible exact Below.refl _ _ | with_reducible assumption | (with_reducible exact Env.below (by assumption)) | (with_reducible refine below_new ?_ _) | (with_reducible refine below_drew ?_) | (with_reducible refine below_drewN ?_ _) | (with_reducible refine below_put ?_ ?_ _; rotate_left 1; (dsimp only; omega)) | (with_reducible refine below_then ?_ (by assumption))))⟩
          · have e1 := HS.out rfl rfl
            go_enter Try.func130, Try.ntmps130
            go_wp2_with fail
            go_at_call 144
            refine (H1.out _).mono ?_
            rintro r w1 ⟨rfl, hb1⟩
            replace hL := (by with_reducible first | exact hL.below hb1 | exact (hL.new _ _).below hb1 | exact ((hL.new _ _).new _ _).below hb1 | exact (((hL.new _ _).new _ _).new _ _).below hb1 | exact ((((hL.new _ _).new _ _).new _ _).new _ _).below hb1); (repeat rw [World.size_alloc] at hL); have hF := hL; (repeat unfold Loc at hF)
            go_wp2_with fail
            go_at_call 144
            refine (H2.out _).mono ?_
            rintro r w2 ⟨rfl, hb2⟩
            replace hL := (by with_reducible first | exact hL.below hb2 | exact (hL.new _ _).below hb2 | exact ((hL.new _ _).new _ _).below hb2 | exact (((hL.new _ _).new _ _).new _ _).below hb2 | exact ((((hL.new _ _).new _ _).new _ _).new _ _).below hb2); (repeat rw [World.size_alloc] at hL); have hF := hL; (repeat unfold Loc at hF)
            go_wp2
            go_ret
            exact ⟨ret_bool (by simp), (by repeat (first | with_reducible exact Below.refl _ _ | with_reducible assumption | (with_reducible exact Env.below (by assumption)) | (with_reducible refine below_new ?_ _) | (with_reducible refine below_drew ?_) | (with_reducible refine below_drewN ?_ _) | (with_reducible refine below_put ?_ ?_ _; rotate_left 1; (dsimp only; omega)) | (with_reducible refine below_then ?_ (by assumption))))⟩
      · go_enter Try.func130, Try.ntmps130
        go_wp2
        go_ret
        exact ⟨rfl, (by repeat (first | with_reducible exact Below.refl _ _ | with_reducible assumption | (with_reducible exact Env.below (by assumption)) | (with_reducible refine below_new ?_ _) | (with_reducible refine below_drew ?_) | (with_reducible refine below_drewN ?_ _) | (with_reducible refine below_put ?_ ?_ _; rotate_left 1; (dsimp only; omega)) | (with_reducible refine below_then ?_ (by assumption))))⟩
    · go_enter Try.func130, Try.ntmps130
      go_wp2
      go_ret
      exact ⟨rfl, (by repeat (first | with_reducible exact Below.refl _ _ | with_reducible assumption | (with_reducible exact Env.below (by assumption)) | (with_reducible refine below_new ?_ _) | (with_reducible refine below_drew ?_) | (with_reducible refine below_drewN ?_ _) | (with_reducible refine below_put ?_ ?_ _; rotate_left 1; (dsimp only; omega)) | (with_reducible refine below_then ?_ (by assumption))))⟩
  · go_enter Try.func130, Try.ntmps130
    go_wp2
    go_ret
    exact ⟨rfl, (by repeat (first | with_reducible exact Below.refl _ _ | with_reducible assumption | (with_reducible exact Env.below (by assumption)) | (with_reducible refine below_new ?_ _) | (with_reducible refine below_drew ?_) | (with_reducible refine below_drewN ?_ _) | (with_reducible refine below_put ?_ ?_ _; rotate_left 1; (dsimp only; omega)) | (with_reducible refine below_then ?_ (by assumption))))⟩
end Go.Proofs.Ytffehibdeogjeaa
