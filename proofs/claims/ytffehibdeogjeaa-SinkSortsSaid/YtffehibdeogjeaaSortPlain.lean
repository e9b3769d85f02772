/- Sorting by sinking each element from the end, as plain lists over a strict total order: what is sorted, that it is the only such list; popping a heap gives the elements in order. No condition. -/
import Derived.Test.YtffehibdeogjeaaHeapPlain
namespace Go.Proofs.Ytffehibdeogjeaa
section
variable {α : Type} {lt : α → α → Bool}
/-- Sorted. -/
def Srt (lt : α → α → Bool) (l : List α) : Prop := l.Pairwise fun a b => lt b a = false
theorem srt_get {d : α} {l : List α} : Srt lt l ↔ ∀ i j, i < j → j < l.length → lt (l.getD j d) (l.getD i d) = false := by
  unfold Srt
  rw [List.pairwise_iff_getElem]
  constructor
  · intro h i j hij hj
    have := h i j (by omega) hj hij
    simpa [List.getD_eq_getElem?_getD, List.getElem?_eq_getElem hj, List.getElem?_eq_getElem (show i < l.length by omega)] using this
  · intro h i j hi hj hij
    have := h i j hij hj
    simpa [List.getD_eq_getElem?_getD, List.getElem?_eq_getElem hj, List.getElem?_eq_getElem hi] using this
/-- There is one sorted list of some elements. -/
theorem srt_unique (h : STO lt) : ∀ {l m : List α}, l.Perm m → Srt lt l → Srt lt m → l = m
  | [], m, hp, _, _ => (List.Perm.nil_eq hp)
  | a :: l, m, hp, hl, hm => by
    match m, hp, hm with
    | [], hp, _ => exact absurd hp.length_eq (by simp)
    | b :: m, hp, hm =>
      have ha : a ∈ b :: m := hp.mem_iff.1 (by simp)
      have hb : b ∈ a :: l := hp.mem_iff.2 (by simp)
      have e : a = b := by
        rcases List.mem_cons.1 ha with e | ha
        · exact e
        · rcases List.mem_cons.1 hb with e | hb
          · exact e.symm
          · exact h.tri _ _ ((List.pairwise_cons.1 hm).1 a ha) ((List.pairwise_cons.1 hl).1 b hb)
      subst e
      rw [srt_unique h (List.Perm.cons_inv hp) (List.pairwise_cons.1 hl).2 (List.pairwise_cons.1 hm).2]

/-- The element number k sinks to its place. -/
def bub (lt : α → α → Bool) (d : α) : Nat → List α → List α
  | 0, l => l
  | k + 1, l => if lt (l.getD (k + 1) d) (l.getD k d) = true then bub lt d k (sw d l (k + 1) k) else l
theorem bub_length (lt : α → α → Bool) (d : α) : ∀ (k : Nat) (l : List α), (bub lt d k l).length = l.length
  | 0, _ => rfl
  | k + 1, l => by unfold bub; split; rw [bub_length lt d k, sw_length]; rfl
theorem bub_perm (lt : α → α → Bool) (d : α) : ∀ (k : Nat) (l : List α), k < l.length → (bub lt d k l).Perm l
  | 0, _, _ => List.Perm.refl _
  | k + 1, l, hk => by
    unfold bub
    split
    · exact (bub_perm lt d k _ (by rw [sw_length]; omega)).trans (sw_perm d l _ _ hk (by omega))
    · exact List.Perm.refl _
theorem bub_srt (h : STO lt) (d : α) : ∀ (k : Nat) (l : List α), k < l.length →
    (∀ i j, i < j → j < l.length → i ≠ k → j ≠ k → lt (l.getD j d) (l.getD i d) = false) → (∀ j, k < j → j < l.length → lt (l.getD j d) (l.getD k d) = false) → Srt lt (bub lt d k l)
  | 0, l, hk, h1, h2 => by
    rw [show bub lt d 0 l = l from rfl, srt_get (d := d)]
    intro i j hij hj
    by_cases hi : i = 0
    · subst hi; exact h2 j hij hj
    · exact h1 i j hij hj hi (by omega)
  | k + 1, l, hk, h1, h2 => by
    unfold bub
    split
    · rename_i hlt
      refine bub_srt h d k _ (by rw [sw_length]; omega) (fun i j hij hj hik hjk => ?_) (fun j hkj hj => ?_)
      · rw [sw_length] at hj
        rw [sw_get d l (k + 1) k j hk (by omega), sw_get d l (k + 1) k i hk (by omega), if_neg hjk, if_neg hik]
        by_cases hj1 : j = k + 1
        · rw [if_pos hj1, if_neg (by omega)]
          exact h1 i k (by omega) (by omega) (by omega) (by omega)
        · rw [if_neg hj1]
          by_cases hi1 : i = k + 1
          · rw [if_pos hi1]
            exact h1 k j (by omega) hj (by omega) hj1
          · rw [if_neg hi1]
            exact h1 i j hij hj hi1 hj1
      · rw [sw_length] at hj
        rw [sw_get d l (k + 1) k j hk (by omega), sw_get d l (k + 1) k k hk (by omega), if_neg (by omega), if_pos rfl]
        by_cases hj1 : j = k + 1
        · rw [if_pos hj1]
          exact h.asym hlt
        · rw [if_neg hj1]
          exact h2 j (by omega) hj
    · rename_i hlt
      have hlt' : lt (l.getD (k + 1) d) (l.getD k d) = false := by
        cases hx : lt (l.getD (k + 1) d) (l.getD k d) with
        | false => rfl
        | true => exact absurd hx hlt
      rw [srt_get (d := d)]
      intro i j hij hj
      by_cases hj1 : j = k + 1
      · subst hj1
        by_cases hi : i = k
        · subst hi; exact hlt'
        · exact h.le hlt' (h1 i k (by omega) (by omega) (by omega) (by omega))
      · by_cases hi1 : i = k + 1
        · subst hi1; exact h2 j hij hj
        · exact h1 i j hij hj hi1 hj1

/-- All of them, one after the other. -/
def sortL (lt : α → α → Bool) (d : α) (xs : List α) : List α := xs.foldl (fun acc x => bub lt d acc.length (acc ++ [x])) []
theorem sortL_snoc (lt : α → α → Bool) (d : α) (xs : List α) (x : α) : sortL lt d (xs ++ [x]) = bub lt d (sortL lt d xs).length (sortL lt d xs ++ [x]) := by simp [sortL]
theorem sortL_facts (h : STO lt) (d : α) (xs : List α) : (sortL lt d xs).Perm xs ∧ Srt lt (sortL lt d xs) := by
  suffices H : ∀ ys acc : List α, Srt lt acc → (ys.foldl (fun acc x => bub lt d acc.length (acc ++ [x])) acc).Perm (acc ++ ys) ∧ Srt lt (ys.foldl (fun acc x => bub lt d acc.length (acc ++ [x])) acc) by
    have := H xs [] List.Pairwise.nil
    simpa [sortL] using this
  intro ys
  induction ys with
  | nil => intro acc ha; simpa using ha
  | cons y ys ih =>
    intro acc ha
    have hb : Srt lt (bub lt d acc.length (acc ++ [y])) := by
      refine bub_srt h d _ _ (by simp) (fun i j hij hj hi hj1 => ?_) (fun j h1 h2 => by simp at h2; omega)
      have hj' : j < acc.length := by simp at hj; omega
      have := (srt_get (d := d)).1 ha i j hij hj'
      simp only [List.getD_eq_getElem?_getD] at this ⊢
      rw [List.getElem?_append_left hj', List.getElem?_append_left (by omega)]
      exact this
    obtain ⟨h1, h2⟩ := ih _ hb
    rw [List.foldl_cons]
    refine ⟨h1.trans ?_, h2⟩
    have := (bub_perm lt d acc.length (acc ++ [y]) (by simp)).append_right ys
    simpa using this
theorem sortL_perm (h : STO lt) (d : α) (xs : List α) : (sortL lt d xs).Perm xs := (sortL_facts h d xs).1
theorem sortL_srt (h : STO lt) (d : α) (xs : List α) : Srt lt (sortL lt d xs) := (sortL_facts h d xs).2
theorem sortL_length (h : STO lt) (d : α) (xs : List α) : (sortL lt d xs).length = xs.length := (sortL_perm h d xs).length_eq
theorem sortL_eq (h : STO lt) (d : α) {xs ys : List α} (hp : xs.Perm ys) (hs : Srt lt ys) : sortL lt d xs = ys := srt_unique h ((sortL_perm h d xs).trans hp) (sortL_srt h d xs) hs
theorem sortL_congr (h : STO lt) (d : α) {xs ys : List α} (hp : xs.Perm ys) : sortL lt d xs = sortL lt d ys := sortL_eq h d (hp.trans (sortL_perm h d ys).symm) (sortL_srt h d ys)

/-- The first of a heap is the first of the sorted list of the same elements. -/
theorem heap_head (h : STO lt) {d : α} {l : List α} {x : α} {m : List α} (hh : IsHeap lt d l) (hp : l.Perm (x :: m)) (hs : Srt lt (x :: m)) : l ≠ [] ∧ l.getD 0 d = x ∧ (popL lt d l).Perm m := by
  have hl : l ≠ [] := by rintro rfl; exact absurd hp.length_eq (by simp)
  have hlen : 0 < l.length := List.length_pos_iff.2 hl
  have h0 : l.getD 0 d ∈ l := by simp [List.getD_eq_getElem?_getD, List.getElem?_eq_getElem hlen]
  have e : l.getD 0 d = x := by
    rcases List.mem_cons.1 (hp.mem_iff.1 h0) with e | hm
    · exact e
    · obtain ⟨k, hk, hx⟩ := List.getElem_of_mem (hp.mem_iff.2 (by simp : x ∈ x :: m))
      have h1 := heap_first h hh k hk
      rw [show l.getD k d = x by simp [List.getD_eq_getElem?_getD, List.getElem?_eq_getElem hk, hx]] at h1
      exact (h.tri _ _ h1 ((List.pairwise_cons.1 hs).1 _ hm)).symm
  refine ⟨hl, e, ?_⟩
  have := (popL_perm lt d l hl).trans hp
  rw [e] at this
  exact this.cons_inv

/-- Popping while the first one fits. -/
def untilL (lt : α → α → Bool) (d : α) (p : α → Bool) : Nat → List α → List α × List α
  | 0, l => ([], l)
  | n + 1, l => if l ≠ [] ∧ p (l.getD 0 d) = true then ((l.getD 0 d) :: (untilL lt d p n (popL lt d l)).1, (untilL lt d p n (popL lt d l)).2) else ([], l)
theorem untilL_facts (h : STO lt) (d : α) (p : α → Bool) : ∀ (n : Nat) (l : List α), l.length ≤ n → IsHeap lt d l →
    IsHeap lt d (untilL lt d p n l).2 ∧ (untilL lt d p n l).1 ++ sortL lt d (untilL lt d p n l).2 = sortL lt d l ∧ (∀ x ∈ (untilL lt d p n l).1, p x = true) ∧ ((untilL lt d p n l).2 = [] ∨ p ((untilL lt d p n l).2.getD 0 d) = false) ∧
    (untilL lt d p n l).1.length + (untilL lt d p n l).2.length = l.length
  | 0, l, hn, hh => by
    have : l = [] := List.eq_nil_of_length_eq_zero (by omega)
    subst this
    simp [untilL, hh]
  | n + 1, l, hn, hh => by
    unfold untilL
    split
    · rename_i hc
      have hlen : 0 < l.length := List.length_pos_iff.2 hc.1
      obtain ⟨i1, i2, i3, i4, i5⟩ := untilL_facts h d p n (popL lt d l) (by rw [popL_length]; omega) (popL_heap h d l hh)
      refine ⟨i1, ?_, ?_, i4, ?_⟩
      · rw [List.cons_append, i2]
        refine (sortL_eq h d ((popL_perm lt d l hc.1).symm.trans ((sortL_perm h d _).symm.cons _)) (List.pairwise_cons.2 ⟨fun x hx => ?_, sortL_srt h d _⟩)).symm
        have hx' : x ∈ l := (popL_perm lt d l hc.1).mem_iff.1 (List.mem_cons_of_mem _ ((sortL_perm h d _).mem_iff.1 hx))
        obtain ⟨k, hk, rfl⟩ := List.getElem_of_mem hx'
        have := heap_first h hh k hk
        simpa [List.getD_eq_getElem?_getD, List.getElem?_eq_getElem hk] using this
      · intro x hx
        rcases List.mem_cons.1 hx with rfl | hx
        · exact hc.2
        · exact i3 x hx
      · rw [popL_length] at i5
        simp only [List.length_cons]
        omega
    · rename_i hc
      refine ⟨hh, by simp, by simp, ?_, by simp⟩
      by_cases hl : l = []
      · exact .inl hl
      · right
        cases hx : p (l.getD 0 d) with
        | false => rfl
        | true => exact absurd ⟨hl, hx⟩ hc
end
end Go.Proofs.Ytffehibdeogjeaa
