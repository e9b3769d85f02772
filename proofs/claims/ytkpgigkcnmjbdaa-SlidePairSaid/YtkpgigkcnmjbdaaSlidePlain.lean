/- Sliding windows as plain lists: how many a time has, and that the reference's list is the list from the last one on, turned. No condition but right sizes. -/
import Derived.Test.YtkpgigkcnmjbdaaSlideRef2
namespace Go.Proofs.Ytkpgigkcnmjbdaa

def scount (t size every : Int) : Nat := ((size - 1 - (t - t / every * every)) / every + 1).toNat
/-- The first k windows from the last one on. -/
def sback (t size every : Int) (k : Nat) : List (Int × Int) := (List.range k).map fun (j : Nat) => (t / every * every - (j : Int) * every, t / every * every - (j : Int) * every + size)
theorem sback_succ (t size every : Int) (k : Nat) : sback t size every (k + 1) = sback t size every k ++ [(t / every * every - (k : Int) * every, t / every * every - (k : Int) * every + size)] := by
  simp [sback, List.range_succ]
theorem sback_len (t size every : Int) (k : Nat) : (sback t size every k).length = k := by simp [sback]

theorem scount_facts {t size every : Int} (hr : sright size every) : 1 ≤ scount t size every ∧ scount t size every ≤ 16 ∧
    (∀ k : Nat, k < scount t size every → t < t / every * every - (k : Int) * every + size) ∧ t / every * every - (scount t size every : Int) * every + size ≤ t := by
  obtain ⟨s1, s2, s3, s4, s5⟩ := hr
  have q1 := Int.ediv_mul_le t (by omega : every ≠ 0)
  have q2 := Int.lt_ediv_add_one_mul_self t (by omega : 0 < every)
  rw [Int.add_mul, Int.one_mul] at q2
  obtain ⟨S, hS⟩ : ∃ S, S = t / every * every := ⟨_, rfl⟩
  unfold scount
  rw [← hS] at q1 q2 ⊢
  have p1 := Int.ediv_mul_le (size - 1 - (t - S)) (by omega : every ≠ 0)
  have p2 := Int.lt_ediv_add_one_mul_self (size - 1 - (t - S)) (by omega : 0 < every)
  have p3 : 0 ≤ (size - 1 - (t - S)) / every := Int.ediv_nonneg (by omega) (by omega)
  have p4 : (size - 1 - (t - S)) / every < 16 := Int.ediv_lt_of_lt_mul (by omega) (by omega)
  obtain ⟨q, hq⟩ : ∃ q, q = (size - 1 - (t - S)) / every := ⟨_, rfl⟩
  rw [← hq] at p1 p2 p3 p4 ⊢
  refine ⟨by omega, by omega, fun k hk => ?_, ?_⟩
  · have : (k : Int) * every ≤ q * every := Int.mul_le_mul_of_nonneg_right (by omega) (by omega)
    omega
  · have : ((q + 1).toNat : Int) = q + 1 := Int.toNat_of_nonneg (by omega)
    rw [this]
    omega

theorem sback_reverse_get (t size every : Int) (K : Nat) : (sback t size every K).reverse = (List.range K).map fun (j : Nat) => ((t / every - K + 1 + j) * every, (t / every - K + 1 + j) * every + size) := by
  apply List.ext_getElem
  · simp [sback]
  · intro i h1 h2
    simp [sback] at h1
    have e : ((K - 1 - i : Nat) : Int) = (K : Int) - 1 - i := by omega
    have e2 : t / every * every - ((K : Int) - 1 - i) * every = (t / every - K + 1 + i) * every := by
      rw [← Int.sub_mul]; congr 1; omega
    simp [sback, List.getElem_reverse, e, e2]

theorem swins_eq {t size every : Int} (hr : sright size every) : swins t size every = (sback t size every (scount t size every)).reverse := by
  obtain ⟨k1, k2, k3, k4⟩ := scount_facts (t := t) hr
  obtain ⟨s1, s2, s3, s4, s5⟩ := hr
  have q1 := Int.ediv_mul_le t (by omega : every ≠ 0)
  have q2 := Int.lt_ediv_add_one_mul_self t (by omega : 0 < every)
  obtain ⟨K, hK⟩ : ∃ K, K = scount t size every := ⟨_, rfl⟩
  rw [sback_reverse_get]
  unfold swins
  rw [← hK] at k1 k2 k3 k4 ⊢
  obtain ⟨n, hn⟩ : ∃ n, n = t / every := ⟨_, rfl⟩
  rw [← hn] at q1 q2 k3 k4 ⊢
  have hA : ∀ k : Nat, k ≤ 17 - K → swk t size every n k = [] := by
    intro k
    induction k with
    | zero => intro _; rfl
    | succ k ih =>
      intro hk
      rw [swk_succ, ih (by omega), if_neg]
      have : (n - 16 + (k : Int)) * every ≤ (n - K) * every := Int.mul_le_mul_of_nonneg_right (by omega) (by omega)
      rw [Int.sub_mul] at this
      simp only [swin, decide_eq_true_eq, not_and]
      intro _
      omega
  have hB : ∀ j : Nat, j ≤ K → swk t size every n (17 - K + j) = (List.range j).map fun (j : Nat) => ((n - K + 1 + j) * every, (n - K + 1 + j) * every + size) := by
    intro j
    induction j with
    | zero => intro _; exact hA _ (Nat.le_refl _)
    | succ j ih =>
      intro hj
      have e : n - 16 + ((17 - K + j : Nat) : Int) = n - K + 1 + j := by omega
      have b1 : (n - K + 1 + (j : Int)) * every ≤ n * every := Int.mul_le_mul_of_nonneg_right (by omega) (by omega)
      have b2 := k3 (K - 1 - j) (by omega)
      have e2 : n * every - ((K - 1 - j : Nat) : Int) * every = (n - K + 1 + j) * every := by
        rw [← Int.sub_mul]; congr 1; omega
      rw [e2] at b2
      rw [← Nat.add_assoc, swk_succ, ih (by omega), e, if_pos (by simp only [swin, decide_eq_true_eq]; omega), List.range_succ, List.map_append]
      rfl
  have hC : swk t size every n 18 = swk t size every n 17 := by
    rw [swk_succ, if_neg]
    have e : n - 16 + ((17 : Nat) : Int) = n + 1 := by omega
    rw [e]
    simp only [swin, decide_eq_true_eq, not_and]
    omega
  rw [hC, ← hB K (Nat.le_refl _)]
  congr 1
  omega
end Go.Proofs.Ytkpgigkcnmjbdaa
