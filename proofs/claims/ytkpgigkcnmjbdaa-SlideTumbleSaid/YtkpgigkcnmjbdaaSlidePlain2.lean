/- Sliding windows as plain lists, second part: where each begins. No condition but right sizes. -/
import Derived.Test.YtkpgigkcnmjbdaaSlidePlain
namespace Go.Proofs.Ytkpgigkcnmjbdaa

/-- Where the window number k begins. -/
def sx (t size every : Int) (k : Nat) : Int := (t / every - scount t size every + 1 + k) * every
theorem swins_len {t size every : Int} (hr : sright size every) : (swins t size every).length = scount t size every := by
  rw [swins_eq hr]; simp [sback_len]
theorem swins_get {t size every : Int} (hr : sright size every) {k : Nat} (hk : k < scount t size every) : (swins t size every)[k]? = some (sx t size every k, sx t size every k + size) := by
  rw [swins_eq hr, sback_reverse_get, List.getElem?_map, List.getElem?_range hk]
  rfl
theorem sx_succ (t size every : Int) (k : Nat) : sx t size every (k + 1) = sx t size every k + every := by
  unfold sx
  rw [show t / every - (scount t size every : Int) + 1 + ((k + 1 : Nat) : Int) = (t / every - (scount t size every : Int) + 1 + k) + 1 from by omega, Int.add_mul, Int.one_mul]
theorem sx_mod (t size every : Int) (k : Nat) : (sx t size every k).tmod every = 0 := Int.mul_tmod_left _ _
theorem sx_last (t size every : Int) (k : Nat) (hk : k + 1 = scount t size every) : sx t size every k = t / every * every := by
  unfold sx; rw [← hk]; congr 1; omega
theorem sx_back (t size every : Int) (k : Nat) (hk : k < scount t size every) : sx t size every k = t / every * every - ((scount t size every - 1 - k : Nat) : Int) * every := by
  unfold sx
  rw [← Int.sub_mul]; congr 1; omega
theorem sx_facts {t size every : Int} (hr : sright size every) {k : Nat} (hk : k < scount t size every) : sx t size every k ≤ t ∧ t < sx t size every k + size ∧ t - 1073741824 ≤ sx t size every k := by
  have h2 := (scount_facts (t := t) hr).2.2.1 (scount t size every - 1 - k) (by omega)
  rw [← sx_back t size every k hk] at h2
  have h3 := Int.ediv_mul_le t (by have := hr.2.1; omega : every ≠ 0)
  have h4 : (t / every - (scount t size every : Int) + 1 + k) * every ≤ t / every * every := Int.mul_le_mul_of_nonneg_right (by omega) (by have := hr.2.1; omega)
  have h5 : sx t size every k ≤ t := by unfold sx; omega
  have := hr.2.2.1
  exact ⟨h5, h2, by omega⟩
theorem sx_zero {t size every : Int} (hr : sright size every) : sx t size every 0 - every + size ≤ t := by
  obtain ⟨k1, k2, k3, k4⟩ := scount_facts (t := t) hr
  have e : sx t size every 0 - every = t / every * every - (scount t size every : Int) * every := by
    unfold sx
    have : (t / every - (scount t size every : Int) + 1 + ((0 : Nat) : Int)) * every = (t / every - (scount t size every : Int)) * every + every := by
      rw [show t / every - (scount t size every : Int) + 1 + ((0 : Nat) : Int) = (t / every - (scount t size every : Int)) + 1 from by omega, Int.add_mul, Int.one_mul]
    rw [this, Int.sub_mul]; omega
  omega
/-- As many as told. -/
theorem scount_told {t size every : Int} (hr : sright size every) : size / every ≤ scount t size every ∧ (scount t size every : Int) ≤ (size + every - 1) / every := by
  obtain ⟨s1, s2, s3, s4, s5⟩ := hr
  have q1 := Int.ediv_mul_le t (by omega : every ≠ 0)
  have q2 := Int.lt_ediv_add_one_mul_self t (by omega : 0 < every)
  rw [Int.add_mul, Int.one_mul] at q2
  unfold scount
  have p3 : 0 ≤ (size - 1 - (t - t / every * every)) / every := Int.ediv_nonneg (by omega) (by omega)
  rw [Int.toNat_of_nonneg (by omega)]
  have a1 : size / every - 1 = (size - every) / every := by
    have := Int.add_mul_ediv_right size (-1) (by omega : every ≠ 0)
    rw [show size + -1 * every = size - every from by omega] at this
    omega
  have a2 : (size + every - 1) / every - 1 = (size - 1) / every := by
    have := Int.add_mul_ediv_right (size - 1) 1 (by omega : every ≠ 0)
    rw [show size - 1 + 1 * every = size + every - 1 from by omega] at this
    omega
  have b1 : (size - every) / every ≤ (size - 1 - (t - t / every * every)) / every := Int.ediv_le_ediv (by omega) (by omega)
  have b2 : (size - 1 - (t - t / every * every)) / every ≤ (size - 1) / every := Int.ediv_le_ediv (by omega) (by omega)
  omega
end Go.Proofs.Ytkpgigkcnmjbdaa
