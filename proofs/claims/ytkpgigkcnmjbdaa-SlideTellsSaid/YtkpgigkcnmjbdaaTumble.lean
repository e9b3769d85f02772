/- The contracts of the tumbling windows (chapter 13) and of their reference: what each function returns for every time and size. No condition. -/
import Derived.Test.YtkpgigkcnmjbdaaBase
namespace Go.Proofs.Ytkpgigkcnmjbdaa
open Go.RowKit

def tchk (t size : Int) : Int := if size < 1 ∨ 1073741824 < size then 2 else if t < -1099511627776 ∨ 1099511627776 < t then 16 else 0
def tnum (t size : Int) : Int := if tchk t size = 0 then t / size else 0
def tspan (t size : Int) : Int × Int := if tchk t size = 0 then (t / size * size, t / size * size + size) else (0, 0)

theorem tchk_zero {t size : Int} : tchk t size = 0 ↔ 1 ≤ size ∧ size ≤ 1073741824 ∧ -1099511627776 ≤ t ∧ t ≤ 1099511627776 := by
  unfold tchk; split
  · constructor <;> intro h <;> omega
  · split
    · constructor <;> intro h <;> omega
    · constructor <;> intro h <;> omega

theorem tdiv_floor {t s : Int} (h : 0 < s) (h2 : t.tmod s < 0) : t.tdiv s - 1 = t / s := by
  have := Int.tdiv_eq_ediv (a := t) (b := s)
  have h3 := Int.tmod_eq_emod (a := t) (b := s)
  split at this
  · rename_i hh
    rw [if_pos (by simpa using hh)] at h3
    have := Int.emod_nonneg t (by omega : s ≠ 0); omega
  · rw [Int.sign_eq_one_of_pos h] at this; omega
theorem tdiv_floor' {t s : Int} (h : 0 < s) (h2 : ¬ t.tmod s < 0) : t.tdiv s = t / s := by
  have := Int.tdiv_eq_ediv (a := t) (b := s)
  have h3 := Int.tmod_eq_emod (a := t) (b := s)
  split at this
  · simpa using this
  · rename_i hh
    rw [if_neg (by simpa using hh)] at h3
    have := Int.emod_lt_of_pos t h
    have h5 := Int.natAbs_of_nonneg (by omega : 0 ≤ s)
    omega
theorem tdiv_bound {t s B : Int} (_h : 0 < s) (h1 : -B ≤ t) (h2 : t ≤ B) : -B ≤ t.tdiv s ∧ t.tdiv s ≤ B := by
  have := Int.natAbs_tdiv_le_natAbs t s
  omega
theorem tmod_bound {t s : Int} (h : 0 < s) : -s < t.tmod s ∧ t.tmod s < s := by
  have h3 := Int.tmod_eq_emod (a := t) (b := s)
  have := Int.emod_lt_of_pos t h
  have h6 := Int.emod_nonneg t (by omega : s ≠ 0)
  have h5 := Int.natAbs_of_nonneg (by omega : 0 ≤ s)
  split at h3 <;> omega
/-- Of a valid time and size: the floor and its multiple are bounded. -/
theorem floor_facts {t size : Int} (hb1 : 1 ≤ size) (hb3 : -1099511627776 ≤ t) (hb4 : t ≤ 1099511627776) :
    t / size * size ≤ t ∧ t < t / size * size + size ∧ (t / size + 1) * size = t / size * size + size ∧ -1099511627776 ≤ t / size ∧ t / size ≤ 1099511627776 := by
  have q1 := Int.ediv_mul_le t (by omega : size ≠ 0)
  have q2 := Int.lt_ediv_add_one_mul_self t (by omega : 0 < size)
  have q3 : (t / size + 1) * size = t / size * size + size := by rw [Int.add_mul]; omega
  have a1 : t / size ≤ 1099511627776 := by
    by_cases h7 : t / size ≤ 1099511627776
    · exact h7
    · have := Int.mul_le_mul_of_nonneg_left hb1 (by omega : 0 ≤ t / size); omega
  have a2 : -1099511627776 ≤ t / size := by
    by_cases h7 : -1099511627776 ≤ t / size
    · exact h7
    · have := Int.mul_le_mul_of_nonpos_left (by omega : t / size + 1 ≤ 0) hb1; rw [q3] at this; simp at this; omega
  exact ⟨q1, by omega, q3, a2, a1⟩

/-- What a valid time's window is, in a form without products. -/
theorem span_facts {t size : Int} (h : tchk t size = 0) : ∃ S n : Int, (tspan t size).1 = S ∧ (tspan t size).2 = S + size ∧ tnum t size = n ∧ n = t / size ∧ n * size = S ∧
    S ≤ t ∧ t < S + size ∧ S.tmod size = 0 ∧ S.tdiv size = n ∧ -1099511627776 ≤ n ∧ n ≤ 1099511627776 := by
  obtain ⟨a1, a2, a3, a4⟩ := tchk_zero.1 h
  obtain ⟨q1, q2, q3, q4, q5⟩ := floor_facts a1 a3 a4
  exact ⟨_, _, by simp [tspan, h], by simp [tspan, h], by simp [tnum, h], rfl, rfl, q1, q2, Int.mul_tmod_left _ _, Int.mul_tdiv_cancel _ (by omega), q4, q5⟩

set_option maxHeartbeats 400000 in
theorem check_any (t size : Int) (w : World) :
    Calls Try.prog 47 #[.int .i64 t, .int .i64 size] w fun e w' => e = .returned (.int .i64 (tchk t size)) ∧ w = w' := by
  go_enter Try.func47, Try.ntmps47
  go_wp2
  all_goals (go_ret; exact ⟨ret_i64 (by unfold tchk; (repeat' split) <;> omega), rfl⟩)

set_option maxHeartbeats 400000 in
theorem number_any (t size : Int) (w : World) :
    Calls Try.prog 23 #[.int .i64 t, .int .i64 size] w fun e w' => e = .returned (.tuple #[.int .i64 (tnum t size), .int .i64 (tchk t size)]) ∧ w = w' := by
  by_cases h : tchk t size = 0
  · obtain ⟨hb1, hb2, hb3, hb4⟩ := tchk_zero.1 h
    have h' : (tchk t size != 0) = false := by simp [h]
    have h0 := Lib.hid h; clear h
    obtain ⟨hd1, hd2⟩ := tdiv_bound (by omega : 0 < size) hb3 hb4
    obtain ⟨hm1, hm2⟩ := tmod_bound (t := t) (by omega : 0 < size)
    go_enter Try.func23, Try.ntmps23
    go_wp2_with (go_at_call 47; refine (check_any _ _ _).mono ?_; rintro e w' ⟨rfl, rfl⟩)
    all_goals go_ret2
    · have hlt : t.tmod size < 0 := by assumption
      exact ⟨ret2_i64 (by unfold tnum; rw [if_pos h0.out, ← tdiv_floor (by omega) hlt]) h0.out.symm, rfl⟩
    · have hlt : ¬ t.tmod size < 0 := by omega
      exact ⟨ret2_i64 (by unfold tnum; rw [if_pos h0.out, ← tdiv_floor' (by omega) hlt]) h0.out.symm, rfl⟩
  · have h' : (tchk t size != 0) = true := by simp [h]
    have h0 := Lib.hid h; clear h
    go_enter Try.func23, Try.ntmps23
    go_wp2_with (go_at_call 47; refine (check_any _ _ _).mono ?_; rintro e w' ⟨rfl, rfl⟩)
    go_ret2
    exact ⟨ret2_i64 (by unfold tnum; rw [if_neg h0.out]) rfl, rfl⟩

set_option maxHeartbeats 400000 in
theorem of_any (t size : Int) (w : World) :
    Calls Try.prog 21 #[.int .i64 t, .int .i64 size] w fun e w' => e = .returned (.tuple #[.agg #[.int .i64 (tspan t size).1, .int .i64 (tspan t size).2], .int .i64 (tchk t size)]) ∧ Below w.heap.size w w' := by
  by_cases h : tchk t size = 0
  · obtain ⟨hb1, hb2, hb3, hb4⟩ := tchk_zero.1 h
    have h' : (tchk t size != 0) = false := by simp [h]
    have h0 := Lib.hid h; clear h
    go_enter Try.func21, Try.ntmps21
    go_wp2_with (go_at_call 23; refine (number_any _ _ _).mono ?_; rintro e w' ⟨rfl, rfl⟩)
    have ht : tnum t size = t / size := by unfold tnum; rw [if_pos h0.out]
    obtain ⟨q1, q2, q3, a2, a1⟩ := floor_facts hb1 hb3 hb4
    have r1 : wrap64 (tnum t size * size) = t / size * size := by rw [ht]; exact IntWalk.wrap64_in _ ⟨by omega, by omega⟩
    have r2 : wrap64 (tnum t size + 1) = t / size + 1 := by rw [ht]; exact IntWalk.wrap64_in _ ⟨by omega, by omega⟩
    have r3 : wrap64 (wrap64 (tnum t size + 1) * size) = t / size * size + size := by rw [r2, q3]; exact IntWalk.wrap64_in _ ⟨by omega, by omega⟩
    refine bodyPost_ret (v := .tuple #[.agg #[.int .i64 (wrap64 (tnum t size * size)), .int .i64 (wrap64 (wrap64 (tnum t size + 1) * size))], .int .i64 0]) (by simp [results, Try.results21, go_sem]) rfl ⟨?_, ?_⟩
    · rw [r1, r3]; simp [tspan, h0.out]
    · exact (Below.refl _ _).alloc (Nat.le_refl _) _
  · have h' : (tchk t size != 0) = true := by simp [h]
    have h0 := Lib.hid h; clear h
    go_enter Try.func21, Try.ntmps21
    go_wp2_with (go_at_call 23; refine (number_any _ _ _).mono ?_; rintro e w' ⟨rfl, rfl⟩)
    refine bodyPost_ret (v := .tuple #[.agg #[.int .i64 0, .int .i64 0], .int .i64 (tchk t size)]) (by simp [results, Try.results21, go_sem]) rfl ⟨?_, ?_⟩
    · simp [tspan, h0.out]
    · exact (Below.refl _ _).alloc (Nat.le_refl _) _

/-! ### the reference -/
set_option maxHeartbeats 400000 in
theorem rcheck_any (t size : Int) (w : World) :
    Calls Try.prog 26 #[.int .i64 t, .int .i64 size] w fun e w' => e = .returned (.int .i64 (tchk t size)) ∧ w = w' := by
  go_enter Try.func26, Try.ntmps26
  go_wp2
  all_goals (go_ret; exact ⟨ret_i64 (by unfold tchk; (repeat' split) <;> omega), rfl⟩)

theorem moved_floor {t size : Int} (hb1 : 1 ≤ size) (hb3 : -1099511627776 ≤ t) :
    0 ≤ t + (1099511627776 / size + 1) * size ∧ (t + (1099511627776 / size + 1) * size) / size - (1099511627776 / size + 1) = t / size := by
  have h1 := Int.lt_ediv_add_one_mul_self (1099511627776 : Int) (by omega : 0 < size)
  refine ⟨by omega, ?_⟩
  rw [Int.add_mul_ediv_right _ _ (by omega)]; omega

set_option maxHeartbeats 400000 in
theorem at_any (t size : Int) (w : World) (hb1 : 1 ≤ size) (hb2 : size ≤ 1073741824) (hb3 : -1099511627776 ≤ t) (hb4 : t ≤ 1099511627776) :
    Calls Try.prog 46 #[.int .i64 t, .int .i64 size] w fun e w' => e = .returned (.int .i64 (t / size)) ∧ w = w' := by
  obtain ⟨m1, m2⟩ := moved_floor (t := t) hb1 hb3
  obtain ⟨q1, q2, q3, a2, a1⟩ := floor_facts (t := 1099511627776) hb1 (by omega) (by omega)
  have hnn : 0 ≤ 1099511627776 / size := Int.ediv_nonneg (by omega) (by omega)
  obtain ⟨_, _, _, b2, b1⟩ := floor_facts (t := t) hb1 hb3 hb4
  have q4 : (1099511627776 / size + 1) * size ≤ 1099511627776 + size := by omega
  have q5 : 0 ≤ (1099511627776 / size + 1) * size := by omega
  have m2' := Lib.hid m2; clear m2 q3
  have hlo : t / size ≤ (t + (1099511627776 / size + 1) * size) / size := by have := m2'.out; omega
  have hlo2 : (t + (1099511627776 / size + 1) * size) / size ≤ t / size + 1099511627777 := by have := m2'.out; omega
  go_enter Try.func46, Try.ntmps46
  go_wp2
  go_ret
  exact ⟨ret_i64 (by exact m2'.out), rfl⟩

set_option maxHeartbeats 400000 in
theorem rnumber_any (t size : Int) (w : World) :
    Calls Try.prog 24 #[.int .i64 t, .int .i64 size] w fun e w' => e = .returned (.tuple #[.int .i64 (tnum t size), .int .i64 (tchk t size)]) ∧ w = w' := by
  by_cases h : tchk t size = 0
  · obtain ⟨hb1, hb2, hb3, hb4⟩ := tchk_zero.1 h
    have h' : (tchk t size != 0) = false := by simp [h]
    have h0 := Lib.hid h; clear h
    go_enter Try.func24, Try.ntmps24
    go_wp2_with (first | (go_at_call 26; refine (rcheck_any _ _ _).mono ?_; rintro e w' ⟨rfl, rfl⟩) | (go_at_call 46; refine (at_any _ _ _ hb1 hb2 hb3 hb4).mono ?_; rintro e w' ⟨rfl, rfl⟩))
    all_goals go_ret2
    exact ⟨ret2_i64 (by unfold tnum; rw [if_pos h0.out]) h0.out.symm, rfl⟩
  · have h' : (tchk t size != 0) = true := by simp [h]
    have h0 := Lib.hid h; clear h
    go_enter Try.func24, Try.ntmps24
    go_wp2_with (go_at_call 26; refine (rcheck_any _ _ _).mono ?_; rintro e w' ⟨rfl, rfl⟩)
    go_ret2
    exact ⟨ret2_i64 (by unfold tnum; rw [if_neg h0.out]) rfl, rfl⟩

set_option maxHeartbeats 400000 in
theorem rof_any (t size : Int) (w : World) :
    Calls Try.prog 22 #[.int .i64 t, .int .i64 size] w fun e w' => e = .returned (.tuple #[.agg #[.int .i64 (tspan t size).1, .int .i64 (tspan t size).2], .int .i64 (tchk t size)]) ∧ Below w.heap.size w w' := by
  by_cases h : tchk t size = 0
  · obtain ⟨hb1, hb2, hb3, hb4⟩ := tchk_zero.1 h
    have h' : (tchk t size != 0) = false := by simp [h]
    have h0 := Lib.hid h; clear h
    go_enter Try.func22, Try.ntmps22
    go_wp2_with (first | (go_at_call 26; refine (rcheck_any _ _ _).mono ?_; rintro e w' ⟨rfl, rfl⟩) | (go_at_call 46; refine (at_any _ _ _ hb1 hb2 hb3 hb4).mono ?_; rintro e w' ⟨rfl, rfl⟩))
    obtain ⟨q1, q2, q3, a2, a1⟩ := floor_facts hb1 hb3 hb4
    have r1 : wrap64 (t / size * size) = t / size * size := IntWalk.wrap64_in _ ⟨by omega, by omega⟩
    have r3 : wrap64 (wrap64 (t / size * size) + size) = t / size * size + size := by rw [r1]; exact IntWalk.wrap64_in _ ⟨by omega, by omega⟩
    refine bodyPost_ret (v := .tuple #[.agg #[.int .i64 (wrap64 (t / size * size)), .int .i64 (wrap64 (wrap64 (t / size * size) + size))], .int .i64 0]) (by simp [results, Try.results22, go_sem]) rfl ⟨?_, ?_⟩
    · rw [r3, r1]; simp [tspan, h0.out]
    · exact (Below.refl _ _).alloc (Nat.le_refl _) _
  · have h' : (tchk t size != 0) = true := by simp [h]
    have h0 := Lib.hid h; clear h
    go_enter Try.func22, Try.ntmps22
    go_wp2_with (go_at_call 26; refine (rcheck_any _ _ _).mono ?_; rintro e w' ⟨rfl, rfl⟩)
    refine bodyPost_ret (v := .tuple #[.agg #[.int .i64 0, .int .i64 0], .int .i64 (tchk t size)]) (by simp [results, Try.results22, go_sem]) rfl ⟨?_, ?_⟩
    · simp [tspan, h0.out]
    · exact (Below.refl _ _).alloc (Nat.le_refl _) _
end Go.Proofs.Ytkpgigkcnmjbdaa
