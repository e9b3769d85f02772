/- The six laws of chapter 13 (tumbling windows) return true at every input. No condition. -/
import Derived.Test.YtkpgigkcnmjbdaaTumble
namespace Go.Proofs.Ytkpgigkcnmjbdaa
open Go.RowKit Go.ChangeShapes Go.WideShapes Go.ChangeAt

set_option maxHeartbeats 400000 in
theorem is13_any (t start number : Int) (w : World) (h1 : tchk t 10 = 0) (h2 : tspan t 10 = (start, wrap64 (start + 10))) (h3 : tnum t 10 = number) :
    Calls Try.prog 48 #[.int .i64 t, .int .i64 start, .int .i64 number] w fun e w' => e = .returned (.bool true) ∧ Below w.heap.size w w' := by
  have e1 : (tspan t 10).1 = start := by rw [h2]
  have e2 : (tspan t 10).2 = wrap64 (start + 10) := by rw [h2]
  have e3 := Lib.hid h3
  clear h2 h3
  go_enter Try.func48, Try.ntmps48
  go_wp2_with (first | (go_at_call 23; refine (number_any _ _ _).mono ?_; rintro e w' ⟨rfl, rfl⟩) | (go_at_call 21; refine (of_any _ _ _).mono ?_; rintro e w1 ⟨rfl, hb⟩; obtain ⟨hc, hf⟩ := bcell hb; have hz := hb.size))
  go_ret
  exact ⟨ret_bool (by simp [e3.out]), hb.alloc hb.size _⟩

theorem alive13 (w : World) : Calls Try.prog 25 #[] w fun e w' => e = .returned (.bool true) ∧ Below w.heap.size w w' := by
  go_enter Try.func25, Try.ntmps25
  go_wp2_with fail
  refine (is13_any _ _ _ _ (by decide +kernel) (by decide +kernel) (by decide +kernel)).mono ?_
  rintro e w1 ⟨rfl, hb1⟩
  go_wp2_with fail
  refine (is13_any _ _ _ _ (by decide +kernel) (by decide +kernel) (by decide +kernel)).mono ?_
  rintro e w2 ⟨rfl, hb2⟩
  go_wp2_with fail
  refine (is13_any _ _ _ _ (by decide +kernel) (by decide +kernel) (by decide +kernel)).mono ?_
  rintro e w3 ⟨rfl, hb3⟩
  go_wp2_with fail
  refine (is13_any _ _ _ _ (by decide +kernel) (by decide +kernel) (by decide +kernel)).mono ?_
  rintro e w4 ⟨rfl, hb4⟩
  go_wp2_with fail
  go_ret
  exact ⟨rfl, ((hb1.trans (hb2.mono hb1.size)).trans (hb3.mono (Nat.le_trans hb1.size hb2.size))).trans (hb4.mono (Nat.le_trans hb1.size (Nat.le_trans hb2.size hb3.size)))⟩

set_option maxHeartbeats 400000 in
theorem tumbleTells_walk (t : Int) (_w0 : (Lit.int .i64 t).wf = true) (size : Int) (_w1 : (Lit.int .i64 size).wf = true) (w : World) :
    Calls Try.prog 3 #[.int .i64 t, .int .i64 size] w fun e w' => e = .returned (.bool true) ∧ Below w.heap.size w w' := by
  go_enter Try.func3, Try.ntmps3
  go_wp2_with (first
    | (go_at_call 23; refine (number_any _ _ _).mono ?_; rintro e w' ⟨rfl, rfl⟩)
    | (go_at_call 24; refine (rnumber_any _ _ _).mono ?_; rintro e w' ⟨rfl, rfl⟩)
    | (go_at_call 21; refine (of_any _ _ _).mono ?_; rintro e w1 ⟨rfl, hb⟩; obtain ⟨hc, hf⟩ := bcell hb)
    | (go_at_call 22; refine (rof_any _ _ _).mono ?_; rintro e w2 ⟨rfl, hb2⟩; obtain ⟨hc2, hf2⟩ := bcell hb2; have hz2 : w1.heap.size < w2.heap.size := by have := hb2.size; simp at this; omega))
  go_ret
  exact ⟨rfl, below_new (below_then (below_new hb _) hb2) _⟩

set_option maxHeartbeats 1000000 in
theorem tumbleNames_walk  (w : World) :
    Calls Try.prog 4 #[] w fun e w' => e = .returned (.bool true) ∧ Below w.heap.size w w' := by
  have k1 : tchk 0 0 = 2 := by decide
  have k2 : tchk 0 1073741825 = 2 := by decide
  have k3 : tchk 0 (-1) = 2 := by decide
  have k4 : tchk 1099511627777 1 = 16 := by decide
  have k5 : tchk (-1099511627777) 5 = 16 := by decide
  have k6 : tchk 9223372036854775807 0 = 2 := by decide
  have k7 : tchk (-1099511627776) 1073741824 = 0 := by decide
  have k8 : (tspan (-1099511627776) 1073741824).1 = -1099511627776 := by decide
  have k9 : (tspan (-1099511627776) 1073741824).2 = -1098437885952 := by decide
  have k10 : tchk 1099511627776 1 = 0 := by decide
  have k11 : tnum 1099511627776 1 = 1099511627776 := by decide
  go_enter Try.func4, Try.ntmps4
  go_wp2_with (first
        | (go_at_call 25; refine (alive13 _).mono ?_; rintro e w1 ⟨rfl, hb1⟩; obtain ⟨hc1, hf1, hz1, hy1⟩ := bfacts hb1)
        | (go_at_call 26; refine (rcheck_any _ _ _).mono ?_; rintro e w' ⟨rfl, rfl⟩)
        | (go_at_call 23; refine (number_any _ _ _).mono ?_; rintro e w' ⟨rfl, rfl⟩)
        | (go_at_call 21; refine (of_any _ _ _).mono ?_; rintro e w2 ⟨rfl, hb2⟩; obtain ⟨hc2, hf2, hz2, hy2⟩ := bfacts hb2))
  go_ret
  exact ⟨rfl, (by repeat (first | exact Below.refl _ _ | refine below_new ?_ _ | refine below_then ?_ (by assumption)))⟩

set_option maxHeartbeats 1000000 in
theorem tumbleOne_walk (t : Int) (_w0 : (Lit.int .i64 t).wf = true) (size : Int) (_w1 : (Lit.int .i64 size).wf = true) (w : World) :
    Calls Try.prog 5 #[.int .i64 t, .int .i64 size] w fun e w' => e = .returned (.bool true) ∧ Below w.heap.size w w' := by
  by_cases h : tchk t size = 0
  · obtain ⟨S, n, e1, e2, e3, hn, hS, l1, l2, m1, m2, b1, b2⟩ := span_facts h
    obtain ⟨a1, a2, a3, a4⟩ := tchk_zero.1 h
    have h' : (tchk t size != 0) = false := by simp [h]
    have n' := Lib.hid hn; have S' := Lib.hid hS
    clear hn hS
    go_enter Try.func5, Try.ntmps5
    go_wp2_with (first
        | (go_at_call 25; refine (alive13 _).mono ?_; rintro e w1 ⟨rfl, hb1⟩; obtain ⟨hc1, hf1, hz1, hy1⟩ := bfacts hb1)
        | (go_at_call 26; refine (rcheck_any _ _ _).mono ?_; rintro e w' ⟨rfl, rfl⟩)
        | (go_at_call 23; refine (number_any _ _ _).mono ?_; rintro e w' ⟨rfl, rfl⟩)
        | (go_at_call 21; refine (of_any _ _ _).mono ?_; rintro e w2 ⟨rfl, hb2⟩; obtain ⟨hc2, hf2, hz2, hy2⟩ := bfacts hb2))
    go_ret
    exact ⟨ret_bool (by simp), (by repeat (first | exact Below.refl _ _ | refine below_new ?_ _ | refine below_then ?_ (by assumption)))⟩
  · have h' : (tchk t size != 0) = true := by simp [h]
    clear h
    go_enter Try.func5, Try.ntmps5
    go_wp2_with (first
        | (go_at_call 25; refine (alive13 _).mono ?_; rintro e w1 ⟨rfl, hb1⟩; obtain ⟨hc1, hf1, hz1, hy1⟩ := bfacts hb1)
        | (go_at_call 26; refine (rcheck_any _ _ _).mono ?_; rintro e w' ⟨rfl, rfl⟩)
        | (go_at_call 23; refine (number_any _ _ _).mono ?_; rintro e w' ⟨rfl, rfl⟩)
        | (go_at_call 21; refine (of_any _ _ _).mono ?_; rintro e w2 ⟨rfl, hb2⟩; obtain ⟨hc2, hf2, hz2, hy2⟩ := bfacts hb2))
    go_ret
    exact ⟨rfl, (by repeat (first | exact Below.refl _ _ | refine below_new ?_ _ | refine below_then ?_ (by assumption)))⟩

theorem two_times {t u s n m S T : Int} (hs : 1 ≤ s) (htu : t ≤ u) (hn : n = t / s) (hm : m = u / s) (hS : n * s = S) (hT : m * s = T) :
    (S = T → n = m) ∧ (¬ S = T → n < m ∧ S + s ≤ T) := by
  have h1 : n ≤ m := by rw [hn, hm]; exact Int.ediv_le_ediv (by omega) htu
  refine ⟨fun e => ?_, fun e => ?_⟩
  · rw [← hS, ← hT] at e
    exact Int.eq_of_mul_eq_mul_right (by omega) e
  · have h2 : n < m := by
      rcases Int.lt_or_eq_of_le h1 with h | h
      · exact h
      · subst h; exact absurd (hS.symm.trans hT) e
    refine ⟨h2, ?_⟩
    have := Int.mul_le_mul_of_nonneg_right (by omega : n + 1 ≤ m) (by omega : 0 ≤ s)
    rw [Int.add_mul] at this; omega

set_option maxHeartbeats 1000000 in
theorem tumbleTwo_walk (t : Int) (_w0 : (Lit.int .i64 t).wf = true) (u : Int) (_w1 : (Lit.int .i64 u).wf = true) (size : Int) (_w2 : (Lit.int .i64 size).wf = true) (w : World) :
    Calls Try.prog 6 #[.int .i64 t, .int .i64 u, .int .i64 size] w fun e w' => e = .returned (.bool true) ∧ Below w.heap.size w w' := by
  by_cases h : tchk t size = 0
  · by_cases g : tchk u size = 0
    · by_cases htu : t ≤ u
      · obtain ⟨S, n, e1, e2, e3, hn, hS, l1, l2, m1, m2, b1, b2⟩ := span_facts h
        obtain ⟨T, m, d1, d2, d3, hm, hT, j1, j2, i1, i2, c1, c2⟩ := span_facts g
        obtain ⟨a1, a2, a3, a4⟩ := tchk_zero.1 h
        obtain ⟨_, _, a5, a6⟩ := tchk_zero.1 g
        have h' : (tchk t size != 0) = false := by simp [h]
        have g' : (tchk u size != 0) = false := by simp [g]
        have hd : decide (u < t) = false := by simp; omega
        obtain ⟨t1, t2⟩ := two_times a1 htu hn hm hS hT
        have T1 := Lib.hid t1; have T2 := Lib.hid t2
        clear hn hS hm hT t1 t2
        go_enter Try.func6, Try.ntmps6
        go_wp2_with (first
        | (go_at_call 25; refine (alive13 _).mono ?_; rintro e w1 ⟨rfl, hb1⟩; obtain ⟨hc1, hf1, hz1, hy1⟩ := bfacts hb1)
        | (go_at_call 26; refine (rcheck_any _ _ _).mono ?_; rintro e w' ⟨rfl, rfl⟩)
        | (go_at_call 23; refine (number_any _ _ _).mono ?_; rintro e w' ⟨rfl, rfl⟩)
        | (go_at_call 21; refine (of_any _ _ _).mono ?_; rintro e w2 ⟨rfl, hb2⟩; obtain ⟨hc2, hf2, hz2, hy2⟩ := bfacts hb2))
        all_goals first
          | (exfalso; have := T1.out (by assumption); omega)
          | (exfalso; have := T2.out (by assumption); omega)
          | (have hst : S = T := by assumption
             go_ret
             exact ⟨ret_bool (by simp; omega), (by repeat (first | exact Below.refl _ _ | refine below_new ?_ _ | refine below_then ?_ (by assumption)))⟩)
          | (have hst : ¬ S = T := by assumption
             have := T2.out hst
             go_ret
             exact ⟨ret_bool (by simp; omega), (by repeat (first | exact Below.refl _ _ | refine below_new ?_ _ | refine below_then ?_ (by assumption)))⟩)
      · have h' : (tchk t size != 0) = false := by simp [h]
        have g' : (tchk u size != 0) = false := by simp [g]
        have hd : decide (u < t) = true := by simp; omega
        clear h g
        go_enter Try.func6, Try.ntmps6
        go_wp2_with (first
        | (go_at_call 25; refine (alive13 _).mono ?_; rintro e w1 ⟨rfl, hb1⟩; obtain ⟨hc1, hf1, hz1, hy1⟩ := bfacts hb1)
        | (go_at_call 26; refine (rcheck_any _ _ _).mono ?_; rintro e w' ⟨rfl, rfl⟩)
        | (go_at_call 23; refine (number_any _ _ _).mono ?_; rintro e w' ⟨rfl, rfl⟩)
        | (go_at_call 21; refine (of_any _ _ _).mono ?_; rintro e w2 ⟨rfl, hb2⟩; obtain ⟨hc2, hf2, hz2, hy2⟩ := bfacts hb2))
        go_ret
        exact ⟨rfl, (by repeat (first | exact Below.refl _ _ | refine below_new ?_ _ | refine below_then ?_ (by assumption)))⟩
    · have h' : (tchk t size != 0) = false := by simp [h]
      have g' : (tchk u size != 0) = true := by simp [g]
      clear h g
      go_enter Try.func6, Try.ntmps6
      go_wp2_with (first
        | (go_at_call 25; refine (alive13 _).mono ?_; rintro e w1 ⟨rfl, hb1⟩; obtain ⟨hc1, hf1, hz1, hy1⟩ := bfacts hb1)
        | (go_at_call 26; refine (rcheck_any _ _ _).mono ?_; rintro e w' ⟨rfl, rfl⟩)
        | (go_at_call 23; refine (number_any _ _ _).mono ?_; rintro e w' ⟨rfl, rfl⟩)
        | (go_at_call 21; refine (of_any _ _ _).mono ?_; rintro e w2 ⟨rfl, hb2⟩; obtain ⟨hc2, hf2, hz2, hy2⟩ := bfacts hb2))
      go_ret
      exact ⟨rfl, (by repeat (first | exact Below.refl _ _ | refine below_new ?_ _ | refine below_then ?_ (by assumption)))⟩
  · have h' : (tchk t size != 0) = true := by simp [h]
    clear h
    go_enter Try.func6, Try.ntmps6
    go_wp2_with (first
        | (go_at_call 25; refine (alive13 _).mono ?_; rintro e w1 ⟨rfl, hb1⟩; obtain ⟨hc1, hf1, hz1, hy1⟩ := bfacts hb1)
        | (go_at_call 26; refine (rcheck_any _ _ _).mono ?_; rintro e w' ⟨rfl, rfl⟩)
        | (go_at_call 23; refine (number_any _ _ _).mono ?_; rintro e w' ⟨rfl, rfl⟩)
        | (go_at_call 21; refine (of_any _ _ _).mono ?_; rintro e w2 ⟨rfl, hb2⟩; obtain ⟨hc2, hf2, hz2, hy2⟩ := bfacts hb2))
    go_ret
    exact ⟨rfl, (by repeat (first | exact Below.refl _ _ | refine below_new ?_ _ | refine below_then ?_ (by assumption)))⟩

theorem floor_eq {t s n : Int} (_hs : 1 ≤ s) (h1 : n * s ≤ t) (h2 : t < n * s + s) : t / s = n := by
  have e1 : t / s ≤ n := by
    have : t / s < n + 1 := Int.ediv_lt_of_lt_mul (by omega) (by rw [Int.add_mul]; omega)
    omega
  have e2 : n ≤ t / s := Int.le_ediv_of_mul_le (by omega) h1
  omega
/-- The window of a time that is known to lie in the window number n. -/
theorem span_at {t size S n : Int} (h : tchk t size = 0) (hS : n * size = S) (h1 : S ≤ t) (h2 : t < S + size) : (tspan t size).1 = S ∧ (tspan t size).2 = S + size ∧ tnum t size = n := by
  obtain ⟨a1, _, _, _⟩ := tchk_zero.1 h
  have e := floor_eq a1 (by omega : n * size ≤ t) (by omega)
  simp [tspan, tnum, h, e, hS]

set_option maxHeartbeats 1000000 in
theorem tumbleEnds_walk (t : Int) (_w0 : (Lit.int .i64 t).wf = true) (size : Int) (_w1 : (Lit.int .i64 size).wf = true) (w : World) :
    Calls Try.prog 7 #[.int .i64 t, .int .i64 size] w fun e w' => e = .returned (.bool true) ∧ Below w.heap.size w w' := by
  by_cases h : tchk t size = 0
  · obtain ⟨S, n, e1, e2, e3, hn, hS, l1, l2, m1, m2, b1, b2⟩ := span_facts h
    obtain ⟨a1, a2, a3, a4⟩ := tchk_zero.1 h
    have h' : (tchk t size != 0) = false := by simp [h]
    by_cases g : tchk (S - 1) size = 0
    · have g' : (tchk (S - 1) size != 0) = false := by simp [g]
      by_cases k : tchk (S + size) size = 0
      · have k' : (tchk (S + size) size != 0) = false := by simp [k]
        obtain ⟨_, _, g3, _⟩ := tchk_zero.1 g
        obtain ⟨_, _, _, k4⟩ := tchk_zero.1 k
        have f : tchk S size = 0 := tchk_zero.2 ⟨a1, a2, by omega, by omega⟩
        obtain ⟨x1, x2, _⟩ := span_at f hS (by omega) (by omega)
        obtain ⟨_, _, y3⟩ := span_at k (n := n + 1) (by rw [Int.add_mul, hS]; omega : (n + 1) * size = S + size) (by omega) (by omega)
        obtain ⟨z1, z2, _⟩ := span_at g (n := n - 1) (by rw [Int.sub_mul, hS]; omega : (n - 1) * size = S - size) (by omega) (by omega)
        have z2' : (tspan (S - 1) size).2 = S := by omega
        have n' := Lib.hid hn; have S' := Lib.hid hS
        clear hn hS z2
        have hL : Loc w [] := trivial
        go_enter Try.func7, Try.ntmps7
        go_wp2_with (first
        | (go_at_call 25; refine (alive13 _).mono ?_; rintro e w1 ⟨rfl, hb1⟩; replace hL := hL.below hb1)
        | (go_at_call 26; refine (rcheck_any _ _ _).mono ?_; rintro e w' ⟨rfl, rfl⟩)
        | (go_at_call 23; refine (number_any _ _ _).mono ?_; rintro e w' ⟨rfl, rfl⟩)
        | (go_at_call 21; refine (of_any _ _ _).mono ?_; rintro e w2 ⟨rfl, hb2⟩; replace hL := (by with_reducible first | exact hL.below hb2 | exact (hL.new _ _).below hb2); have hF := hL; repeat unfold Loc at hF))
        go_ret
        exact ⟨ret_bool (by simp), (by repeat (first | exact Below.refl _ _ | refine below_new ?_ _ | refine below_then ?_ (by assumption)))⟩
      · have k' : (tchk (S + size) size != 0) = true := by simp [k]
        clear k hn hS
        have hL : Loc w [] := trivial
        go_enter Try.func7, Try.ntmps7
        go_wp2_with (first
        | (go_at_call 25; refine (alive13 _).mono ?_; rintro e w1 ⟨rfl, hb1⟩; replace hL := hL.below hb1)
        | (go_at_call 26; refine (rcheck_any _ _ _).mono ?_; rintro e w' ⟨rfl, rfl⟩)
        | (go_at_call 23; refine (number_any _ _ _).mono ?_; rintro e w' ⟨rfl, rfl⟩)
        | (go_at_call 21; refine (of_any _ _ _).mono ?_; rintro e w2 ⟨rfl, hb2⟩; replace hL := (by with_reducible first | exact hL.below hb2 | exact (hL.new _ _).below hb2); have hF := hL; repeat unfold Loc at hF))
        go_ret
        exact ⟨rfl, (by repeat (first | exact Below.refl _ _ | refine below_new ?_ _ | refine below_then ?_ (by assumption)))⟩
    · have g' : (tchk (S - 1) size != 0) = true := by simp [g]
      clear g hn hS
      have hL : Loc w [] := trivial
      go_enter Try.func7, Try.ntmps7
      go_wp2_with (first
        | (go_at_call 25; refine (alive13 _).mono ?_; rintro e w1 ⟨rfl, hb1⟩; replace hL := hL.below hb1)
        | (go_at_call 26; refine (rcheck_any _ _ _).mono ?_; rintro e w' ⟨rfl, rfl⟩)
        | (go_at_call 23; refine (number_any _ _ _).mono ?_; rintro e w' ⟨rfl, rfl⟩)
        | (go_at_call 21; refine (of_any _ _ _).mono ?_; rintro e w2 ⟨rfl, hb2⟩; replace hL := (by with_reducible first | exact hL.below hb2 | exact (hL.new _ _).below hb2); have hF := hL; repeat unfold Loc at hF))
      go_ret
      exact ⟨rfl, (by repeat (first | exact Below.refl _ _ | refine below_new ?_ _ | refine below_then ?_ (by assumption)))⟩
  · have h' : (tchk t size != 0) = true := by simp [h]
    clear h
    have hL : Loc w [] := trivial
    go_enter Try.func7, Try.ntmps7
    go_wp2_with (first
        | (go_at_call 25; refine (alive13 _).mono ?_; rintro e w1 ⟨rfl, hb1⟩; replace hL := hL.below hb1)
        | (go_at_call 26; refine (rcheck_any _ _ _).mono ?_; rintro e w' ⟨rfl, rfl⟩)
        | (go_at_call 23; refine (number_any _ _ _).mono ?_; rintro e w' ⟨rfl, rfl⟩)
        | (go_at_call 21; refine (of_any _ _ _).mono ?_; rintro e w2 ⟨rfl, hb2⟩; replace hL := (by with_reducible first | exact hL.below hb2 | exact (hL.new _ _).below hb2); have hF := hL; repeat unfold Loc at hF))
    go_ret
    exact ⟨rfl, (by repeat (first | exact Below.refl _ _ | refine below_new ?_ _ | refine below_then ?_ (by assumption)))⟩

set_option maxHeartbeats 1000000 in
theorem tumbleMoved_walk (t : Int) (_w0 : (Lit.int .i64 t).wf = true) (size : Int) (_w1 : (Lit.int .i64 size).wf = true) (b : Int) (_w2 : (Lit.int .i64 b).wf = true) (w : World) :
    Calls Try.prog 8 #[.int .i64 t, .int .i64 size, .int .i64 b] w fun e w' => e = .returned (.bool true) ∧ Below w.heap.size w w' := by
  by_cases h : tchk t size = 0
  · obtain ⟨a1, a2, a3, a4⟩ := tchk_zero.1 h
    have h' : (tchk t size != 0) = false := by simp [h]
    by_cases hb : -1000 ≤ b ∧ b ≤ 1000
    · obtain ⟨hb1, hb2⟩ := hb
      have d1 : decide (b < -1000) = false := by simp; omega
      have d2 : decide (1000 < b) = false := by simp; omega
      have p1 := Int.mul_le_mul_of_nonneg_right hb1 (by omega : 0 ≤ size)
      have p2 := Int.mul_le_mul_of_nonneg_right hb2 (by omega : 0 ≤ size)
      have p3 : b * size ≤ 1073741824000 := by omega
      have p4 : -1073741824000 ≤ b * size := by omega
      by_cases g : tchk (t + b * size) size = 0
      · have g' : (tchk (t + b * size) size != 0) = false := by simp [g]
        obtain ⟨S, n, e1, e2, e3, hn, hS, l1, l2, m1, m2, b1, b2⟩ := span_facts h
        obtain ⟨x1, x2, _⟩ := span_at g (n := n + b) (by rw [Int.add_mul, hS] : (n + b) * size = S + b * size) (by omega) (by omega)
        have x2' : (tspan (t + b * size) size).2 = S + size + b * size := by omega
        clear hn hS x2 p1 p2
        go_enter Try.func8, Try.ntmps8
        go_wp2_with (first
        | (go_at_call 25; refine (alive13 _).mono ?_; rintro e w1 ⟨rfl, hb1⟩; obtain ⟨hc1, hf1, hz1, hy1⟩ := bfacts hb1)
        | (go_at_call 26; refine (rcheck_any _ _ _).mono ?_; rintro e w' ⟨rfl, rfl⟩)
        | (go_at_call 23; refine (number_any _ _ _).mono ?_; rintro e w' ⟨rfl, rfl⟩)
        | (go_at_call 21; refine (of_any _ _ _).mono ?_; rintro e w2 ⟨rfl, hb2⟩; obtain ⟨hc2, hf2, hz2, hy2⟩ := bfacts hb2))
        go_ret
        exact ⟨ret_bool (by simp), (by repeat (first | exact Below.refl _ _ | refine below_new ?_ _ | refine below_then ?_ (by assumption)))⟩
      · have g' : (tchk (t + b * size) size != 0) = true := by simp [g]
        clear g p1 p2
        go_enter Try.func8, Try.ntmps8
        go_wp2_with (first
        | (go_at_call 25; refine (alive13 _).mono ?_; rintro e w1 ⟨rfl, hb1⟩; obtain ⟨hc1, hf1, hz1, hy1⟩ := bfacts hb1)
        | (go_at_call 26; refine (rcheck_any _ _ _).mono ?_; rintro e w' ⟨rfl, rfl⟩)
        | (go_at_call 23; refine (number_any _ _ _).mono ?_; rintro e w' ⟨rfl, rfl⟩)
        | (go_at_call 21; refine (of_any _ _ _).mono ?_; rintro e w2 ⟨rfl, hb2⟩; obtain ⟨hc2, hf2, hz2, hy2⟩ := bfacts hb2))
        go_ret
        exact ⟨rfl, (by repeat (first | exact Below.refl _ _ | refine below_new ?_ _ | refine below_then ?_ (by assumption)))⟩
    · by_cases hb1 : b < -1000
      · go_enter Try.func8, Try.ntmps8
        go_wp2_with (first
        | (go_at_call 25; refine (alive13 _).mono ?_; rintro e w1 ⟨rfl, hb1⟩; obtain ⟨hc1, hf1, hz1, hy1⟩ := bfacts hb1)
        | (go_at_call 26; refine (rcheck_any _ _ _).mono ?_; rintro e w' ⟨rfl, rfl⟩)
        | (go_at_call 23; refine (number_any _ _ _).mono ?_; rintro e w' ⟨rfl, rfl⟩)
        | (go_at_call 21; refine (of_any _ _ _).mono ?_; rintro e w2 ⟨rfl, hb2⟩; obtain ⟨hc2, hf2, hz2, hy2⟩ := bfacts hb2))
        go_ret
        exact ⟨rfl, (by repeat (first | exact Below.refl _ _ | refine below_new ?_ _ | refine below_then ?_ (by assumption)))⟩
      · have hb2 : 1000 < b := by omega
        go_enter Try.func8, Try.ntmps8
        go_wp2_with (first
        | (go_at_call 25; refine (alive13 _).mono ?_; rintro e w1 ⟨rfl, hb1⟩; obtain ⟨hc1, hf1, hz1, hy1⟩ := bfacts hb1)
        | (go_at_call 26; refine (rcheck_any _ _ _).mono ?_; rintro e w' ⟨rfl, rfl⟩)
        | (go_at_call 23; refine (number_any _ _ _).mono ?_; rintro e w' ⟨rfl, rfl⟩)
        | (go_at_call 21; refine (of_any _ _ _).mono ?_; rintro e w2 ⟨rfl, hb2⟩; obtain ⟨hc2, hf2, hz2, hy2⟩ := bfacts hb2))
        go_ret
        exact ⟨rfl, (by repeat (first | exact Below.refl _ _ | refine below_new ?_ _ | refine below_then ?_ (by assumption)))⟩
  · have h' : (tchk t size != 0) = true := by simp [h]
    clear h
    go_enter Try.func8, Try.ntmps8
    go_wp2_with (first
        | (go_at_call 25; refine (alive13 _).mono ?_; rintro e w1 ⟨rfl, hb1⟩; obtain ⟨hc1, hf1, hz1, hy1⟩ := bfacts hb1)
        | (go_at_call 26; refine (rcheck_any _ _ _).mono ?_; rintro e w' ⟨rfl, rfl⟩)
        | (go_at_call 23; refine (number_any _ _ _).mono ?_; rintro e w' ⟨rfl, rfl⟩)
        | (go_at_call 21; refine (of_any _ _ _).mono ?_; rintro e w2 ⟨rfl, hb2⟩; obtain ⟨hc2, hf2, hz2, hy2⟩ := bfacts hb2))
    go_ret
    exact ⟨rfl, (by repeat (first | exact Below.refl _ _ | refine below_new ?_ _ | refine below_then ?_ (by assumption)))⟩
end Go.Proofs.Ytkpgigkcnmjbdaa
