/- The walk of PanesDivide: the size of panes divides both sizes, and what divides both divides it. No condition. -/
import Derived.Test.YtbbdepeifdbbdaaPaneLaw
namespace Go.Proofs.Ytbbdepeifdbbdaa
open Go.RowKit Go.ChangeShapes Go.WideShapes Go.ChangeAt Go.Deep

theorem emod0_iff {a b : Int} : a % b = 0 ↔ b ∣ a := ⟨Int.dvd_of_emod_eq_zero, Int.emod_eq_zero_of_dvd⟩
set_option maxHeartbeats 16000000 in
set_option maxRecDepth 100000 in
theorem panesDivide_walk (size : Int) (w0 : (Lit.int .i64 size).wf = true) (every : Int) (w1 : (Lit.int .i64 every).wf = true) (n : Int) (_wn : (Lit.int .i64 n).wf = true) (w : World) :
    Calls Try.prog 7 #[.int .i64 size, .int .i64 every, .int .i64 n] w fun r w' => r = .returned (.bool true) ∧ Below w.heap.size w w' := by
  have hri := fun W => right_any size every w0 w1 W
  by_cases hr : sright size every
  · rw [decide_eq_true hr] at hri
    have HRI := Lib.hid hri
    clear hri
    by_cases hn : n < 1
    · go_enter Try.func7, Try.ntmps7
      go_wp2_with fail
      go_at_call 34
      refine (alive19 _).mono ?_
      rintro r w2 ⟨rfl, hb2⟩
      go_wp2_with fail
      go_at_call 37
      refine (HRI.out _).mono ?_
      rintro r w3 ⟨rfl, rfl⟩
      go_wp2
      go_ret
      exact ⟨rfl, hb2⟩
    · have hr' := hr
      obtain ⟨h1, h2, h3, h4, h5⟩ := hr
      obtain ⟨G, q1, q2, g1, g2, g3, g4, g5, g6, -, -⟩ := gcd_facts (show 0 < size by omega) (show 0 < every by omega)
      have hsz := fun W => size_any size every w0 w1 W
      rw [show psize size every = ((G : Int), 0) by unfold psize; rw [if_pos hr', g1]] at hsz
      have HSZ := Lib.hid hsz
      have hGG : (G : Int) ≤ 1073741824 := by
        have : (1 : Int) * G ≤ q1 * G := Int.mul_le_mul_of_nonneg_right (by omega) (by omega)
        omega
      have hG1 : (1 : Int) ≤ (G : Int) := by omega
      have m1 : size % (G : Int) = 0 := Int.emod_eq_zero_of_dvd ⟨q1, by rw [g5, Int.mul_comm]⟩
      have m2 : every % (G : Int) = 0 := Int.emod_eq_zero_of_dvd ⟨q2, by rw [g6, Int.mul_comm]⟩
      have hn1 : 1 ≤ n := by omega
      have hfin : size % n = 0 → every % n = 0 → (G : Int) % n = 0 := fun e1 e2 => by
        rw [emod0_iff] at e1 e2 ⊢
        rw [← g1]
        exact Int.dvd_coe_gcd e1 e2
      clear hsz hr' g1 g5 g6 hn
      by_cases e1 : size % n = 0
      · by_cases e2 : every % n = 0
        · have e3 := hfin e1 e2
          clear hfin
          go_enter Try.func7, Try.ntmps7
          go_wp2_with fail
          go_at_call 34
          refine (alive19 _).mono ?_
          rintro r w2 ⟨rfl, hb2⟩
          go_wp2_with fail
          go_at_call 37
          refine (HRI.out _).mono ?_
          rintro r w3 ⟨rfl, rfl⟩
          go_wp2_with fail
          go_at_call 25
          refine (HSZ.out _).mono ?_
          rintro r w4 ⟨rfl, hb4⟩
          go_wp2
          go_ret
          exact ⟨rfl, below_then hb2 hb4⟩
        · have e2' : (every % n != 0) = true := by simp [e2]
          clear hfin
          go_enter Try.func7, Try.ntmps7
          go_wp2_with fail
          go_at_call 34
          refine (alive19 _).mono ?_
          rintro r w2 ⟨rfl, hb2⟩
          go_wp2_with fail
          go_at_call 37
          refine (HRI.out _).mono ?_
          rintro r w3 ⟨rfl, rfl⟩
          go_wp2_with fail
          go_at_call 25
          refine (HSZ.out _).mono ?_
          rintro r w4 ⟨rfl, hb4⟩
          go_wp2
          go_ret
          exact ⟨rfl, below_then hb2 hb4⟩
      · have e1' : (size % n != 0) = true := by simp [e1]
        clear hfin
        go_enter Try.func7, Try.ntmps7
        go_wp2_with fail
        go_at_call 34
        refine (alive19 _).mono ?_
        rintro r w2 ⟨rfl, hb2⟩
        go_wp2_with fail
        go_at_call 37
        refine (HRI.out _).mono ?_
        rintro r w3 ⟨rfl, rfl⟩
        go_wp2_with fail
        go_at_call 25
        refine (HSZ.out _).mono ?_
        rintro r w4 ⟨rfl, hb4⟩
        go_wp2
        go_ret
        exact ⟨rfl, below_then hb2 hb4⟩
  · rw [decide_eq_false hr] at hri
    have HRI := Lib.hid hri
    clear hri hr
    go_enter Try.func7, Try.ntmps7
    go_wp2_with fail
    go_at_call 34
    refine (alive19 _).mono ?_
    rintro r w2 ⟨rfl, hb2⟩
    go_wp2_with fail
    go_at_call 37
    refine (HRI.out _).mono ?_
    rintro r w3 ⟨rfl, rfl⟩
    go_wp2
    go_ret
    exact ⟨rfl, hb2⟩
end Go.Proofs.Ytbbdepeifdbbdaa
