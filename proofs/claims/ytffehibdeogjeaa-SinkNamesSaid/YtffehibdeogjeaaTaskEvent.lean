/- Events, sends and marks checked (chapters 25, 27). No condition but those named. -/
import Derived.Test.YtffehibdeogjeaaTaskPlain
import Derived.Test.YtffehibdeogjeaaSinkMCheck
namespace Go.Proofs.Ytffehibdeogjeaa
open Go.RowKit

set_option maxHeartbeats 4000000 in
set_option maxRecDepth 100000 in
theorem mof_any (m : Bool) (tm k t v : Int) (w : World) : Calls Try.prog 132 #[.agg #[.bool m, .int .i64 tm, .int .i64 k, .int .i64 t, .int .i64 v]] w fun r w' => ∃ q : Ms, r = .returned (.tuple #[.agg #[.int .u8 q.kind, .int .i64 q.k, .int .i64 q.t, .int .i64 q.v, .int .i64 q.time, .int .i64 q.rk, .int .i64 q.rs, .int .i64 q.re, .int .i64 q.ra, .int .i64 q.rb], .int .i64 (err8 (evok (⟨m, tm, k, t, v⟩ : Ev)))]) ∧ Below w.heap.size w w' := by
  obtain ⟨R, hR⟩ : ∃ R, R = evok (⟨m, tm, k, t, v⟩ : Ev) := ⟨_, rfl⟩
  rw [← hR]
  rcases m with _ | _
  · obtain ⟨B, hB⟩ : ∃ B, B = istime t := ⟨_, rfl⟩
    have hc := fun W => istime_any t W
    rw [← hB] at hc
    have HC := Lib.hid hc
    clear hc
    by_cases h0 : tm = 0
    · subst h0
      have hv : R = B := by rw [hR, hB]; simp [evok]
      subst hv
      clear hR hB
      rcases R with _ | _
      all_goals
        go_enter Try.func132, Try.ntmps132
        go_wp2_with (go_at_call 112; refine (HC.out _).mono ?_; rintro r w1 ⟨rfl, rfl⟩)
        refine bodyPost_ret (v := _) (by rw [results_cell_tmp Try.results132]; go_simp; rfl) rfl ?_
        exact ⟨⟨_, _, _, _, _, _, _, _, _, _⟩, rfl, (by repeat (first | with_reducible exact Below.refl _ _ | with_reducible assumption | (with_reducible exact Env.below (by assumption)) | (with_reducible refine below_new ?_ _) | (with_reducible refine below_drew ?_) | (with_reducible refine below_drewN ?_ _) | (with_reducible refine below_put ?_ ?_ _; rotate_left 1; (dsimp only; omega)) | (with_reducible refine below_then ?_ (by assumption))))⟩
    · have hv : R = false := by rw [hR]; simp [evok, h0]
      subst hv
      have d1 : (tm != 0) = true := by simp [h0]
      clear hR hB h0
      go_enter Try.func132, Try.ntmps132
      go_wp2_with (go_at_call 112; refine (HC.out _).mono ?_; rintro r w1 ⟨rfl, rfl⟩)
      refine bodyPost_ret (v := _) (by rw [results_cell_tmp Try.results132]; go_simp; rfl) rfl ?_
      exact ⟨⟨_, _, _, _, _, _, _, _, _, _⟩, rfl, (by repeat (first | with_reducible exact Below.refl _ _ | with_reducible assumption | (with_reducible exact Env.below (by assumption)) | (with_reducible refine below_new ?_ _) | (with_reducible refine below_drew ?_) | (with_reducible refine below_drewN ?_ _) | (with_reducible refine below_put ?_ ?_ _; rotate_left 1; (dsimp only; omega)) | (with_reducible refine below_then ?_ (by assumption))))⟩
  · obtain ⟨B, hB⟩ : ∃ B, B = ismark tm := ⟨_, rfl⟩
    have hc := fun W => ismark_any tm W
    rw [← hB] at hc
    have HC := Lib.hid hc
    clear hc
    by_cases h0 : k = 0 ∧ t = 0 ∧ v = 0
    · obtain ⟨rfl, rfl, rfl⟩ := h0
      have hv : R = B := by rw [hR, hB]; simp [evok]
      subst hv
      have hrun := neq_rec' (⟨0, 0, 0⟩ : Rc)
      dsimp only at hrun
      clear hR hB
      rcases R with _ | _
      all_goals
        go_enter Try.func132, Try.ntmps132
        go_wp2_with (go_at_call 113; refine (HC.out _).mono ?_; rintro r w1 ⟨rfl, rfl⟩)
        refine bodyPost_ret (v := _) (by rw [results_cell_tmp Try.results132]; go_simp; rfl) rfl ?_
        exact ⟨⟨_, _, _, _, _, _, _, _, _, _⟩, rfl, (by repeat (first | with_reducible exact Below.refl _ _ | with_reducible assumption | (with_reducible exact Env.below (by assumption)) | (with_reducible refine below_new ?_ _) | (with_reducible refine below_drew ?_) | (with_reducible refine below_drewN ?_ _) | (with_reducible refine below_put ?_ ?_ _; rotate_left 1; (dsimp only; omega)) | (with_reducible refine below_then ?_ (by assumption))))⟩
    · have hv : R = false := by rw [hR]; simp only [evok]; simp; intros; omega
      subst hv
      have hne : (⟨k, t, v⟩ : Rc) ≠ ⟨0, 0, 0⟩ := by simp only [ne_eq, Rc.mk.injEq]; omega
      have hrun := neq_rec hne
      dsimp only at hrun
      clear hR hB h0 hne
      rcases B with _ | _
      all_goals
        go_enter Try.func132, Try.ntmps132
        go_wp2_with (go_at_call 113; refine (HC.out _).mono ?_; rintro r w1 ⟨rfl, rfl⟩)
        refine bodyPost_ret (v := _) (by rw [results_cell_tmp Try.results132]; go_simp; rfl) rfl ?_
        exact ⟨⟨_, _, _, _, _, _, _, _, _, _⟩, rfl, (by repeat (first | with_reducible exact Below.refl _ _ | with_reducible assumption | (with_reducible exact Env.below (by assumption)) | (with_reducible refine below_new ?_ _) | (with_reducible refine below_drew ?_) | (with_reducible refine below_drewN ?_ _) | (with_reducible refine below_put ?_ ?_ _; rotate_left 1; (dsimp only; omega)) | (with_reducible refine below_then ?_ (by assumption))))⟩
theorem mevent_any (m : Bool) (tm k t v : Int) (w : World) : Calls Try.prog 111 #[.agg #[.bool m, .int .i64 tm, .int .i64 k, .int .i64 t, .int .i64 v]] w fun r w' => r = .returned (.int .i64 (err8 (evok (⟨m, tm, k, t, v⟩ : Ev)))) ∧ Below w.heap.size w w' := by
  have hc := fun W => mof_any m tm k t v W
  have HC := Lib.hid hc
  clear hc
  go_enter Try.func111, Try.ntmps111
  go_wp2_with fail
  go_at_call 132
  refine (HC.out _).mono ?_
  rintro r w1 ⟨q, rfl, hb1⟩
  go_wp2_with fail
  go_ret
  exact ⟨rfl, (by repeat (first | with_reducible exact Below.refl _ _ | with_reducible assumption | (with_reducible exact Env.below (by assumption)) | (with_reducible refine below_new ?_ _) | (with_reducible refine below_drew ?_) | (with_reducible refine below_drewN ?_ _) | (with_reducible refine below_put ?_ ?_ _; rotate_left 1; (dsimp only; omega)) | (with_reducible refine below_then ?_ (by assumption))))⟩
set_option maxHeartbeats 4000000 in
set_option maxRecDepth 100000 in
theorem revent_any (m : Bool) (tm k t v : Int) (w : World) : Calls Try.prog 138 #[.agg #[.bool m, .int .i64 tm, .int .i64 k, .int .i64 t, .int .i64 v]] w fun r w' => r = .returned (.int .i64 (err8 (evok (⟨m, tm, k, t, v⟩ : Ev)))) ∧ Below w.heap.size w w' := by
  obtain ⟨R, hR⟩ : ∃ R, R = evok (⟨m, tm, k, t, v⟩ : Ev) := ⟨_, rfl⟩
  rw [← hR]
  rcases m with _ | _
  · obtain ⟨B, hB⟩ : ∃ B, B = istime t := ⟨_, rfl⟩
    have hc := fun W => rright25_any k t v W
    rw [← hB] at hc
    have HC := Lib.hid hc
    clear hc
    by_cases h0 : tm = 0
    · subst h0
      have hv : R = B := by rw [hR, hB]; simp [evok]
      subst hv
      clear hR hB
      rcases R with _ | _
      all_goals
        have hL : Loc w [] := trivial
        go_enter Try.func138, Try.ntmps138
        go_wp2_with ((go_at_call 102; refine (HC.out _).mono ?_; rintro r w1 ⟨rfl, hb1⟩; replace hL := (by with_reducible first | exact hL.below hb1 | exact (hL.new _ _).below hb1 | exact ((hL.new _ _).new _ _).below hb1 | exact (((hL.new _ _).new _ _).new _ _).below hb1 | exact ((((hL.new _ _).new _ _).new _ _).new _ _).below hb1); (repeat rw [World.size_alloc] at hL); have hF := hL; (repeat unfold Loc at hF)))
        go_ret
        exact ⟨rfl, (by repeat (first | with_reducible exact Below.refl _ _ | with_reducible assumption | (with_reducible exact Env.below (by assumption)) | (with_reducible refine below_new ?_ _) | (with_reducible refine below_drew ?_) | (with_reducible refine below_drewN ?_ _) | (with_reducible refine below_put ?_ ?_ _; rotate_left 1; (dsimp only; omega)) | (with_reducible refine below_then ?_ (by assumption))))⟩
    · have hv : R = false := by rw [hR]; simp [evok, h0]
      subst hv
      have d1 : (tm == 0) = false := by simp [h0]
      clear hR hB h0
      go_enter Try.func138, Try.ntmps138
      go_wp2_with fail
      go_ret
      exact ⟨rfl, (by repeat (first | with_reducible exact Below.refl _ _ | with_reducible assumption | (with_reducible exact Env.below (by assumption)) | (with_reducible refine below_new ?_ _) | (with_reducible refine below_drew ?_) | (with_reducible refine below_drewN ?_ _) | (with_reducible refine below_put ?_ ?_ _; rotate_left 1; (dsimp only; omega)) | (with_reducible refine below_then ?_ (by assumption))))⟩
  · obtain ⟨B, hB⟩ : ∃ B, B = ismark tm := ⟨_, rfl⟩
    have hc := fun W => rmark_any tm W
    rw [← hB] at hc
    have HC := Lib.hid hc
    clear hc
    by_cases h0 : k = 0 ∧ t = 0 ∧ v = 0
    · obtain ⟨rfl, rfl, rfl⟩ := h0
      have hv : R = B := by rw [hR, hB]; simp [evok]
      subst hv
      have hrun := eql_rec' (⟨0, 0, 0⟩ : Rc)
      dsimp only at hrun
      clear hR hB
      rcases R with _ | _
      all_goals
        go_enter Try.func138, Try.ntmps138
        go_wp2_with (go_at_call 103; refine (HC.out _).mono ?_; rintro r w1 ⟨rfl, rfl⟩)
        go_ret
        exact ⟨rfl, (by repeat (first | with_reducible exact Below.refl _ _ | with_reducible assumption | (with_reducible exact Env.below (by assumption)) | (with_reducible refine below_new ?_ _) | (with_reducible refine below_drew ?_) | (with_reducible refine below_drewN ?_ _) | (with_reducible refine below_put ?_ ?_ _; rotate_left 1; (dsimp only; omega)) | (with_reducible refine below_then ?_ (by assumption))))⟩
    · have hv : R = false := by rw [hR]; simp only [evok]; simp; intros; omega
      subst hv
      have hne : (⟨k, t, v⟩ : Rc) ≠ ⟨0, 0, 0⟩ := by simp only [ne_eq, Rc.mk.injEq]; omega
      have hrun := eql_rec hne
      dsimp only at hrun
      clear hR hB h0 hne
      rcases B with _ | _
      all_goals
        go_enter Try.func138, Try.ntmps138
        go_wp2_with (go_at_call 103; refine (HC.out _).mono ?_; rintro r w1 ⟨rfl, rfl⟩)
        go_ret
        exact ⟨rfl, (by repeat (first | with_reducible exact Below.refl _ _ | with_reducible assumption | (with_reducible exact Env.below (by assumption)) | (with_reducible refine below_new ?_ _) | (with_reducible refine below_drew ?_) | (with_reducible refine below_drewN ?_ _) | (with_reducible refine below_put ?_ ?_ _; rotate_left 1; (dsimp only; omega)) | (with_reducible refine below_then ?_ (by assumption))))⟩
/-- A mark, or the lowest. -/
theorem rleast_any (t : Int) (w : World) : Calls Try.prog 137 #[.int .i64 t] w fun e w' => e = .returned (.bool (lowmark t)) ∧ w = w' := by
  obtain ⟨B, hB⟩ : ∃ B, B = ismark t := ⟨_, rfl⟩
  have hc := fun W => rmark_any t W
  rw [← hB] at hc
  unfold lowmark
  rw [← hB]
  have HC := Lib.hid hc
  clear hc hB
  by_cases h0 : t = -9223372036854775808
  · subst h0
    go_enter Try.func137, Try.ntmps137
    go_wp2_with fail
    go_ret
    exact ⟨by simp, rfl⟩
  · have d1 : (t == -9223372036854775808) = false := by simp [h0]
    have d2 : decide (t = -9223372036854775808) = false := by simp [h0]
    go_enter Try.func137, Try.ntmps137
    go_wp2_with (go_at_call 103; refine (HC.out _).mono ?_; rintro r w1 ⟨rfl, rfl⟩)
    go_ret
    exact ⟨by rw [d2]; rfl, rfl⟩
theorem tismark_any (t : Int) (w : World) : Calls Try.prog 110 #[.int .i64 t] w fun e w' => e = .returned (.bool (lowmark t)) ∧ Below w.heap.size w w' := by
  obtain ⟨B, hB⟩ : ∃ B, B = ismark t := ⟨_, rfl⟩
  have hc := fun W => mcheck_any 2 0 0 0 t 0 0 0 0 0 W
  rw [show msok (⟨2, 0, 0, 0, t, 0, 0, 0, 0, 0⟩ : Ms) = ismark t by simp [msok], ← hB] at hc
  unfold lowmark
  rw [← hB]
  have HC := Lib.hid hc
  clear hc hB
  by_cases h0 : t = -9223372036854775808
  · subst h0
    go_enter Try.func110, Try.ntmps110
    go_wp2_with fail
    go_ret
    exact ⟨by simp, (by repeat (first | with_reducible exact Below.refl _ _ | with_reducible assumption | (with_reducible exact Env.below (by assumption)) | (with_reducible refine below_new ?_ _) | (with_reducible refine below_drew ?_) | (with_reducible refine below_drewN ?_ _) | (with_reducible refine below_put ?_ ?_ _; rotate_left 1; (dsimp only; omega)) | (with_reducible refine below_then ?_ (by assumption))))⟩
  · have d1 : (t == -9223372036854775808) = false := by simp [h0]
    have d2 : decide (t = -9223372036854775808) = false := by simp [h0]
    rcases B with _ | _
    all_goals
      have hL : Loc w [] := trivial
      go_enter Try.func110, Try.ntmps110
      go_wp2_with ((go_at_call 80; refine (HC.out _).mono ?_; rintro r w1 ⟨rfl, hb1⟩; replace hL := (by with_reducible first | exact hL.below hb1 | exact (hL.new _ _).below hb1 | exact ((hL.new _ _).new _ _).below hb1 | exact (((hL.new _ _).new _ _).new _ _).below hb1 | exact ((((hL.new _ _).new _ _).new _ _).new _ _).below hb1); (repeat rw [World.size_alloc] at hL); have hF := hL; (repeat unfold Loc at hF)))
      go_ret
      exact ⟨by rw [d2]; rfl, (by repeat (first | with_reducible exact Below.refl _ _ | with_reducible assumption | (with_reducible exact Env.below (by assumption)) | (with_reducible refine below_new ?_ _) | (with_reducible refine below_drew ?_) | (with_reducible refine below_drewN ?_ _) | (with_reducible refine below_put ?_ ?_ _; rotate_left 1; (dsimp only; omega)) | (with_reducible refine below_then ?_ (by assumption))))⟩
end Go.Proofs.Ytffehibdeogjeaa
