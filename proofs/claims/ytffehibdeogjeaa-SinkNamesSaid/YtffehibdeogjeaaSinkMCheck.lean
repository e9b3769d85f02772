/- message.Check (chapter 25), printed by wip/gen_sinkmsg.py. No condition. -/
import Derived.Test.YtffehibdeogjeaaSinkMsg
namespace Go.Proofs.Ytffehibdeogjeaa
open Go.RowKit
/-- What a check of validity answers. -/
def err8 : Bool → Int
  | true => 0
  | false => 8
theorem err8_b (b : Bool) : (err8 b == 0) = b := by cases b <;> rfl
theorem err8_n (b : Bool) : (err8 b != 0) = !b := by cases b <;> rfl
set_option maxHeartbeats 8000000 in
set_option maxRecDepth 100000 in
theorem mcheck_any (kd k t v tm rk rs re ra rb : Int) (w : World) : Calls Try.prog 80 #[.agg #[.int .u8 kd, .int .i64 k, .int .i64 t, .int .i64 v, .int .i64 tm, .int .i64 rk, .int .i64 rs, .int .i64 re, .int .i64 ra, .int .i64 rb]] w fun e w' => e = .returned (.int .i64 (err8 (msok (⟨kd, k, t, v, tm, rk, rs, re, ra, rb⟩ : Ms)))) ∧ Below w.heap.size w w' := by
  obtain ⟨R, hR⟩ : ∃ R, R = msok (⟨kd, k, t, v, tm, rk, rs, re, ra, rb⟩ : Ms) := ⟨_, rfl⟩
  rw [← hR]
  by_cases h1 : kd = 1
  · subst h1
    obtain ⟨B, hB⟩ : ∃ B, B = istime t := ⟨_, rfl⟩
    have hc := fun W => istime_any t W
    rw [← hB] at hc
    have HC := Lib.hid hc
    clear hc
    by_cases he : tm = 0 ∧ rk = 0 ∧ rs = 0 ∧ re = 0 ∧ ra = 0 ∧ rb = 0
    · obtain ⟨rfl, rfl, rfl, rfl, rfl, rfl⟩ := he
      have hv : R = B := by rw [hR, hB]; simp [msok]
      subst hv
      have hrun := neq_ms' (⟨1, k, t, v, 0, 0, 0, 0, 0, 0⟩ : Ms)
      dsimp only at hrun
      clear hR hB
      rcases R with _ | _
      all_goals
        go_enter Try.func80, Try.ntmps80
        go_wp2_with (go_at_call 112; refine (HC.out _).mono ?_; rintro r w1 ⟨rfl, rfl⟩)
        go_ret
        exact ⟨rfl, (by repeat (first | with_reducible exact Below.refl _ _ | with_reducible assumption | (with_reducible exact Env.below (by assumption)) | (with_reducible refine below_new ?_ _) | (with_reducible refine below_drew ?_) | (with_reducible refine below_drewN ?_ _) | (with_reducible refine below_put ?_ ?_ _; rotate_left 1; (dsimp only; omega)) | (with_reducible refine below_then ?_ (by assumption))))⟩
    · have hv : R = false := by rw [hR]; simp only [msok, Ms.mk.injEq]; simp; intros; omega
      subst hv
      have hne : (⟨1, k, t, v, tm, rk, rs, re, ra, rb⟩ : Ms) ≠ ⟨1, k, t, v, 0, 0, 0, 0, 0, 0⟩ := by simp only [ne_eq, Ms.mk.injEq]; omega
      have hrun := neq_ms hne
      dsimp only at hrun
      clear hR hB he hne
      rcases B with _ | _
      all_goals
        go_enter Try.func80, Try.ntmps80
        go_wp2_with (go_at_call 112; refine (HC.out _).mono ?_; rintro r w1 ⟨rfl, rfl⟩)
        go_ret
        exact ⟨rfl, (by repeat (first | with_reducible exact Below.refl _ _ | with_reducible assumption | (with_reducible exact Env.below (by assumption)) | (with_reducible refine below_new ?_ _) | (with_reducible refine below_drew ?_) | (with_reducible refine below_drewN ?_ _) | (with_reducible refine below_put ?_ ?_ _; rotate_left 1; (dsimp only; omega)) | (with_reducible refine below_then ?_ (by assumption))))⟩
  by_cases h4 : kd = 4
  · subst h4
    obtain ⟨B, hB⟩ : ∃ B, B = istime t := ⟨_, rfl⟩
    have hc := fun W => istime_any t W
    rw [← hB] at hc
    have HC := Lib.hid hc
    clear hc
    by_cases he : tm = 0 ∧ rk = 0 ∧ rs = 0 ∧ re = 0 ∧ ra = 0 ∧ rb = 0
    · obtain ⟨rfl, rfl, rfl, rfl, rfl, rfl⟩ := he
      have hv : R = B := by rw [hR, hB]; simp [msok]
      subst hv
      have hrun := neq_ms' (⟨4, k, t, v, 0, 0, 0, 0, 0, 0⟩ : Ms)
      dsimp only at hrun
      clear hR hB
      rcases R with _ | _
      all_goals
        go_enter Try.func80, Try.ntmps80
        go_wp2_with (go_at_call 112; refine (HC.out _).mono ?_; rintro r w1 ⟨rfl, rfl⟩)
        go_ret
        exact ⟨rfl, (by repeat (first | with_reducible exact Below.refl _ _ | with_reducible assumption | (with_reducible exact Env.below (by assumption)) | (with_reducible refine below_new ?_ _) | (with_reducible refine below_drew ?_) | (with_reducible refine below_drewN ?_ _) | (with_reducible refine below_put ?_ ?_ _; rotate_left 1; (dsimp only; omega)) | (with_reducible refine below_then ?_ (by assumption))))⟩
    · have hv : R = false := by rw [hR]; simp only [msok, Ms.mk.injEq]; simp; intros; omega
      subst hv
      have hne : (⟨4, k, t, v, tm, rk, rs, re, ra, rb⟩ : Ms) ≠ ⟨4, k, t, v, 0, 0, 0, 0, 0, 0⟩ := by simp only [ne_eq, Ms.mk.injEq]; omega
      have hrun := neq_ms hne
      dsimp only at hrun
      clear hR hB he hne
      rcases B with _ | _
      all_goals
        go_enter Try.func80, Try.ntmps80
        go_wp2_with (go_at_call 112; refine (HC.out _).mono ?_; rintro r w1 ⟨rfl, rfl⟩)
        go_ret
        exact ⟨rfl, (by repeat (first | with_reducible exact Below.refl _ _ | with_reducible assumption | (with_reducible exact Env.below (by assumption)) | (with_reducible refine below_new ?_ _) | (with_reducible refine below_drew ?_) | (with_reducible refine below_drewN ?_ _) | (with_reducible refine below_put ?_ ?_ _; rotate_left 1; (dsimp only; omega)) | (with_reducible refine below_then ?_ (by assumption))))⟩
  by_cases h2 : kd = 2
  · subst h2
    obtain ⟨B, hB⟩ : ∃ B, B = ismark tm := ⟨_, rfl⟩
    have hc := fun W => ismark_any tm W
    rw [← hB] at hc
    have HC := Lib.hid hc
    clear hc
    by_cases he : k = 0 ∧ t = 0 ∧ v = 0 ∧ rk = 0 ∧ rs = 0 ∧ re = 0 ∧ ra = 0 ∧ rb = 0
    · obtain ⟨rfl, rfl, rfl, rfl, rfl, rfl, rfl, rfl⟩ := he
      have hv : R = B := by rw [hR, hB]; simp [msok]
      subst hv
      have hrun := neq_ms' (⟨2, 0, 0, 0, tm, 0, 0, 0, 0, 0⟩ : Ms)
      dsimp only at hrun
      clear hR hB
      rcases R with _ | _
      all_goals
        go_enter Try.func80, Try.ntmps80
        go_wp2_with (go_at_call 113; refine (HC.out _).mono ?_; rintro r w1 ⟨rfl, rfl⟩)
        go_ret
        exact ⟨rfl, (by repeat (first | with_reducible exact Below.refl _ _ | with_reducible assumption | (with_reducible exact Env.below (by assumption)) | (with_reducible refine below_new ?_ _) | (with_reducible refine below_drew ?_) | (with_reducible refine below_drewN ?_ _) | (with_reducible refine below_put ?_ ?_ _; rotate_left 1; (dsimp only; omega)) | (with_reducible refine below_then ?_ (by assumption))))⟩
    · have hv : R = false := by rw [hR]; simp only [msok, Ms.mk.injEq]; simp; intros; omega
      subst hv
      have hne : (⟨2, k, t, v, tm, rk, rs, re, ra, rb⟩ : Ms) ≠ ⟨2, 0, 0, 0, tm, 0, 0, 0, 0, 0⟩ := by simp only [ne_eq, Ms.mk.injEq]; omega
      have hrun := neq_ms hne
      dsimp only at hrun
      clear hR hB he hne
      rcases B with _ | _
      all_goals
        go_enter Try.func80, Try.ntmps80
        go_wp2_with (go_at_call 113; refine (HC.out _).mono ?_; rintro r w1 ⟨rfl, rfl⟩)
        go_ret
        exact ⟨rfl, (by repeat (first | with_reducible exact Below.refl _ _ | with_reducible assumption | (with_reducible exact Env.below (by assumption)) | (with_reducible refine below_new ?_ _) | (with_reducible refine below_drew ?_) | (with_reducible refine below_drewN ?_ _) | (with_reducible refine below_put ?_ ?_ _; rotate_left 1; (dsimp only; omega)) | (with_reducible refine below_then ?_ (by assumption))))⟩
  by_cases h3 : kd = 3
  · subst h3
    obtain ⟨p1, hp1⟩ : ∃ b, decide (-2199023255552 ≤ rs) = b := ⟨_, rfl⟩
    obtain ⟨p2, hp2⟩ : ∃ b, decide (rs < re) = b := ⟨_, rfl⟩
    obtain ⟨p3, hp3⟩ : ∃ b, decide (re ≤ 2199023255552) = b := ⟨_, rfl⟩
    have hB : isrow rs re = (p1 && (p2 && p3)) := by rw [← hp1, ← hp2, ← hp3]; unfold isrow; simp
    by_cases he : k = 0 ∧ t = 0 ∧ v = 0 ∧ tm = 0
    · obtain ⟨rfl, rfl, rfl, rfl⟩ := he
      have hv : R = (p1 && (p2 && p3)) := by rw [hR, ← hB]; simp [msok]
      subst hv
      have hrun := neq_ms' (⟨3, 0, 0, 0, 0, rk, rs, re, ra, rb⟩ : Ms)
      dsimp only at hrun
      clear hR hB
      rcases p1 with _ | _ <;> rcases p2 with _ | _ <;> rcases p3 with _ | _
      all_goals
        go_enter Try.func80, Try.ntmps80
        go_wp2_with (fail)
        go_ret
        exact ⟨rfl, (by repeat (first | with_reducible exact Below.refl _ _ | with_reducible assumption | (with_reducible exact Env.below (by assumption)) | (with_reducible refine below_new ?_ _) | (with_reducible refine below_drew ?_) | (with_reducible refine below_drewN ?_ _) | (with_reducible refine below_put ?_ ?_ _; rotate_left 1; (dsimp only; omega)) | (with_reducible refine below_then ?_ (by assumption))))⟩
    · have hv : R = false := by rw [hR]; simp only [msok, Ms.mk.injEq]; simp; intros; omega
      subst hv
      have hne : (⟨3, k, t, v, tm, rk, rs, re, ra, rb⟩ : Ms) ≠ ⟨3, 0, 0, 0, 0, rk, rs, re, ra, rb⟩ := by simp only [ne_eq, Ms.mk.injEq]; omega
      have hrun := neq_ms hne
      dsimp only at hrun
      clear hR hB he hne
      rcases p1 with _ | _ <;> rcases p2 with _ | _ <;> rcases p3 with _ | _
      all_goals
        go_enter Try.func80, Try.ntmps80
        go_wp2_with (fail)
        go_ret
        exact ⟨rfl, (by repeat (first | with_reducible exact Below.refl _ _ | with_reducible assumption | (with_reducible exact Env.below (by assumption)) | (with_reducible refine below_new ?_ _) | (with_reducible refine below_drew ?_) | (with_reducible refine below_drewN ?_ _) | (with_reducible refine below_put ?_ ?_ _; rotate_left 1; (dsimp only; omega)) | (with_reducible refine below_then ?_ (by assumption))))⟩
  have hv : R = false := by rw [hR]; simp [msok, h1, h2, h3, h4]
  subst hv
  have k1 : (kd == 1) = false := by simp [h1]
  have k2 : (kd == 2) = false := by simp [h2]
  have k3 : (kd == 3) = false := by simp [h3]
  have k4 : (kd == 4) = false := by simp [h4]
  clear hR h1 h2 h3 h4
  go_enter Try.func80, Try.ntmps80
  go_wp2
  go_ret
  exact ⟨rfl, (by repeat (first | with_reducible exact Below.refl _ _ | with_reducible assumption | (with_reducible exact Env.below (by assumption)) | (with_reducible refine below_new ?_ _) | (with_reducible refine below_drew ?_) | (with_reducible refine below_drewN ?_ _) | (with_reducible refine below_put ?_ ?_ _; rotate_left 1; (dsimp only; omega)) | (with_reducible refine below_then ?_ (by assumption))))⟩
end Go.Proofs.Ytffehibdeogjeaa
