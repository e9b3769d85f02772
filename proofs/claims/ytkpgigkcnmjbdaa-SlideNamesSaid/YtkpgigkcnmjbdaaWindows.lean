/- The contracts of the checks of windows (chapter 8, as far as the windows' layers use them). No condition. -/
import Derived.Test.YtkpgigkcnmjbdaaBase
namespace Go.Proofs.Ytkpgigkcnmjbdaa
open Go.RowKit Go.WideShapes Go.ChangeShapes Go.ChangeAt

def wok (k s e : Int) : Prop := (1 ≤ s ∧ s ≤ 1073741824) ∧ ((k = 2 ∧ 1 ≤ e ∧ e ≤ s ∧ s ≤ 16 * e) ∨ ((k = 1 ∨ k = 3) ∧ e = 0))
instance (k s e : Int) : Decidable (wok k s e) := by unfold wok; infer_instance
def wchk (k s e : Int) : Int := if wok k s e then 0 else 8

set_option maxHeartbeats 2000000 in
theorem window_any (k s e : Int) (we : (Lit.int .i64 e).wf = true) (w : World) :
    Calls Try.prog 57 #[.agg #[.int .u8 k, .int .i64 s, .int .i64 e]] w fun r w' => r = .returned (.int .i64 (wchk k s e)) ∧ Below w.heap.size w w' := by
  obtain ⟨b1, b2⟩ := bounds_i64 we
  clear we
  go_enter Try.func57, Try.ntmps57
  go_wp2
  all_goals (go_ret; exact ⟨ret_i64 (by unfold wchk wok; grind), (by repeat (first | exact Below.refl _ _ | assumption | (with_reducible exact Env.below (by assumption)) | (with_reducible refine below_new ?_ _) | (with_reducible refine below_drew ?_) | (with_reducible refine below_drewN ?_ _) | (with_reducible refine below_put ?_ ?_ _; rotate_left 1; (dsimp only; omega)) | (refine below_then ?_ (by assumption))))⟩)

set_option maxHeartbeats 2000000 in
theorem fits_any (k s e : Int) (we : (Lit.int .i64 e).wf = true) (w : World) :
    Calls Try.prog 62 #[.agg #[.int .u8 k, .int .i64 s, .int .i64 e]] w fun r w' => r = .returned (.bool (decide (wok k s e))) ∧ Below w.heap.size w w' := by
  obtain ⟨b1, b2⟩ := bounds_i64 we
  clear we
  go_enter Try.func62, Try.ntmps62
  go_wp2
  all_goals (go_ret; exact ⟨ret_bool (by unfold wok; grind), (by repeat (first | exact Below.refl _ _ | assumption | (with_reducible exact Env.below (by assumption)) | (with_reducible refine below_new ?_ _) | (with_reducible refine below_drew ?_) | (with_reducible refine below_drewN ?_ _) | (with_reducible refine below_put ?_ ?_ _; rotate_left 1; (dsimp only; omega)) | (refine below_then ?_ (by assumption))))⟩)

set_option maxHeartbeats 2000000 in
theorem rwindow_any (k s e : Int) (we : (Lit.int .i64 e).wf = true) (w : World) :
    Calls Try.prog 58 #[.agg #[.int .u8 k, .int .i64 s, .int .i64 e]] w fun r w' => r = .returned (.int .i64 (wchk k s e)) ∧ Below w.heap.size w w' := by
  have hL : Loc w [] := trivial
  by_cases h : wok k s e
  · have h1 : decide (wok k s e) = true := by simp [h]
    have h2 : wchk k s e = 0 := by simp [wchk, h]
    have H := Lib.hid h2
    clear h h2
    go_enter Try.func58, Try.ntmps58
    go_wp2_with (go_at_call 62; refine (fits_any _ _ _ we _).mono ?_; rintro r w1 ⟨rfl, hb1⟩; replace hL := (by with_reducible first | exact hL.below hb1 | exact (hL.new _ _).below hb1 | exact ((hL.new _ _).new _ _).below hb1 | exact (((hL.new _ _).new _ _).new _ _).below hb1 | exact ((((hL.new _ _).new _ _).new _ _).new _ _).below hb1); (repeat rw [World.size_alloc] at hL); have hF := hL; (repeat unfold Loc at hF))
    go_ret
    exact ⟨ret_i64 H.out.symm, (by repeat (first | exact Below.refl _ _ | assumption | (with_reducible exact Env.below (by assumption)) | (with_reducible refine below_new ?_ _) | (with_reducible refine below_drew ?_) | (with_reducible refine below_drewN ?_ _) | (with_reducible refine below_put ?_ ?_ _; rotate_left 1; (dsimp only; omega)) | (refine below_then ?_ (by assumption))))⟩
  · have h1 : decide (wok k s e) = false := by simp [h]
    have h2 : wchk k s e = 8 := by simp [wchk, h]
    have H := Lib.hid h2
    clear h h2
    go_enter Try.func58, Try.ntmps58
    go_wp2_with (go_at_call 62; refine (fits_any _ _ _ we _).mono ?_; rintro r w1 ⟨rfl, hb1⟩; replace hL := (by with_reducible first | exact hL.below hb1 | exact (hL.new _ _).below hb1 | exact ((hL.new _ _).new _ _).below hb1 | exact (((hL.new _ _).new _ _).new _ _).below hb1 | exact ((((hL.new _ _).new _ _).new _ _).new _ _).below hb1); (repeat rw [World.size_alloc] at hL); have hF := hL; (repeat unfold Loc at hF))
    go_ret
    exact ⟨ret_i64 H.out.symm, (by repeat (first | exact Below.refl _ _ | assumption | (with_reducible exact Env.below (by assumption)) | (with_reducible refine below_new ?_ _) | (with_reducible refine below_drew ?_) | (with_reducible refine below_drewN ?_ _) | (with_reducible refine below_put ?_ ?_ _; rotate_left 1; (dsimp only; omega)) | (refine below_then ?_ (by assumption))))⟩
end Go.Proofs.Ytkpgigkcnmjbdaa
