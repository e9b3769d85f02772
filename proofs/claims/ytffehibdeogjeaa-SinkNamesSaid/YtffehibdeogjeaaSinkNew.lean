/- sink.New and the reference's (chapter 34). No condition. -/
import Derived.Test.YtffehibdeogjeaaTaskPlain
namespace Go.Proofs.Ytffehibdeogjeaa
open Go.RowKit

def newK (late : Bool) : Int := if late = true then 7 else 6
theorem new34_any (late : Bool) (w : World) : Calls Try.prog 44 #[.bool late] w fun r w' => r = .returned (.agg #[.int .u8 (newK late), .int .i64 0, .int .i64 0, .slice none 0 0, .slice none 0 0, .slice none 0 0, .slice none 0 0, .slice none 0 0, .slice none 0 0]) ∧ Below w.heap.size w w' := by
  cases late
  all_goals
    go_enter Try.func44, Try.ntmps44
    go_wp2_with fail
    refine bodyPost_ret (v := _) (by rw [results_cell1 Try.results44]; go_simp; rfl) rfl ?_
    exact ⟨rfl, (by repeat (first | with_reducible exact Below.refl _ _ | with_reducible assumption | (with_reducible exact Env.below (by assumption)) | (with_reducible refine below_new ?_ _) | (with_reducible refine below_drew ?_) | (with_reducible refine below_drewN ?_ _) | (with_reducible refine below_put ?_ ?_ _; rotate_left 1; (dsimp only; omega)) | (with_reducible refine below_then ?_ (by assumption))))⟩
theorem rnew34_any (late : Bool) (w : World) : Calls Try.prog 45 #[.bool late] w fun r w' => r = .returned (.agg #[.int .u8 (newK late), .int .i64 0, .int .i64 0, .slice none 0 0, .slice none 0 0, .slice none 0 0, .slice none 0 0, .slice none 0 0, .slice none 0 0]) ∧ Below w.heap.size w w' := by
  cases late
  all_goals
    go_enter Try.func45, Try.ntmps45
    go_wp2_with fail
    refine bodyPost_ret (v := _) (by rw [results_cell1 Try.results45]; go_simp; rfl) rfl ?_
    exact ⟨rfl, (by repeat (first | with_reducible exact Below.refl _ _ | with_reducible assumption | (with_reducible exact Env.below (by assumption)) | (with_reducible refine below_new ?_ _) | (with_reducible refine below_drew ?_) | (with_reducible refine below_drewN ?_ _) | (with_reducible refine below_put ?_ ?_ _; rotate_left 1; (dsimp only; omega)) | (with_reducible refine below_then ?_ (by assumption))))⟩
end Go.Proofs.Ytffehibdeogjeaa
