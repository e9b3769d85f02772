/- The contracts of the timers (chapter 18): the order, what is right, the check. No condition but those that each names. -/
import Derived.Test.YtffehibdeogjeaaCmp
import Derived.Test.YtffehibdeogjeaaSortPlain
import Derived.StillTailTactics
namespace Go.Proofs.Ytffehibdeogjeaa
open Go.RowKit

theorem cmp_still (a b : Int) (w : World) : Calls Try.prog 87 #[.int .i64 a, .int .i64 b] w fun e w' => e = .returned (.int .i64 (cmpI a b)) ∧ w' = w :=
  (cmp_any a b w).mono fun _ _ h => ⟨h.1, h.2.symm⟩
theorem region_still_tail {P : Program} {id : Nat} {Q : Exit → Act → World → Prop} {a : Act} {w : World} {l : List Oper} (n : Nat) (hm : P.follows .mixedOrders = true) (hB : Region.lexTailB .any l.toArray n = true)
    (h : wpStill P l.toArray w.drew (fun a' => wpList P l.toArray Q (l.drop n) a' w.drew) (l.take n) a) : (Code.region id l.toArray true).wp P Q a w := wp_region_still_tail n hm hB h

/-- A timer: where its span begins and ends, and its key. -/
structure Tm where
  s : Int
  e : Int
  k : Int
deriving DecidableEq
instance : Inhabited Tm := ⟨⟨0, 0, 0⟩⟩
def tenc (t : Tm) : List Value := [.int .i64 t.s, .int .i64 t.e, .int .i64 t.k]
def t0 : Tm := ⟨0, 0, 0⟩
/-- One comes before another one. -/
def tlt (a b : Tm) : Bool := decide (a.e < b.e ∨ (a.e = b.e ∧ (a.s < b.s ∨ (a.s = b.s ∧ a.k < b.k))))
theorem tsto : STO tlt where
  irr a := by simp [tlt]
  tr a b c h1 h2 := by simp [tlt] at *; omega
  tri a b h1 h2 := by
    obtain ⟨a1, a2, a3⟩ := a
    obtain ⟨b1, b2, b3⟩ := b
    simp [tlt] at *; omega
theorem or_tlt (a b : Tm) : decide (orL [cmpI a.e b.e, cmpI a.s b.s, cmpI a.k b.k] < 0) = tlt a b := by
  unfold tlt
  rw [decide_eq_decide]
  unfold orL orL orL orL cmpI
  grind

set_option maxHeartbeats 4000000 in
set_option maxRecDepth 100000 in
theorem before_any (a b : Tm) (w : World) :
    Calls Try.prog 75 #[.agg #[.int .i64 a.s, .int .i64 a.e, .int .i64 a.k], .agg #[.int .i64 b.s, .int .i64 b.e, .int .i64 b.k]] w fun e w' => e = .returned (.bool (tlt a b)) ∧ Below w.heap.size w w' := by
  have hor := Lib.hid (or_tlt a b)
  go_enter Try.func75, Try.ntmps75
  go_wp2_with fail
  refine region_still_tail 19 (by kernel_rfl) (by kernel_rfl) ?_
  simp only [List.take_succ_cons, List.take_zero, List.drop_succ_cons, List.drop_zero]
  repeat still_step
  still_call (cmp_still _ _ _)
  repeat still_step
  still_call (cmp_still _ _ _)
  repeat still_step
  still_call (cmp_still _ _ _)
  repeat still_step
  refine wpStill_nil ?_
  go_wp2_with (first
      | (go_at_call 86; refine (or3 (cmpI a.e b.e) (cmpI a.s b.s) (cmpI a.k b.k) _ _ (by simp) (by go_simp) (by go_simp) (by go_simp)).mono ?_; rintro e w1 ⟨rfl, rfl⟩))
  go_ret
  exact ⟨ret_bool hor.out, (by repeat (first | exact Below.refl _ _ | assumption | (with_reducible exact Env.below (by assumption)) | (with_reducible refine below_new ?_ _) | (with_reducible refine below_drew ?_) | (with_reducible refine below_drewN ?_ _) | (with_reducible refine below_put ?_ ?_ _; rotate_left 1; (dsimp only; omega)) | (refine below_then ?_ (by assumption))))⟩

/-- What is right. -/
def tok (t : Tm) : Prop := -1100585369600 ≤ t.s ∧ t.s < t.e ∧ t.e ≤ 1100585369600
instance (t : Tm) : Decidable (tok t) := by unfold tok; infer_instance
set_option maxHeartbeats 1000000 in
theorem tright_any (t : Tm) (w : World) :
    Calls Try.prog 74 #[.agg #[.int .i64 t.s, .int .i64 t.e, .int .i64 t.k]] w fun e w' => e = .returned (.bool (decide (tok t))) ∧ Below w.heap.size w w' := by
  go_enter Try.func74, Try.ntmps74
  go_wp2
  all_goals (go_ret; exact ⟨ret_bool (by unfold tok; grind), (by repeat (first | exact Below.refl _ _ | assumption | (with_reducible exact Env.below (by assumption)) | (with_reducible refine below_new ?_ _) | (with_reducible refine below_drew ?_) | (with_reducible refine below_drewN ?_ _) | (with_reducible refine below_put ?_ ?_ _; rotate_left 1; (dsimp only; omega)) | (refine below_then ?_ (by assumption))))⟩)
set_option maxHeartbeats 1000000 in
theorem rtright_any (t : Tm) (w : World) :
    Calls Try.prog 27 #[.agg #[.int .i64 t.s, .int .i64 t.e, .int .i64 t.k]] w fun e w' => e = .returned (.bool (decide (tok t))) ∧ Below w.heap.size w w' := by
  go_enter Try.func27, Try.ntmps27
  go_wp2
  all_goals (go_ret; exact ⟨ret_bool (by unfold tok; grind), (by repeat (first | exact Below.refl _ _ | assumption | (with_reducible exact Env.below (by assumption)) | (with_reducible refine below_new ?_ _) | (with_reducible refine below_drew ?_) | (with_reducible refine below_drewN ?_ _) | (with_reducible refine below_put ?_ ?_ _; rotate_left 1; (dsimp only; omega)) | (refine below_then ?_ (by assumption))))⟩)
end Go.Proofs.Ytffehibdeogjeaa
