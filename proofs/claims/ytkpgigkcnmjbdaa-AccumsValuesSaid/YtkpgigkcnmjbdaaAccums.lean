/- The contracts of the accumulators (chapter 16) and of their reference: what each function returns for every accumulator. No condition. -/
import Derived.Test.YtkpgigkcnmjbdaaBase
namespace Go.Proofs.Ytkpgigkcnmjbdaa
open Go.RowKit

/-- An accumulator's four numbers. -/
structure Acc where
  c : Int
  s : Int
  m : Int
  x : Int
def Acc.ok (a : Acc) : Prop := (a.c = 0 ∧ a.s = 0 ∧ a.m = 0 ∧ a.x = 0) ∨ (a.c = 1 ∧ a.s = a.m ∧ a.s = a.x) ∨ (1 < a.c ∧ a.c ≤ 1073741824 ∧ a.m ≤ a.x)
instance (a : Acc) : Decidable a.ok := by unfold Acc.ok; infer_instance
def acheck (a : Acc) : Int := if a.ok then 0 else 8

set_option maxHeartbeats 400000 in
theorem acheck_any (c s m x : Int) (w : World) :
    Calls Try.prog 30 #[.agg #[.int .i64 c, .int .i64 s, .int .i64 m, .int .i64 x]] w fun e w' => e = .returned (.int .i64 (acheck ⟨c, s, m, x⟩)) ∧ Below w.heap.size w w' := by
  go_enter Try.func30, Try.ntmps30
  go_wp2
  all_goals (go_ret; exact ⟨ret_i64 (by unfold acheck Acc.ok; grind), (by repeat (first | exact Below.refl _ _ | assumption | (with_reducible exact Env.below (by assumption)) | (with_reducible refine below_new ?_ _) | (with_reducible refine below_drew ?_) | (with_reducible refine below_drewN ?_ _) | (with_reducible refine below_put ?_ ?_ _; rotate_left 1; (dsimp only; omega)) | (refine below_then ?_ (by assumption))))⟩)

set_option maxHeartbeats 400000 in
theorem racheck_any (c s m x : Int) (w : World) :
    Calls Try.prog 34 #[.agg #[.int .i64 c, .int .i64 s, .int .i64 m, .int .i64 x]] w fun e w' => e = .returned (.int .i64 (acheck ⟨c, s, m, x⟩)) ∧ Below w.heap.size w w' := by
  go_enter Try.func34, Try.ntmps34
  go_wp2
  all_goals (go_ret; exact ⟨ret_i64 (by unfold acheck Acc.ok; grind), (by repeat (first | exact Below.refl _ _ | assumption | (with_reducible exact Env.below (by assumption)) | (with_reducible refine below_new ?_ _) | (with_reducible refine below_drew ?_) | (with_reducible refine below_drewN ?_ _) | (with_reducible refine below_put ?_ ?_ _; rotate_left 1; (dsimp only; omega)) | (refine below_then ?_ (by assumption))))⟩)

def aboth (a b : Acc) : Acc := if a.c = 0 then b else if b.c = 0 then a else ⟨a.c + b.c, wrap64 (a.s + b.s), min a.m b.m, max a.x b.x⟩
def ajoin (a b : Acc) : Acc × Int := if ¬ a.ok ∨ ¬ b.ok then (⟨0, 0, 0, 0⟩, 8) else if 1073741824 < a.c + b.c then (⟨0, 0, 0, 0⟩, 4) else (aboth a b, 0)
theorem Acc.ok_range {a : Acc} (h : a.ok) : 0 ≤ a.c ∧ a.c ≤ 1073741824 := by
  unfold Acc.ok at h; omega

theorem ret_join {J : Acc × Int} {c s m x e : Int} (h : J = (⟨c, s, m, x⟩, e)) :
    Ending.returned (.tuple #[.agg #[.int .i64 c, .int .i64 s, .int .i64 m, .int .i64 x], .int .i64 e]) = .returned (.tuple #[.agg #[.int .i64 J.1.c, .int .i64 J.1.s, .int .i64 J.1.m, .int .i64 J.1.x], .int .i64 J.2]) := by rw [h]

set_option maxHeartbeats 1000000 in
theorem ajoin_any (c s m x d t n y : Int) (w : World) :
    Calls Try.prog 29 #[.agg #[.int .i64 c, .int .i64 s, .int .i64 m, .int .i64 x], .agg #[.int .i64 d, .int .i64 t, .int .i64 n, .int .i64 y]] w fun e w' =>
      e = .returned (.tuple #[.agg #[.int .i64 (ajoin ⟨c, s, m, x⟩ ⟨d, t, n, y⟩).1.c, .int .i64 (ajoin ⟨c, s, m, x⟩ ⟨d, t, n, y⟩).1.s, .int .i64 (ajoin ⟨c, s, m, x⟩ ⟨d, t, n, y⟩).1.m, .int .i64 (ajoin ⟨c, s, m, x⟩ ⟨d, t, n, y⟩).1.x], .int .i64 (ajoin ⟨c, s, m, x⟩ ⟨d, t, n, y⟩).2]) ∧ Below w.heap.size w w' := by
  by_cases ha : Acc.ok ⟨c, s, m, x⟩
  · by_cases hb : Acc.ok ⟨d, t, n, y⟩
    · obtain ⟨a1, a2⟩ := Acc.ok_range ha
      obtain ⟨b1, b2⟩ := Acc.ok_range hb
      have e1 : acheck ⟨c, s, m, x⟩ = 0 := by simp [acheck, ha]
      have e2 : acheck ⟨d, t, n, y⟩ = 0 := by simp [acheck, hb]
      simp only at a1 a2 b1 b2
      have ha' := Lib.hid ha
      have hb' := Lib.hid hb
      clear ha hb
      have hL : Loc w [] := trivial
      go_enter Try.func29, Try.ntmps29
      go_wp2_with (go_at_call 30; refine (acheck_any _ _ _ _ _).mono ?_; rintro e w1 ⟨rfl, hb1⟩; replace hL := (by with_reducible first | exact hL.below hb1 | exact (hL.new _ _).below hb1 | exact ((hL.new _ _).new _ _).below hb1 | exact (((hL.new _ _).new _ _).new _ _).below hb1 | exact ((((hL.new _ _).new _ _).new _ _).new _ _).below hb1); (repeat rw [World.size_alloc] at hL); have hF := hL; (repeat unfold Loc at hF))
      all_goals (refine bodyPost_ret (v := _) (by rw [results_cell_tmp Try.results29]; go_simp; rfl) rfl ⟨?_, ?_⟩; exact ret_join (by have ha := ha'.out; have hb := hb'.out; clear hF hL; unfold ajoin aboth; grind); exact (by repeat (first | exact Below.refl _ _ | assumption | (with_reducible exact Env.below (by assumption)) | (with_reducible refine below_new ?_ _) | (with_reducible refine below_drew ?_) | (with_reducible refine below_drewN ?_ _) | (with_reducible refine below_put ?_ ?_ _; rotate_left 1; (dsimp only; omega)) | (refine below_then ?_ (by assumption)))))
    · have e1 : acheck ⟨c, s, m, x⟩ = 0 := by simp [acheck, ha]
      have e2 : acheck ⟨d, t, n, y⟩ = 8 := by simp [acheck, hb]
      have hb' := Lib.hid hb
      clear ha hb
      have hL : Loc w [] := trivial
      go_enter Try.func29, Try.ntmps29
      go_wp2_with (go_at_call 30; refine (acheck_any _ _ _ _ _).mono ?_; rintro e w1 ⟨rfl, hb1⟩; replace hL := (by with_reducible first | exact hL.below hb1 | exact (hL.new _ _).below hb1 | exact ((hL.new _ _).new _ _).below hb1 | exact (((hL.new _ _).new _ _).new _ _).below hb1 | exact ((((hL.new _ _).new _ _).new _ _).new _ _).below hb1); (repeat rw [World.size_alloc] at hL); have hF := hL; (repeat unfold Loc at hF))
      all_goals (refine bodyPost_ret (v := _) (by rw [results_cell_tmp Try.results29]; go_simp; rfl) rfl ⟨?_, ?_⟩; exact ret_join (by unfold ajoin; rw [if_pos (.inr hb'.out)]); exact (by repeat (first | exact Below.refl _ _ | assumption | (with_reducible exact Env.below (by assumption)) | (with_reducible refine below_new ?_ _) | (with_reducible refine below_drew ?_) | (with_reducible refine below_drewN ?_ _) | (with_reducible refine below_put ?_ ?_ _; rotate_left 1; (dsimp only; omega)) | (refine below_then ?_ (by assumption)))))
  · have e1 : acheck ⟨c, s, m, x⟩ = 8 := by simp [acheck, ha]
    have ha' := Lib.hid ha
    clear ha
    have hL : Loc w [] := trivial
    go_enter Try.func29, Try.ntmps29
    go_wp2_with (go_at_call 30; refine (acheck_any _ _ _ _ _).mono ?_; rintro e w1 ⟨rfl, hb1⟩; replace hL := (by with_reducible first | exact hL.below hb1 | exact (hL.new _ _).below hb1 | exact ((hL.new _ _).new _ _).below hb1 | exact (((hL.new _ _).new _ _).new _ _).below hb1 | exact ((((hL.new _ _).new _ _).new _ _).new _ _).below hb1); (repeat rw [World.size_alloc] at hL); have hF := hL; (repeat unfold Loc at hF))
    all_goals (refine bodyPost_ret (v := _) (by rw [results_cell_tmp Try.results29]; go_simp; rfl) rfl ⟨?_, ?_⟩; exact ret_join (by unfold ajoin; rw [if_pos (.inl ha'.out)]); exact (by repeat (first | exact Below.refl _ _ | assumption | (with_reducible exact Env.below (by assumption)) | (with_reducible refine below_new ?_ _) | (with_reducible refine below_drew ?_) | (with_reducible refine below_drewN ?_ _) | (with_reducible refine below_put ?_ ?_ _; rotate_left 1; (dsimp only; omega)) | (refine below_then ?_ (by assumption)))))
end Go.Proofs.Ytkpgigkcnmjbdaa
