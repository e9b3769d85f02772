/- The contracts of the accumulators, second part. No condition. -/
import Derived.Test.YtkpgigkcnmjbdaaAccums
namespace Go.Proofs.Ytkpgigkcnmjbdaa
open Go.RowKit Go.WideShapes Go.ChangeShapes Go.ChangeAt

theorem ret_pair {J : Int × Int} {a e : Int} (h : J = (a, e)) :
    Ending.returned (.tuple #[.int .i64 a, .int .i64 e]) = .returned (.tuple #[.int .i64 J.1, .int .i64 J.2]) := by rw [h]
theorem ret_acc {a : Acc} {c s m x : Int} (h : a = ⟨c, s, m, x⟩) :
    Ending.returned (.agg #[.int .i64 c, .int .i64 s, .int .i64 m, .int .i64 x]) = .returned (.agg #[.int .i64 a.c, .int .i64 a.s, .int .i64 a.m, .int .i64 a.x]) := by rw [h]

set_option maxHeartbeats 400000 in
theorem aof_any (v : Int) (w : World) :
    Calls Try.prog 35 #[.int .i64 v] w fun e w' => e = .returned (.agg #[.int .i64 1, .int .i64 v, .int .i64 v, .int .i64 v]) ∧ Below w.heap.size w w' := by
  go_enter Try.func35, Try.ntmps35
  go_wp2
  refine bodyPost_ret (v := _) (by rw [results_cell1 Try.results35]; go_simp; rfl) rfl ⟨?_, ?_⟩
  · rfl
  · exact (by repeat (first | exact Below.refl _ _ | assumption | (with_reducible exact Env.below (by assumption)) | (with_reducible refine below_new ?_ _) | (with_reducible refine below_drew ?_) | (with_reducible refine below_drewN ?_ _) | (with_reducible refine below_put ?_ ?_ _; rotate_left 1; (dsimp only; omega)) | (refine below_then ?_ (by assumption))))

set_option maxHeartbeats 400000 in
theorem given_add (a b : Int) (w : World) :
    Calls Try.prog 60 #[.int .u8 8, .int .i64 a, .int .i64 b] w fun e w' => e = .returned (.int .i64 (wrap64 (a + b))) ∧ w = w' := by
  go_enter Try.func60, Try.ntmps60
  go_wp2
  go_ret
  exact ⟨rfl, rfl⟩

/-- What With computes; the count may wrap. -/
def awith (a : Acc) (v : Int) : Acc := ⟨wrap64 (a.c + 1), wrap64 (a.s + v), (if a.c = 0 then v else min v a.m), (if a.c = 0 then v else max v a.x)⟩
set_option maxHeartbeats 1000000 in
theorem awith_any (c s m x v : Int) (w : World) :
    Calls Try.prog 51 #[.agg #[.int .i64 c, .int .i64 s, .int .i64 m, .int .i64 x], .int .i64 v] w fun e w' =>
      e = .returned (.agg #[.int .i64 (awith ⟨c, s, m, x⟩ v).c, .int .i64 (awith ⟨c, s, m, x⟩ v).s, .int .i64 (awith ⟨c, s, m, x⟩ v).m, .int .i64 (awith ⟨c, s, m, x⟩ v).x]) ∧ Below w.heap.size w w' := by
  have hL : Loc w [] := trivial
  by_cases hc : c = 0
  · have h0 : (c == 0) = true := by simp [hc]
    have hc' := Lib.hid hc; clear hc
    go_enter Try.func51, Try.ntmps51
    go_wp2_with (go_at_call 60; refine (given_add _ _ _).mono ?_; rintro e w1 ⟨rfl, rfl⟩)
    all_goals (refine bodyPost_ret (v := _) (by rw [results_cell1 Try.results51]; go_simp; rfl) rfl ⟨?_, ?_⟩; exact ret_acc (by have hc := hc'.out; unfold awith; grind); exact (by repeat (first | exact Below.refl _ _ | assumption | (with_reducible exact Env.below (by assumption)) | (with_reducible refine below_new ?_ _) | (with_reducible refine below_drew ?_) | (with_reducible refine below_drewN ?_ _) | (with_reducible refine below_put ?_ ?_ _; rotate_left 1; (dsimp only; omega)) | (refine below_then ?_ (by assumption)))))
  · have h0 : (c == 0) = false := by simp [hc]
    have hc' := Lib.hid hc; clear hc
    go_enter Try.func51, Try.ntmps51
    go_wp2_with (go_at_call 60; refine (given_add _ _ _).mono ?_; rintro e w1 ⟨rfl, rfl⟩)
    all_goals (refine bodyPost_ret (v := _) (by rw [results_cell1 Try.results51]; go_simp; rfl) rfl ⟨?_, ?_⟩; exact ret_acc (by have hc := hc'.out; unfold awith; grind); exact (by repeat (first | exact Below.refl _ _ | assumption | (with_reducible exact Env.below (by assumption)) | (with_reducible refine below_new ?_ _) | (with_reducible refine below_drew ?_) | (with_reducible refine below_drewN ?_ _) | (with_reducible refine below_put ?_ ?_ _; rotate_left 1; (dsimp only; omega)) | (refine below_then ?_ (by assumption)))))

set_option maxHeartbeats 400000 in
theorem raof_any (v : Int) (wv : (Lit.int .i64 v).wf = true) (w : World) :
    Calls Try.prog 36 #[.int .i64 v] w fun e w' => e = .returned (.agg #[.int .i64 1, .int .i64 v, .int .i64 v, .int .i64 v]) ∧ Below w.heap.size w w' := by
  have h1 : awith ⟨0, 0, 0, 0⟩ v = ⟨1, v, v, v⟩ := by
    have : wrap64 v = v := IntWalk.wrap64_in _ (bounds_i64 wv)
    simp [awith, this]; decide +kernel
  have hL : Loc w [] := trivial
  go_enter Try.func36, Try.ntmps36
  go_wp2_with (go_at_call 51; refine (awith_any _ _ _ _ _ _).mono ?_; rw [h1]; rintro e w1 ⟨rfl, hb1⟩; replace hL := (by with_reducible first | exact hL.below hb1 | exact (hL.new _ _).below hb1 | exact ((hL.new _ _).new _ _).below hb1 | exact (((hL.new _ _).new _ _).new _ _).below hb1 | exact ((((hL.new _ _).new _ _).new _ _).new _ _).below hb1); (repeat rw [World.size_alloc] at hL); have hF := hL; (repeat unfold Loc at hF))
  refine bodyPost_ret (v := _) (by rw [results_cell1 Try.results36]; go_simp; rfl) rfl ⟨?_, ?_⟩
  · rfl
  · exact (by repeat (first | exact Below.refl _ _ | assumption | (with_reducible exact Env.below (by assumption)) | (with_reducible refine below_new ?_ _) | (with_reducible refine below_drew ?_) | (with_reducible refine below_drewN ?_ _) | (with_reducible refine below_put ?_ ?_ _; rotate_left 1; (dsimp only; omega)) | (refine below_then ?_ (by assumption))))

set_option maxHeartbeats 2000000 in
theorem aboth_any (c s m x d t n y : Int) (w : World) (hd : 0 ≤ c) (hd' : 0 ≤ d) (hd2 : c + d ≤ 1073741824) :
    Calls Try.prog 49 #[.agg #[.int .i64 c, .int .i64 s, .int .i64 m, .int .i64 x], .agg #[.int .i64 d, .int .i64 t, .int .i64 n, .int .i64 y]] w fun e w' =>
      e = .returned (.agg #[.int .i64 (aboth ⟨c, s, m, x⟩ ⟨d, t, n, y⟩).c, .int .i64 (aboth ⟨c, s, m, x⟩ ⟨d, t, n, y⟩).s, .int .i64 (aboth ⟨c, s, m, x⟩ ⟨d, t, n, y⟩).m, .int .i64 (aboth ⟨c, s, m, x⟩ ⟨d, t, n, y⟩).x]) ∧ Below w.heap.size w w' := by
  have hL : Loc w [] := trivial
  go_enter Try.func49, Try.ntmps49
  go_wp2_with fail
  · refine bodyPost_ret (v := _) (by rw [results_cell1 Try.results49]; go_simp; rfl) rfl ⟨?_, ?_⟩
    · exact ret_acc (by unfold aboth; grind)
    · exact (by repeat (first | exact Below.refl _ _ | assumption | (with_reducible exact Env.below (by assumption)) | (with_reducible refine below_new ?_ _) | (with_reducible refine below_drew ?_) | (with_reducible refine below_drewN ?_ _) | (with_reducible refine below_put ?_ ?_ _; rotate_left 1; (dsimp only; omega)) | (refine below_then ?_ (by assumption))))
  · refine bodyPost_ret (v := _) (by rw [results_cell1 Try.results49]; go_simp; rfl) rfl ⟨?_, ?_⟩
    · exact ret_acc (by unfold aboth; grind)
    · exact (by repeat (first | exact Below.refl _ _ | assumption | (with_reducible exact Env.below (by assumption)) | (with_reducible refine below_new ?_ _) | (with_reducible refine below_drew ?_) | (with_reducible refine below_drewN ?_ _) | (with_reducible refine below_put ?_ ?_ _; rotate_left 1; (dsimp only; omega)) | (refine below_then ?_ (by assumption))))
  · go_region_held3 (fun w' => w'.cell? ⟨w.heap.size, 0, none⟩ = some (.int .i64 c) ∧ w'.cell? ⟨w.heap.size, 1, none⟩ = some (.int .i64 s) ∧ w'.cell? ⟨w.heap.size, 2, none⟩ = some (.int .i64 m) ∧ w'.cell? ⟨w.heap.size, 3, none⟩ = some (.int .i64 x) ∧ w'.cell? ⟨w.heap.size + 1, 0, none⟩ = some (.int .i64 d) ∧ w'.cell? ⟨w.heap.size + 1, 1, none⟩ = some (.int .i64 t)) (go_keep)
      (first | (go_at_call 60; refine (given_add _ _ _).mono ?_; rintro e w1 ⟨rfl, rfl⟩))
    all_goals go_wp2
    all_goals (refine bodyPost_ret (v := _) (by rw [results_cell1 Try.results49]; go_simp; rfl) rfl ⟨?_, ?_⟩; exact ret_acc (by unfold aboth; grind); exact (by repeat (first | exact Below.refl _ _ | assumption | (with_reducible exact Env.below (by assumption)) | (with_reducible refine below_new ?_ _) | (with_reducible refine below_drew ?_) | (with_reducible refine below_drewN ?_ _) | (with_reducible refine below_put ?_ ?_ _; rotate_left 1; (dsimp only; omega)) | (refine below_then ?_ (by assumption)))))

set_option maxHeartbeats 1000000 in
theorem rajoin_any (c s m x d t n y : Int) (w : World) :
    Calls Try.prog 31 #[.agg #[.int .i64 c, .int .i64 s, .int .i64 m, .int .i64 x], .agg #[.int .i64 d, .int .i64 t, .int .i64 n, .int .i64 y]] w fun e w' =>
      e = .returned (.tuple #[.agg #[.int .i64 (ajoin ⟨c, s, m, x⟩ ⟨d, t, n, y⟩).1.c, .int .i64 (ajoin ⟨c, s, m, x⟩ ⟨d, t, n, y⟩).1.s, .int .i64 (ajoin ⟨c, s, m, x⟩ ⟨d, t, n, y⟩).1.m, .int .i64 (ajoin ⟨c, s, m, x⟩ ⟨d, t, n, y⟩).1.x], .int .i64 (ajoin ⟨c, s, m, x⟩ ⟨d, t, n, y⟩).2]) ∧ Below w.heap.size w w' := by
  have hL : Loc w [] := trivial
  by_cases ha : Acc.ok ⟨c, s, m, x⟩
  · by_cases hb : Acc.ok ⟨d, t, n, y⟩
    · obtain ⟨a1, a2⟩ := Acc.ok_range ha
      obtain ⟨b1, b2⟩ := Acc.ok_range hb
      have e1 : acheck ⟨c, s, m, x⟩ = 0 := by simp [acheck, ha]
      have e2 : acheck ⟨d, t, n, y⟩ = 0 := by simp [acheck, hb]
      simp only at a1 a2 b1 b2
      have ha' := Lib.hid ha
      have hb' := Lib.hid hb
      clear ha hb
      by_cases hm : c + d ≤ 1073741824
      · have h1 : ajoin ⟨c, s, m, x⟩ ⟨d, t, n, y⟩ = (aboth ⟨c, s, m, x⟩ ⟨d, t, n, y⟩, 0) := by
          unfold ajoin; rw [if_neg (by simp [ha'.out, hb'.out]), if_neg (by simp; omega)]
        go_enter Try.func31, Try.ntmps31
        go_wp2_with (first | (go_at_call 34; refine (racheck_any _ _ _ _ _).mono ?_; rintro e w1 ⟨rfl, hb1⟩; replace hL := (by with_reducible first | exact hL.below hb1 | exact (hL.new _ _).below hb1 | exact ((hL.new _ _).new _ _).below hb1 | exact (((hL.new _ _).new _ _).new _ _).below hb1 | exact ((((hL.new _ _).new _ _).new _ _).new _ _).below hb1); (repeat rw [World.size_alloc] at hL); have hF := hL; (repeat unfold Loc at hF)) | (go_at_call 49; refine (aboth_any _ _ _ _ _ _ _ _ _ (by omega) (by omega) (by omega)).mono ?_; rintro e w1 ⟨rfl, hb1⟩; replace hL := (by with_reducible first | exact hL.below hb1 | exact (hL.new _ _).below hb1 | exact ((hL.new _ _).new _ _).below hb1 | exact (((hL.new _ _).new _ _).new _ _).below hb1 | exact ((((hL.new _ _).new _ _).new _ _).new _ _).below hb1); (repeat rw [World.size_alloc] at hL); have hF := hL; (repeat unfold Loc at hF)))
        refine bodyPost_ret (v := _) (by rw [results_cell_tmp Try.results31]; go_simp; rfl) rfl ⟨?_, ?_⟩
        · rw [h1]
        · exact (by repeat (first | exact Below.refl _ _ | assumption | (with_reducible exact Env.below (by assumption)) | (with_reducible refine below_new ?_ _) | (with_reducible refine below_drew ?_) | (with_reducible refine below_drewN ?_ _) | (with_reducible refine below_put ?_ ?_ _; rotate_left 1; (dsimp only; omega)) | (refine below_then ?_ (by assumption))))
      · have h1 : ajoin ⟨c, s, m, x⟩ ⟨d, t, n, y⟩ = (⟨0, 0, 0, 0⟩, 4) := by
          unfold ajoin; rw [if_neg (by simp [ha'.out, hb'.out]), if_pos (by simp; omega)]
        go_enter Try.func31, Try.ntmps31
        go_wp2_with (go_at_call 34; refine (racheck_any _ _ _ _ _).mono ?_; rintro e w1 ⟨rfl, hb1⟩; replace hL := (by with_reducible first | exact hL.below hb1 | exact (hL.new _ _).below hb1 | exact ((hL.new _ _).new _ _).below hb1 | exact (((hL.new _ _).new _ _).new _ _).below hb1 | exact ((((hL.new _ _).new _ _).new _ _).new _ _).below hb1); (repeat rw [World.size_alloc] at hL); have hF := hL; (repeat unfold Loc at hF))
        refine bodyPost_ret (v := _) (by rw [results_cell_tmp Try.results31]; go_simp; rfl) rfl ⟨?_, ?_⟩
        · rw [h1]
        · exact (by repeat (first | exact Below.refl _ _ | assumption | (with_reducible exact Env.below (by assumption)) | (with_reducible refine below_new ?_ _) | (with_reducible refine below_drew ?_) | (with_reducible refine below_drewN ?_ _) | (with_reducible refine below_put ?_ ?_ _; rotate_left 1; (dsimp only; omega)) | (refine below_then ?_ (by assumption))))
    · have e1 : acheck ⟨c, s, m, x⟩ = 0 := by simp [acheck, ha]
      have e2 : acheck ⟨d, t, n, y⟩ = 8 := by simp [acheck, hb]
      have h1 : ajoin ⟨c, s, m, x⟩ ⟨d, t, n, y⟩ = (⟨0, 0, 0, 0⟩, 8) := by
        unfold ajoin; rw [if_pos (.inr hb)]
      clear ha hb
      go_enter Try.func31, Try.ntmps31
      go_wp2_with (go_at_call 34; refine (racheck_any _ _ _ _ _).mono ?_; rintro e w1 ⟨rfl, hb1⟩; replace hL := (by with_reducible first | exact hL.below hb1 | exact (hL.new _ _).below hb1 | exact ((hL.new _ _).new _ _).below hb1 | exact (((hL.new _ _).new _ _).new _ _).below hb1 | exact ((((hL.new _ _).new _ _).new _ _).new _ _).below hb1); (repeat rw [World.size_alloc] at hL); have hF := hL; (repeat unfold Loc at hF))
      refine bodyPost_ret (v := _) (by rw [results_cell_tmp Try.results31]; go_simp; rfl) rfl ⟨?_, ?_⟩
      · rw [h1]
      · exact (by repeat (first | exact Below.refl _ _ | assumption | (with_reducible exact Env.below (by assumption)) | (with_reducible refine below_new ?_ _) | (with_reducible refine below_drew ?_) | (with_reducible refine below_drewN ?_ _) | (with_reducible refine below_put ?_ ?_ _; rotate_left 1; (dsimp only; omega)) | (refine below_then ?_ (by assumption))))
  · have e1 : acheck ⟨c, s, m, x⟩ = 8 := by simp [acheck, ha]
    have h1 : ajoin ⟨c, s, m, x⟩ ⟨d, t, n, y⟩ = (⟨0, 0, 0, 0⟩, 8) := by
      unfold ajoin; rw [if_pos (.inl ha)]
    clear ha
    go_enter Try.func31, Try.ntmps31
    go_wp2_with (go_at_call 34; refine (racheck_any _ _ _ _ _).mono ?_; rintro e w1 ⟨rfl, hb1⟩; replace hL := (by with_reducible first | exact hL.below hb1 | exact (hL.new _ _).below hb1 | exact ((hL.new _ _).new _ _).below hb1 | exact (((hL.new _ _).new _ _).new _ _).below hb1 | exact ((((hL.new _ _).new _ _).new _ _).new _ _).below hb1); (repeat rw [World.size_alloc] at hL); have hF := hL; (repeat unfold Loc at hF))
    refine bodyPost_ret (v := _) (by rw [results_cell_tmp Try.results31]; go_simp; rfl) rfl ⟨?_, ?_⟩
    · rw [h1]
    · exact (by repeat (first | exact Below.refl _ _ | assumption | (with_reducible exact Env.below (by assumption)) | (with_reducible refine below_new ?_ _) | (with_reducible refine below_drew ?_) | (with_reducible refine below_drewN ?_ _) | (with_reducible refine below_put ?_ ?_ _; rotate_left 1; (dsimp only; omega)) | (refine below_then ?_ (by assumption))))

/-- An aggregate's number. -/
def atold (g : Int) (a : Acc) : Int := if g = 1 then a.c else if g = 2 then a.s else if g = 3 then a.m else a.x
def avalue (g : Int) (a : Acc) : Int × Int := if g < 1 ∨ 4 < g then (0, 2) else if ¬ a.ok then (0, 8) else if a.c = 0 then (0, 6) else (atold g a, 0)

set_option maxHeartbeats 1000000 in
theorem avalue_any (g c s m x : Int) (w : World) :
    Calls Try.prog 32 #[.int .u8 g, .agg #[.int .i64 c, .int .i64 s, .int .i64 m, .int .i64 x]] w fun e w' =>
      e = .returned (.tuple #[.int .i64 (avalue g ⟨c, s, m, x⟩).1, .int .i64 (avalue g ⟨c, s, m, x⟩).2]) ∧ Below w.heap.size w w' := by
  have hL : Loc w [] := trivial
  by_cases hg : 1 ≤ g ∧ g ≤ 4
  · by_cases ha : Acc.ok ⟨c, s, m, x⟩
    · have e1 : acheck ⟨c, s, m, x⟩ = 0 := by simp [acheck, ha]
      have ha' := Lib.hid ha
      clear ha
      rcases (by omega : g = 1 ∨ g = 2 ∨ g = 3 ∨ g = 4) with rfl | rfl | rfl | rfl
      all_goals
        go_enter Try.func32, Try.ntmps32
        go_wp2_with (go_at_call 30; refine (acheck_any _ _ _ _ _).mono ?_; rintro e w1 ⟨rfl, hb1⟩; replace hL := (by with_reducible first | exact hL.below hb1 | exact (hL.new _ _).below hb1 | exact ((hL.new _ _).new _ _).below hb1 | exact (((hL.new _ _).new _ _).new _ _).below hb1 | exact ((((hL.new _ _).new _ _).new _ _).new _ _).below hb1); (repeat rw [World.size_alloc] at hL); have hF := hL; (repeat unfold Loc at hF))
        all_goals (go_ret2; exact ⟨ret_pair (by have ha := ha'.out; unfold avalue atold; grind), (by repeat (first | exact Below.refl _ _ | assumption | (with_reducible exact Env.below (by assumption)) | (with_reducible refine below_new ?_ _) | (with_reducible refine below_drew ?_) | (with_reducible refine below_drewN ?_ _) | (with_reducible refine below_put ?_ ?_ _; rotate_left 1; (dsimp only; omega)) | (refine below_then ?_ (by assumption))))⟩)
    · have e1 : acheck ⟨c, s, m, x⟩ = 8 := by simp [acheck, ha]
      have ha' := Lib.hid ha
      clear ha
      obtain ⟨h1, h2⟩ := hg
      go_enter Try.func32, Try.ntmps32
      go_wp2_with (go_at_call 30; refine (acheck_any _ _ _ _ _).mono ?_; rintro e w1 ⟨rfl, hb1⟩; replace hL := (by with_reducible first | exact hL.below hb1 | exact (hL.new _ _).below hb1 | exact ((hL.new _ _).new _ _).below hb1 | exact (((hL.new _ _).new _ _).new _ _).below hb1 | exact ((((hL.new _ _).new _ _).new _ _).new _ _).below hb1); (repeat rw [World.size_alloc] at hL); have hF := hL; (repeat unfold Loc at hF))
      all_goals (go_ret2; exact ⟨ret_pair (by have ha := ha'.out; unfold avalue; grind), (by repeat (first | exact Below.refl _ _ | assumption | (with_reducible exact Env.below (by assumption)) | (with_reducible refine below_new ?_ _) | (with_reducible refine below_drew ?_) | (with_reducible refine below_drewN ?_ _) | (with_reducible refine below_put ?_ ?_ _; rotate_left 1; (dsimp only; omega)) | (refine below_then ?_ (by assumption))))⟩)
  · by_cases h1 : g < 1
    · go_enter Try.func32, Try.ntmps32
      go_wp2_with fail
      all_goals (go_ret2; exact ⟨ret_pair (by unfold avalue; grind), (by repeat (first | exact Below.refl _ _ | assumption | (with_reducible exact Env.below (by assumption)) | (with_reducible refine below_new ?_ _) | (with_reducible refine below_drew ?_) | (with_reducible refine below_drewN ?_ _) | (with_reducible refine below_put ?_ ?_ _; rotate_left 1; (dsimp only; omega)) | (refine below_then ?_ (by assumption))))⟩)
    · have h2 : 4 < g := by omega
      go_enter Try.func32, Try.ntmps32
      go_wp2_with fail
      all_goals (go_ret2; exact ⟨ret_pair (by unfold avalue; grind), (by repeat (first | exact Below.refl _ _ | assumption | (with_reducible exact Env.below (by assumption)) | (with_reducible refine below_new ?_ _) | (with_reducible refine below_drew ?_) | (with_reducible refine below_drewN ?_ _) | (with_reducible refine below_put ?_ ?_ _; rotate_left 1; (dsimp only; omega)) | (refine below_then ?_ (by assumption))))⟩)

set_option maxHeartbeats 1000000 in
theorem atold_any (g c s m x : Int) (w : World) :
    Calls Try.prog 50 #[.int .u8 g, .agg #[.int .i64 c, .int .i64 s, .int .i64 m, .int .i64 x]] w fun e w' =>
      e = .returned (.int .i64 (atold g ⟨c, s, m, x⟩)) ∧ Below w.heap.size w w' := by
  go_enter Try.func50, Try.ntmps50
  go_wp2
  all_goals (go_ret; exact ⟨ret_i64 (by unfold atold; grind), (by repeat (first | exact Below.refl _ _ | assumption | (with_reducible exact Env.below (by assumption)) | (with_reducible refine below_new ?_ _) | (with_reducible refine below_drew ?_) | (with_reducible refine below_drewN ?_ _) | (with_reducible refine below_put ?_ ?_ _; rotate_left 1; (dsimp only; omega)) | (refine below_then ?_ (by assumption))))⟩)

set_option maxHeartbeats 1000000 in
theorem ravalue_any (g c s m x : Int) (wg : (Lit.int .u8 g).wf = true) (w : World) :
    Calls Try.prog 33 #[.int .u8 g, .agg #[.int .i64 c, .int .i64 s, .int .i64 m, .int .i64 x]] w fun e w' =>
      e = .returned (.tuple #[.int .i64 (avalue g ⟨c, s, m, x⟩).1, .int .i64 (avalue g ⟨c, s, m, x⟩).2]) ∧ Below w.heap.size w w' := by
  obtain ⟨g0, g1⟩ := bounds_u8 wg
  have hL : Loc w [] := trivial
  by_cases ha : Acc.ok ⟨c, s, m, x⟩
  · have e1 : acheck ⟨c, s, m, x⟩ = 0 := by simp [acheck, ha]
    have ha' := Lib.hid ha
    clear ha
    go_enter Try.func33, Try.ntmps33
    go_wp2_with (first | (go_at_call 34; refine (racheck_any _ _ _ _ _).mono ?_; rintro e w1 ⟨rfl, hb1⟩; replace hL := (by with_reducible first | exact hL.below hb1 | exact (hL.new _ _).below hb1 | exact ((hL.new _ _).new _ _).below hb1 | exact (((hL.new _ _).new _ _).new _ _).below hb1 | exact ((((hL.new _ _).new _ _).new _ _).new _ _).below hb1); (repeat rw [World.size_alloc] at hL); have hF := hL; (repeat unfold Loc at hF)) | (go_at_call 50; refine (atold_any _ _ _ _ _ _).mono ?_; rintro e w1 ⟨rfl, hb1⟩; replace hL := (by with_reducible first | exact hL.below hb1 | exact (hL.new _ _).below hb1 | exact ((hL.new _ _).new _ _).below hb1 | exact (((hL.new _ _).new _ _).new _ _).below hb1 | exact ((((hL.new _ _).new _ _).new _ _).new _ _).below hb1); (repeat rw [World.size_alloc] at hL); have hF := hL; (repeat unfold Loc at hF)))
    all_goals (go_ret2; exact ⟨ret_pair (by have ha := ha'.out; unfold avalue; grind), (by repeat (first | exact Below.refl _ _ | assumption | (with_reducible exact Env.below (by assumption)) | (with_reducible refine below_new ?_ _) | (with_reducible refine below_drew ?_) | (with_reducible refine below_drewN ?_ _) | (with_reducible refine below_put ?_ ?_ _; rotate_left 1; (dsimp only; omega)) | (refine below_then ?_ (by assumption))))⟩)
  · have e1 : acheck ⟨c, s, m, x⟩ = 8 := by simp [acheck, ha]
    have ha' := Lib.hid ha
    clear ha
    go_enter Try.func33, Try.ntmps33
    go_wp2_with (go_at_call 34; refine (racheck_any _ _ _ _ _).mono ?_; rintro e w1 ⟨rfl, hb1⟩; replace hL := (by with_reducible first | exact hL.below hb1 | exact (hL.new _ _).below hb1 | exact ((hL.new _ _).new _ _).below hb1 | exact (((hL.new _ _).new _ _).new _ _).below hb1 | exact ((((hL.new _ _).new _ _).new _ _).new _ _).below hb1); (repeat rw [World.size_alloc] at hL); have hF := hL; (repeat unfold Loc at hF))
    all_goals (go_ret2; exact ⟨ret_pair (by have ha := ha'.out; unfold avalue; grind), (by repeat (first | exact Below.refl _ _ | assumption | (with_reducible exact Env.below (by assumption)) | (with_reducible refine below_new ?_ _) | (with_reducible refine below_drew ?_) | (with_reducible refine below_drewN ?_ _) | (with_reducible refine below_put ?_ ?_ _; rotate_left 1; (dsimp only; omega)) | (refine below_then ?_ (by assumption))))⟩)

set_option maxHeartbeats 400000 in
theorem afew_any (c s m x : Int) (w : World) :
    Calls Try.prog 28 #[.agg #[.int .i64 c, .int .i64 s, .int .i64 m, .int .i64 x]] w fun e w' =>
      e = .returned (.bool (decide (Acc.ok ⟨c, s, m, x⟩ ∧ c ≤ 268435456))) ∧ Below w.heap.size w w' := by
  have hL : Loc w [] := trivial
  by_cases ha : Acc.ok ⟨c, s, m, x⟩
  · have e1 : acheck ⟨c, s, m, x⟩ = 0 := by simp [acheck, ha]
    have ha' := Lib.hid ha
    clear ha
    go_enter Try.func28, Try.ntmps28
    go_wp2_with (go_at_call 34; refine (racheck_any _ _ _ _ _).mono ?_; rintro e w1 ⟨rfl, hb1⟩; replace hL := (by with_reducible first | exact hL.below hb1 | exact (hL.new _ _).below hb1 | exact ((hL.new _ _).new _ _).below hb1 | exact (((hL.new _ _).new _ _).new _ _).below hb1 | exact ((((hL.new _ _).new _ _).new _ _).new _ _).below hb1); (repeat rw [World.size_alloc] at hL); have hF := hL; (repeat unfold Loc at hF))
    all_goals (go_ret; exact ⟨ret_bool (by simp [ha'.out]), (by repeat (first | exact Below.refl _ _ | assumption | (with_reducible exact Env.below (by assumption)) | (with_reducible refine below_new ?_ _) | (with_reducible refine below_drew ?_) | (with_reducible refine below_drewN ?_ _) | (with_reducible refine below_put ?_ ?_ _; rotate_left 1; (dsimp only; omega)) | (refine below_then ?_ (by assumption))))⟩)
  · have e1 : acheck ⟨c, s, m, x⟩ = 8 := by simp [acheck, ha]
    have ha' := Lib.hid ha
    clear ha
    go_enter Try.func28, Try.ntmps28
    go_wp2_with (go_at_call 34; refine (racheck_any _ _ _ _ _).mono ?_; rintro e w1 ⟨rfl, hb1⟩; replace hL := (by with_reducible first | exact hL.below hb1 | exact (hL.new _ _).below hb1 | exact ((hL.new _ _).new _ _).below hb1 | exact (((hL.new _ _).new _ _).new _ _).below hb1 | exact ((((hL.new _ _).new _ _).new _ _).new _ _).below hb1); (repeat rw [World.size_alloc] at hL); have hF := hL; (repeat unfold Loc at hF))
    all_goals (go_ret; exact ⟨ret_bool (by simp [ha'.out]), (by repeat (first | exact Below.refl _ _ | assumption | (with_reducible exact Env.below (by assumption)) | (with_reducible refine below_new ?_ _) | (with_reducible refine below_drew ?_) | (with_reducible refine below_drewN ?_ _) | (with_reducible refine below_put ?_ ?_ _; rotate_left 1; (dsimp only; omega)) | (refine below_then ?_ (by assumption))))⟩)
end Go.Proofs.Ytkpgigkcnmjbdaa
