/- The contracts of the size of panes and of the test for sliding windows (chapter 19). Condition: numbers within their types. -/
import Derived.Test.YtbbdepeifdbbdaaPaneGcd
import Derived.Test.YtbbdepeifdbbdaaKitD
import Derived.Test.YtbbdepeifdbbdaaKitB
namespace Go.Proofs.Ytbbdepeifdbbdaa
open Go.RowKit

def psize (size every : Int) : Int × Int := if sright size every then ((Int.gcd size every : Nat), 0) else (0, 2)
theorem rall_0 (size every : Int) : (rall 0 size every).2 = if sright size every then 0 else 2 := by
  unfold rall
  by_cases h : sright size every
  · rw [if_neg (by simp [h]), if_neg (by omega), if_pos h]
  · rw [if_pos h, if_neg h]
set_option maxHeartbeats 4000000 in
theorem size_any (size every : Int) (w0 : (Lit.int .i64 size).wf = true) (w1 : (Lit.int .i64 every).wf = true) (w : World) :
    Calls Try.prog 25 #[.int .i64 size, .int .i64 every] w fun e w' => e = .returned (.tuple #[.int .i64 (psize size every).1, .int .i64 (psize size every).2]) ∧ Below w.heap.size w w' := by
  have hall := fun W => sall_any 0 size every w0 w1 W
  rw [rall_0] at hall
  by_cases h : sright size every
  · obtain ⟨h1, h2, h3, h4, h5⟩ := h
    have hr : psize size every = (((Int.gcd size every : Nat) : Int), 0) := by unfold psize; rw [if_pos ⟨h1, h2, h3, h4, h5⟩]
    rw [if_pos ⟨h1, h2, h3, h4, h5⟩] at hall
    have hd := fun W => divisor_any size every W (by omega) (by omega) h3 (by omega)
    obtain ⟨G, hG⟩ : ∃ G : Nat, G = Int.gcd size every := ⟨_, rfl⟩
    rw [← hG] at hr hd
    rw [hr]
    have HALL := Lib.hid hall; have HD := Lib.hid hd
    clear hall hd hG hr
    go_enter Try.func25, Try.ntmps25
    go_wp2_with fail
    go_at_call 63
    refine (HALL.out _).mono ?_
    rintro r w2 ⟨v, rfl, own, hb2⟩
    go_wp2_with fail
    go_at_call 64
    refine (HD.out _).mono ?_
    rintro r w3 ⟨rfl, hb3⟩
    go_wp2
    go_ret2
    exact ⟨rfl, below_then hb2 hb3⟩
  · have hr : psize size every = (0, 2) := by unfold psize; rw [if_neg h]
    rw [if_neg h] at hall
    rw [hr]
    have HALL := Lib.hid hall
    clear hall hr h
    go_enter Try.func25, Try.ntmps25
    go_wp2_with fail
    go_at_call 63
    refine (HALL.out _).mono ?_
    rintro r w2 ⟨v, rfl, own, hb2⟩
    go_wp2
    go_ret2
    exact ⟨rfl, hb2⟩
set_option maxHeartbeats 4000000 in
theorem rsize_any (size every : Int) (w0 : (Lit.int .i64 size).wf = true) (w1 : (Lit.int .i64 every).wf = true) (w : World) :
    Calls Try.prog 26 #[.int .i64 size, .int .i64 every] w fun e w' => e = .returned (.tuple #[.int .i64 (psize size every).1, .int .i64 (psize size every).2]) ∧ Below w.heap.size w w' := by
  have hall := fun W => right_any size every w0 w1 W
  by_cases h : sright size every
  · obtain ⟨h1, h2, h3, h4, h5⟩ := h
    have hr : psize size every = (((Int.gcd size every : Nat) : Int), 0) := by unfold psize; rw [if_pos ⟨h1, h2, h3, h4, h5⟩]
    rw [show decide (sright size every) = true from decide_eq_true ⟨h1, h2, h3, h4, h5⟩] at hall
    have hd := fun W => rdivisor_any size every W (by omega) (by omega) h3 (by omega)
    obtain ⟨G, hG⟩ : ∃ G : Nat, G = Int.gcd size every := ⟨_, rfl⟩
    rw [← hG] at hr hd
    rw [hr]
    have HALL := Lib.hid hall; have HD := Lib.hid hd
    clear hall hd hG hr
    go_enter Try.func26, Try.ntmps26
    go_wp2_with fail
    go_at_call 37
    refine (HALL.out _).mono ?_
    rintro r w2 ⟨rfl, rfl⟩
    go_wp2_with fail
    go_at_call 38
    refine (HD.out _).mono ?_
    rintro r w3 ⟨rfl, hb3⟩
    go_wp2
    go_ret2
    exact ⟨rfl, hb3⟩
  · have hr : psize size every = (0, 2) := by unfold psize; rw [if_neg h]
    rw [show decide (sright size every) = false from decide_eq_false h] at hall
    rw [hr]
    have HALL := Lib.hid hall
    clear hall hr h
    go_enter Try.func26, Try.ntmps26
    go_wp2_with fail
    go_at_call 37
    refine (HALL.out _).mono ?_
    rintro r w2 ⟨rfl, rfl⟩
    go_wp2
    go_ret2
    exact ⟨rfl, Below.refl _ _⟩
/-- Windows that have to be sliding ones. -/
def slchk (k s e : Int) : Int := if ¬ wok k s e then 8 else if k = 2 then 0 else 2
set_option maxHeartbeats 4000000 in
theorem sliding_any (k s e : Int) (we : (Lit.int .i64 e).wf = true) (w : World) :
    Calls Try.prog 65 #[.agg #[.int .u8 k, .int .i64 s, .int .i64 e]] w fun r w' => r = .returned (.int .i64 (slchk k s e)) ∧ Below w.heap.size w w' := by
  have hw := fun W => window_any k s e we W
  unfold wchk at hw
  obtain ⟨R, hR⟩ : ∃ R, R = slchk k s e := ⟨_, rfl⟩
  rw [← hR]
  unfold slchk at hR
  by_cases h : wok k s e
  · rw [if_pos h] at hw
    rw [if_neg (by simp [h])] at hR
    have HW := Lib.hid hw; have HR := Lib.hid hR
    have hL : Loc w [] := trivial
    clear hw hR h
    by_cases hk : k = 2
    · subst hk
      go_enter Try.func65, Try.ntmps65
      go_wp2_with fail
      go_at_call 50
      refine (HW.out _).mono ?_
      rintro r w2 ⟨rfl, hb2⟩
      replace hL := (by with_reducible first | exact hL.below hb2 | exact (hL.new _ _).below hb2 | exact ((hL.new _ _).new _ _).below hb2 | exact (((hL.new _ _).new _ _).new _ _).below hb2 | exact ((((hL.new _ _).new _ _).new _ _).new _ _).below hb2); (repeat rw [World.size_alloc] at hL); have hF := hL; (repeat unfold Loc at hF)
      go_wp2
      go_ret
      exact ⟨ret_i64 (by rw [HR.out]; simp), (by repeat (first | with_reducible exact Below.refl _ _ | with_reducible assumption | (with_reducible exact Env.below (by assumption)) | (with_reducible refine below_new ?_ _) | (with_reducible refine below_drew ?_) | (with_reducible refine below_drewN ?_ _) | (with_reducible refine below_put ?_ ?_ _; rotate_left 1; (dsimp only; omega)) | (with_reducible refine below_then ?_ (by assumption))))⟩
    · have d1 : (k != 2) = true := by simp [hk]
      go_enter Try.func65, Try.ntmps65
      go_wp2_with fail
      go_at_call 50
      refine (HW.out _).mono ?_
      rintro r w2 ⟨rfl, hb2⟩
      replace hL := (by with_reducible first | exact hL.below hb2 | exact (hL.new _ _).below hb2 | exact ((hL.new _ _).new _ _).below hb2 | exact (((hL.new _ _).new _ _).new _ _).below hb2 | exact ((((hL.new _ _).new _ _).new _ _).new _ _).below hb2); (repeat rw [World.size_alloc] at hL); have hF := hL; (repeat unfold Loc at hF)
      go_wp2
      go_ret
      exact ⟨ret_i64 (by rw [HR.out, if_neg hk]), (by repeat (first | with_reducible exact Below.refl _ _ | with_reducible assumption | (with_reducible exact Env.below (by assumption)) | (with_reducible refine below_new ?_ _) | (with_reducible refine below_drew ?_) | (with_reducible refine below_drewN ?_ _) | (with_reducible refine below_put ?_ ?_ _; rotate_left 1; (dsimp only; omega)) | (with_reducible refine below_then ?_ (by assumption))))⟩
  · rw [if_neg h] at hw
    rw [if_pos h] at hR
    subst hR
    have HW := Lib.hid hw
    have hL : Loc w [] := trivial
    clear hw h
    go_enter Try.func65, Try.ntmps65
    go_wp2_with fail
    go_at_call 50
    refine (HW.out _).mono ?_
    rintro r w2 ⟨rfl, hb2⟩
    replace hL := (by with_reducible first | exact hL.below hb2 | exact (hL.new _ _).below hb2 | exact ((hL.new _ _).new _ _).below hb2 | exact (((hL.new _ _).new _ _).new _ _).below hb2 | exact ((((hL.new _ _).new _ _).new _ _).new _ _).below hb2); (repeat rw [World.size_alloc] at hL); have hF := hL; (repeat unfold Loc at hF)
    go_wp2
    go_ret
    exact ⟨rfl, (by repeat (first | with_reducible exact Below.refl _ _ | with_reducible assumption | (with_reducible exact Env.below (by assumption)) | (with_reducible refine below_new ?_ _) | (with_reducible refine below_drew ?_) | (with_reducible refine below_drewN ?_ _) | (with_reducible refine below_put ?_ ?_ _; rotate_left 1; (dsimp only; omega)) | (with_reducible refine below_then ?_ (by assumption))))⟩
set_option maxHeartbeats 4000000 in
theorem asked_any (k s e : Int) (we : (Lit.int .i64 e).wf = true) (w : World) :
    Calls Try.prog 35 #[.agg #[.int .u8 k, .int .i64 s, .int .i64 e]] w fun r w' => r = .returned (.int .i64 (slchk k s e)) ∧ Below w.heap.size w w' := by
  have hw := fun W => rwindow_any k s e we W
  unfold wchk at hw
  obtain ⟨R, hR⟩ : ∃ R, R = slchk k s e := ⟨_, rfl⟩
  rw [← hR]
  unfold slchk at hR
  by_cases h : wok k s e
  · rw [if_pos h] at hw
    rw [if_neg (by simp [h])] at hR
    have HW := Lib.hid hw; have HR := Lib.hid hR
    have hL : Loc w [] := trivial
    clear hw hR h
    by_cases hk : k = 2
    · subst hk
      go_enter Try.func35, Try.ntmps35
      go_wp2_with fail
      go_at_call 17
      refine (HW.out _).mono ?_
      rintro r w2 ⟨rfl, hb2⟩
      replace hL := (by with_reducible first | exact hL.below hb2 | exact (hL.new _ _).below hb2 | exact ((hL.new _ _).new _ _).below hb2 | exact (((hL.new _ _).new _ _).new _ _).below hb2 | exact ((((hL.new _ _).new _ _).new _ _).new _ _).below hb2); (repeat rw [World.size_alloc] at hL); have hF := hL; (repeat unfold Loc at hF)
      go_wp2
      go_ret
      exact ⟨ret_i64 (by rw [HR.out]; simp), (by repeat (first | with_reducible exact Below.refl _ _ | with_reducible assumption | (with_reducible exact Env.below (by assumption)) | (with_reducible refine below_new ?_ _) | (with_reducible refine below_drew ?_) | (with_reducible refine below_drewN ?_ _) | (with_reducible refine below_put ?_ ?_ _; rotate_left 1; (dsimp only; omega)) | (with_reducible refine below_then ?_ (by assumption))))⟩
    · have d1 : (k != 2) = true := by simp [hk]
      go_enter Try.func35, Try.ntmps35
      go_wp2_with fail
      go_at_call 17
      refine (HW.out _).mono ?_
      rintro r w2 ⟨rfl, hb2⟩
      replace hL := (by with_reducible first | exact hL.below hb2 | exact (hL.new _ _).below hb2 | exact ((hL.new _ _).new _ _).below hb2 | exact (((hL.new _ _).new _ _).new _ _).below hb2 | exact ((((hL.new _ _).new _ _).new _ _).new _ _).below hb2); (repeat rw [World.size_alloc] at hL); have hF := hL; (repeat unfold Loc at hF)
      go_wp2
      go_ret
      exact ⟨ret_i64 (by rw [HR.out, if_neg hk]), (by repeat (first | with_reducible exact Below.refl _ _ | with_reducible assumption | (with_reducible exact Env.below (by assumption)) | (with_reducible refine below_new ?_ _) | (with_reducible refine below_drew ?_) | (with_reducible refine below_drewN ?_ _) | (with_reducible refine below_put ?_ ?_ _; rotate_left 1; (dsimp only; omega)) | (with_reducible refine below_then ?_ (by assumption))))⟩
  · rw [if_neg h] at hw
    rw [if_pos h] at hR
    subst hR
    have HW := Lib.hid hw
    have hL : Loc w [] := trivial
    clear hw h
    go_enter Try.func35, Try.ntmps35
    go_wp2_with fail
    go_at_call 17
    refine (HW.out _).mono ?_
    rintro r w2 ⟨rfl, hb2⟩
    replace hL := (by with_reducible first | exact hL.below hb2 | exact (hL.new _ _).below hb2 | exact ((hL.new _ _).new _ _).below hb2 | exact (((hL.new _ _).new _ _).new _ _).below hb2 | exact ((((hL.new _ _).new _ _).new _ _).new _ _).below hb2); (repeat rw [World.size_alloc] at hL); have hF := hL; (repeat unfold Loc at hF)
    go_wp2
    go_ret
    exact ⟨rfl, (by repeat (first | with_reducible exact Below.refl _ _ | with_reducible assumption | (with_reducible exact Env.below (by assumption)) | (with_reducible refine below_new ?_ _) | (with_reducible refine below_drew ?_) | (with_reducible refine below_drewN ?_ _) | (with_reducible refine below_put ?_ ?_ _; rotate_left 1; (dsimp only; omega)) | (with_reducible refine below_then ?_ (by assumption))))⟩
end Go.Proofs.Ytbbdepeifdbbdaa
