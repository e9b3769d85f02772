/- The contracts of the reference of the sliding windows, second part (Spans, Of). No condition. -/
import Derived.Test.YtkpgigkcnmjbdaaSlideRef
import Derived.Test.YtkpgigkcnmjbdaaWindows
namespace Go.Proofs.Ytkpgigkcnmjbdaa
open Go.RowKit Go.WideShapes Go.ChangeShapes Go.ChangeAt

/-- The windows of a time, for a valid window that is no session. -/
def wspans (k s e t : Int) : List (Int × Int) := if k = 1 then [tspan t s] else swins t s e

/-- A slice literal: a new block that holds the list. -/
theorem Own.made {α : Type} {enc : α → List Value} {sz : Nat} (henc : ∀ y, (enc y).length = sz) (w : World) (base : Nat) (e : TypeId) (l : List α) (g : Nat) (hg : g = w.heap.size) (hb : base ≤ g) (hm : l.length ≤ maxLen) :
    Own enc sz (w.alloc (.cells (l.flatMap enc).toArray e)) base e (.slice (some ⟨g, 0, none⟩) l.length l.length) l := by
  subst hg
  have hf := flat_length henc l
  refine ⟨hf, .inr ⟨w.heap.size, l.length, (l.flatMap enc).toArray, rfl, hb, ?_, Nat.le_refl _, hm, by simpa using hf, ?_⟩⟩
  · show (w.heap.push _)[w.heap.size]? = _
    simp
  · rw [List.take_of_length_le (by simp [hf])]

set_option maxHeartbeats 2000000 in
theorem spans_any (k s e t : Int) (w : World) (hok : wok k s e) (hk : k ≠ 3) (ht1 : -1099511627776 ≤ t) (ht2 : t ≤ 1099511627776) :
    Calls Try.prog 59 #[.agg #[.int .u8 k, .int .i64 s, .int .i64 e], .int .i64 t] w fun r w' => ∃ v, r = .returned v ∧ Own senc 2 w' w.heap.size 23 v (wspans k s e t) ∧ Below w.heap.size w w' := by
  have hL : Loc w [] := trivial
  by_cases h1 : k = 1
  · subst h1
    go_enter Try.func59, Try.ntmps59
    go_wp2_with (go_at_call 22; refine (rof_any _ _ _).mono ?_; rintro r w1 ⟨rfl, hb1⟩; replace hL := (by with_reducible first | exact hL.below hb1 | exact (hL.new _ _).below hb1 | exact ((hL.new _ _).new _ _).below hb1 | exact (((hL.new _ _).new _ _).new _ _).below hb1 | exact ((((hL.new _ _).new _ _).new _ _).new _ _).below hb1); (repeat rw [World.size_alloc] at hL); have hF := hL; (repeat unfold Loc at hF))
    go_ret
    refine ⟨_, rfl, Own.made (enc := senc) (sz := 2) (fun _ => rfl) _ w.heap.size 23 [tspan t s] (w1.heap.size + 1) (by simp) ?_ (by simp [maxLen]), (by repeat (first | exact Below.refl _ _ | assumption | (with_reducible exact Env.below (by assumption)) | (with_reducible refine below_new ?_ _) | (with_reducible refine below_drew ?_) | (with_reducible refine below_drewN ?_ _) | (with_reducible refine below_put ?_ ?_ _; rotate_left 1; (dsimp only; omega)) | (refine below_then ?_ (by assumption))))⟩
    have := hb1.size
    simp at this
    omega
  · unfold wok at hok
    obtain ⟨⟨s1, s2⟩, hd⟩ := hok
    obtain ⟨rfl, e1, e2, e3⟩ : k = 2 ∧ 1 ≤ e ∧ e ≤ s ∧ s ≤ 16 * e := by omega
    clear hd
    go_enter Try.func59, Try.ntmps59
    go_wp2_with (go_at_call 56; refine (windows_any _ _ _ _ e1 (by omega) ht1 ht2 s1 s2).mono ?_; rintro r w1 ⟨v, rfl, hown, hb1⟩; replace hL := (by with_reducible first | exact hL.below hb1 | exact (hL.new _ _).below hb1 | exact ((hL.new _ _).new _ _).below hb1 | exact (((hL.new _ _).new _ _).new _ _).below hb1 | exact ((((hL.new _ _).new _ _).new _ _).new _ _).below hb1); (repeat rw [World.size_alloc] at hL); have hF := hL; (repeat unfold Loc at hF))
    go_ret
    exact ⟨v, rfl, hown.mono (by simp), (by repeat (first | exact Below.refl _ _ | assumption | (with_reducible exact Env.below (by assumption)) | (with_reducible refine below_new ?_ _) | (with_reducible refine below_drew ?_) | (with_reducible refine below_drewN ?_ _) | (with_reducible refine below_put ?_ ?_ _; rotate_left 1; (dsimp only; omega)) | (refine below_then ?_ (by assumption))))⟩

def wof (k s e t : Int) : List (Int × Int) × Int := if ¬ wok k s e then ([], 8) else if k = 3 then ([], 2) else if t < -1099511627776 ∨ 1099511627776 < t then ([], 16) else (wspans k s e t, 0)

set_option maxHeartbeats 2000000 in
theorem rsof_any (k s e t : Int) (we : (Lit.int .i64 e).wf = true) (w : World) :
    Calls Try.prog 44 #[.agg #[.int .u8 k, .int .i64 s, .int .i64 e], .int .i64 t] w fun r w' => ∃ v, r = .returned (.tuple #[v, .int .i64 (wof k s e t).2]) ∧ Own senc 2 w' w.heap.size 23 v (wof k s e t).1 ∧ Below w.heap.size w w' := by
  have hL : Loc w [] := trivial
  by_cases hok : wok k s e
  · have h1 : wchk k s e = 0 := by simp [wchk, hok]
    by_cases hk : k = 3
    · have h3 : wof k s e t = ([], 2) := by unfold wof; rw [if_neg (by simp [hok]), if_pos hk]
      have h4 : (k == 3) = true := by simp [hk]
      have H := Lib.hid h3
      clear h3 hok hk
      go_enter Try.func44, Try.ntmps44
      go_wp2_with (go_at_call 58; refine (rwindow_any _ _ _ we _).mono ?_; rintro r w1 ⟨rfl, hb1⟩; replace hL := (by with_reducible first | exact hL.below hb1 | exact (hL.new _ _).below hb1 | exact ((hL.new _ _).new _ _).below hb1 | exact (((hL.new _ _).new _ _).new _ _).below hb1 | exact ((((hL.new _ _).new _ _).new _ _).new _ _).below hb1); (repeat rw [World.size_alloc] at hL); have hF := hL; (repeat unfold Loc at hF))
      go_ret2
      exact ⟨.slice none 0 0, by simp [H.out], by rw [H.out]; exact Own.nil _ _ _, (by repeat (first | exact Below.refl _ _ | assumption | (with_reducible exact Env.below (by assumption)) | (with_reducible refine below_new ?_ _) | (with_reducible refine below_drew ?_) | (with_reducible refine below_drewN ?_ _) | (with_reducible refine below_put ?_ ?_ _; rotate_left 1; (dsimp only; omega)) | (refine below_then ?_ (by assumption))))⟩
    · have h4 : (k == 3) = false := by simp [hk]
      by_cases ht : t < -1099511627776 ∨ 1099511627776 < t
      · have h3 : wof k s e t = ([], 16) := by simp [wof, hok, hk, ht]
        have h2 : tchk t 1 = 16 := by unfold tchk; rw [if_neg (by omega), if_pos ht]
        have H := Lib.hid h3
        clear h3 hok hk ht
        go_enter Try.func44, Try.ntmps44
        go_wp2_with (first | (go_at_call 58; refine (rwindow_any _ _ _ we _).mono ?_; rintro r w1 ⟨rfl, hb1⟩; replace hL := (by with_reducible first | exact hL.below hb1 | exact (hL.new _ _).below hb1 | exact ((hL.new _ _).new _ _).below hb1 | exact (((hL.new _ _).new _ _).new _ _).below hb1 | exact ((((hL.new _ _).new _ _).new _ _).new _ _).below hb1); (repeat rw [World.size_alloc] at hL); have hF := hL; (repeat unfold Loc at hF)) | (go_at_call 26; refine (rcheck_any _ _ _).mono ?_; rintro e w' ⟨rfl, rfl⟩))
        go_ret2
        exact ⟨.slice none 0 0, by simp [H.out], by rw [H.out]; exact Own.nil _ _ _, (by repeat (first | exact Below.refl _ _ | assumption | (with_reducible exact Env.below (by assumption)) | (with_reducible refine below_new ?_ _) | (with_reducible refine below_drew ?_) | (with_reducible refine below_drewN ?_ _) | (with_reducible refine below_put ?_ ?_ _; rotate_left 1; (dsimp only; omega)) | (refine below_then ?_ (by assumption))))⟩
      · have h3 : wof k s e t = (wspans k s e t, 0) := by simp [wof, hok, hk, ht]
        have h2 : tchk t 1 = 0 := by unfold tchk; rw [if_neg (by omega), if_neg ht]
        have H := Lib.hid h3
        have hok' := Lib.hid hok
        clear h3 hok
        go_enter Try.func44, Try.ntmps44
        go_wp2_with (first | (go_at_call 58; refine (rwindow_any _ _ _ we _).mono ?_; rintro r w1 ⟨rfl, hb1⟩; replace hL := (by with_reducible first | exact hL.below hb1 | exact (hL.new _ _).below hb1 | exact ((hL.new _ _).new _ _).below hb1 | exact (((hL.new _ _).new _ _).new _ _).below hb1 | exact ((((hL.new _ _).new _ _).new _ _).new _ _).below hb1); (repeat rw [World.size_alloc] at hL); have hF := hL; (repeat unfold Loc at hF)) | (go_at_call 26; refine (rcheck_any _ _ _).mono ?_; rintro e w' ⟨rfl, rfl⟩) | (go_at_call 59; refine (spans_any _ _ _ _ _ hok'.out hk (by omega) (by omega)).mono ?_; rintro r w1 ⟨v, rfl, hown, hb1⟩; replace hL := (by with_reducible first | exact hL.below hb1 | exact (hL.new _ _).below hb1 | exact ((hL.new _ _).new _ _).below hb1 | exact (((hL.new _ _).new _ _).new _ _).below hb1 | exact ((((hL.new _ _).new _ _).new _ _).new _ _).below hb1); (repeat rw [World.size_alloc] at hL); have hF := hL; (repeat unfold Loc at hF)))
        go_ret2
        exact ⟨v, by simp [H.out], by rw [H.out]; exact hown.mono (by omega), (by repeat (first | exact Below.refl _ _ | assumption | (with_reducible exact Env.below (by assumption)) | (with_reducible refine below_new ?_ _) | (with_reducible refine below_drew ?_) | (with_reducible refine below_drewN ?_ _) | (with_reducible refine below_put ?_ ?_ _; rotate_left 1; (dsimp only; omega)) | (refine below_then ?_ (by assumption))))⟩
  · have h1 : wchk k s e = 8 := by simp [wchk, hok]
    have h3 : wof k s e t = ([], 8) := by simp [wof, hok]
    have H := Lib.hid h3
    clear h3 hok
    go_enter Try.func44, Try.ntmps44
    go_wp2_with (go_at_call 58; refine (rwindow_any _ _ _ we _).mono ?_; rintro r w1 ⟨rfl, hb1⟩; replace hL := (by with_reducible first | exact hL.below hb1 | exact (hL.new _ _).below hb1 | exact ((hL.new _ _).new _ _).below hb1 | exact (((hL.new _ _).new _ _).new _ _).below hb1 | exact ((((hL.new _ _).new _ _).new _ _).new _ _).below hb1); (repeat rw [World.size_alloc] at hL); have hF := hL; (repeat unfold Loc at hF))
    go_ret2
    exact ⟨.slice none 0 0, by simp [H.out], by rw [H.out]; exact Own.nil _ _ _, (by repeat (first | exact Below.refl _ _ | assumption | (with_reducible exact Env.below (by assumption)) | (with_reducible refine below_new ?_ _) | (with_reducible refine below_drew ?_) | (with_reducible refine below_drewN ?_ _) | (with_reducible refine below_put ?_ ?_ _; rotate_left 1; (dsimp only; omega)) | (refine below_then ?_ (by assumption))))⟩
end Go.Proofs.Ytkpgigkcnmjbdaa
