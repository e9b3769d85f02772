/- Lemmas and contracts for the statement, joined into one text: SlideOf. The conditions of each stand at its head. -/
import Derived.Test.YtnljihjhmgpcoaaGreatJ1
import Derived.Test.YtnljihjhmgpcoaaGreatJ15
import Derived.Test.YtnljihjhmgpcoaaGreatJ10
namespace Go.Proofs.YtnljihjhmgpcoaaGreat
open Go.RowKit Go.WideShapes Go.ChangeShapes Go.ChangeAt
theorem wf_i64 {n : Int} (h1 : -1099511627776 ≤ n) (h2 : n ≤ 1099511627776) : (Lit.int .i64 n).wf = true := WalkArith.wf_i64 (by omega)
set_option maxHeartbeats 2000000 in
theorem slof_any (k s e t : Int) (we : (Lit.int .i64 e).wf = true) (w : World) :
  Calls Tryz.prog 39 #[.agg #[.int .u8 k, .int .i64 s, .int .i64 e], .int .i64 t] w fun r w' => ∃ v, r = .returned (.tuple #[v, .int .i64 (wof k s e t).2]) ∧ Own senc 2 w' w.heap.size 59 v (wof k s e t).1 ∧ Below w.heap.size w w' := by
 have hL : Loc w [] := trivial
 by_cases hok : wok k s e
 ·have h1 : wchk k s e = 0 := by simp [wchk, hok]
  have hok' := hok
  obtain ⟨⟨s1, s2⟩, hd⟩ := hok'
  rcases hd with ⟨rfl, e1, e2, e3⟩ | ⟨rfl | rfl, rfl⟩
  ·have hsr : sright s e := ⟨s1, e1, s2, e2, e3⟩
   have h3 : wof 2 s e t = rall t s e := by
    simp [wof, rall, wspans, hok, hsr]
   have H := Lib.hid h3
   clear h3 hok
   go_enter Tryz.func39, Tryz.ntmps39
   go_wp2_with (first | (go_at_call 53; refine (window_any _ _ _ we _).mono ?_; rintro r w1 ⟨rfl, hb1⟩; replace hL := kp hb1; (repeat rw [World.size_alloc] at hL); have hF := hL; (repeat unfold Loc at hF)) | (go_at_call 76; refine (sall_any _ _ _ (wf_i64 (by omega) (by omega)) we _).mono ?_; rintro r w1 ⟨v, rfl, hown, hb1⟩; replace hL := kp hb1; (repeat rw [World.size_alloc] at hL); have hF := hL; (repeat unfold Loc at hF)))
   go_ret2
   exact ⟨v, by simp [H.out], by rw [H.out]; exact hown.mono (by have := hF.1; omega), bel⟩
  ·have hwin := Lib.hid hok
   by_cases ht : t < -1099511627776 ∨ 1099511627776 < t
   ·have h3 : wof 1 s 0 t = ([], 16) := by unfold wof; rw [if_neg (by simp [hok]), if_neg (by decide), if_pos ht]
    have h2 : tchk t s = 16 := by unfold tchk; rw [if_neg (by omega), if_pos ht]
    have H := Lib.hid h3
    clear h3 hok ht
    go_enter Tryz.func39, Tryz.ntmps39
    go_wp2_with (first | (go_at_call 53; refine (window_any _ _ _ we _).mono ?_; rintro r w1 ⟨rfl, hb1⟩; replace hL := kp hb1; (repeat rw [World.size_alloc] at hL); have hF := hL; (repeat unfold Loc at hF)) | (go_at_call 36; refine (of_any _ _ _).mono ?_; rintro r w1 ⟨rfl, hb1⟩; replace hL := kp hb1; (repeat rw [World.size_alloc] at hL); have hF := hL; (repeat unfold Loc at hF)))
    go_ret2
    exact ⟨.slice none 0 0, by simp [H.out], by rw [H.out]; exact Own.nil _ _ _, bel⟩
   ·have h3 : wof 1 s 0 t = ([tspan t s], 0) := by unfold wof wspans; rw [if_neg (by simp [hok]), if_neg (by decide), if_neg ht, if_pos rfl]
    have h2 : tchk t s = 0 := by unfold tchk; rw [if_neg (by omega), if_neg ht]
    have H := Lib.hid h3
    clear h3 hok ht
    go_enter Tryz.func39, Tryz.ntmps39
    go_wp2_with (first | (go_at_call 53; refine (window_any _ _ _ we _).mono ?_; rintro r w1 ⟨rfl, hb1⟩; replace hL := kp hb1; (repeat rw [World.size_alloc] at hL); have hF := hL; (repeat unfold Loc at hF)) | (go_at_call 36; refine (of_any _ _ _).mono ?_; rintro r w1 ⟨rfl, hb1⟩; replace hL := kp hb1; (repeat rw [World.size_alloc] at hL); have hF := hL; (repeat unfold Loc at hF)))
    go_ret2
    exact ⟨.slice (some ⟨w1.heap.size + 1, 0, none⟩) 1 1, by simp [H.out], by rw [H.out]; exact Own.made (enc := senc) (sz := 2) (fun _ => rfl) _ w.heap.size 59 [tspan t s] (w1.heap.size + 1) (by simp) (by have := hF.1; omega) (by simp [maxLen]), bel⟩
  ·have h3 : wof 3 s 0 t = ([], 2) := by unfold wof; rw [if_neg (by simp [hok]), if_pos rfl]
   have H := Lib.hid h3
   clear h3 hok
   go_enter Tryz.func39, Tryz.ntmps39
   go_wp2_with (go_at_call 53; refine (window_any _ _ _ we _).mono ?_; rintro r w1 ⟨rfl, hb1⟩; replace hL := kp hb1; (repeat rw [World.size_alloc] at hL); have hF := hL; (repeat unfold Loc at hF))
   go_ret2
   exact ⟨.slice none 0 0, by simp [H.out], by rw [H.out]; exact Own.nil _ _ _, bel⟩
 ·have h1 : wchk k s e = 8 := by simp [wchk, hok]
  have h3 : wof k s e t = ([], 8) := by simp [wof, hok]
  have H := Lib.hid h3
  clear h3 hok
  go_enter Tryz.func39, Tryz.ntmps39
  go_wp2_with (go_at_call 53; refine (window_any _ _ _ we _).mono ?_; rintro r w1 ⟨rfl, hb1⟩; replace hL := kp hb1; (repeat rw [World.size_alloc] at hL); have hF := hL; (repeat unfold Loc at hF))
  go_ret2
  exact ⟨.slice none 0 0, by simp [H.out], by rw [H.out]; exact Own.nil _ _ _, bel⟩
end Go.Proofs.YtnljihjhmgpcoaaGreat
