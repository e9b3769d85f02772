/- The contract of slide.Of: the reference's windows and error, at every window and time; and of the law's own helpers has, alive, fit. No condition but those that each names. -/
import Derived.Test.YtkpgigkcnmjbdaaSlideAll
import Derived.Test.YtkpgigkcnmjbdaaAccumsOf
namespace Go.Proofs.Ytkpgigkcnmjbdaa
open Go.RowKit Go.WideShapes Go.ChangeShapes Go.ChangeAt

theorem wf_i64 {n : Int} (h1 : -1099511627776 ≤ n) (h2 : n ≤ 1099511627776) : (Lit.int .i64 n).wf = true := WalkArith.wf_i64 (by omega)

set_option maxHeartbeats 2000000 in
theorem sof_any (k s e t : Int) (we : (Lit.int .i64 e).wf = true) (w : World) :
    Calls Try.prog 43 #[.agg #[.int .u8 k, .int .i64 s, .int .i64 e], .int .i64 t] w fun r w' => ∃ v, r = .returned (.tuple #[v, .int .i64 (wof k s e t).2]) ∧ Own senc 2 w' w.heap.size 23 v (wof k s e t).1 ∧ Below w.heap.size w w' := by
  have hL : Loc w [] := trivial
  by_cases hok : wok k s e
  · have h1 : wchk k s e = 0 := by simp [wchk, hok]
    have hok' := hok
    obtain ⟨⟨s1, s2⟩, hd⟩ := hok'
    rcases hd with ⟨rfl, e1, e2, e3⟩ | ⟨rfl | rfl, rfl⟩
    · have hsr : sright s e := ⟨s1, e1, s2, e2, e3⟩
      have h3 : wof 2 s e t = rall t s e := by
        simp [wof, rall, wspans, hok, hsr]
      have H := Lib.hid h3
      clear h3 hok
      go_enter Try.func43, Try.ntmps43
      go_wp2_with (first | (go_at_call 57; refine (window_any _ _ _ we _).mono ?_; rintro r w1 ⟨rfl, hb1⟩; replace hL := (by with_reducible first | exact hL.below hb1 | exact (hL.new _ _).below hb1 | exact ((hL.new _ _).new _ _).below hb1 | exact (((hL.new _ _).new _ _).new _ _).below hb1 | exact ((((hL.new _ _).new _ _).new _ _).new _ _).below hb1); (repeat rw [World.size_alloc] at hL); have hF := hL; (repeat unfold Loc at hF)) | (go_at_call 39; refine (sall_any _ _ _ (wf_i64 (by omega) (by omega)) we _).mono ?_; rintro r w1 ⟨v, rfl, hown, hb1⟩; replace hL := (by with_reducible first | exact hL.below hb1 | exact (hL.new _ _).below hb1 | exact ((hL.new _ _).new _ _).below hb1 | exact (((hL.new _ _).new _ _).new _ _).below hb1 | exact ((((hL.new _ _).new _ _).new _ _).new _ _).below hb1); (repeat rw [World.size_alloc] at hL); have hF := hL; (repeat unfold Loc at hF)))
      go_ret2
      exact ⟨v, by simp [H.out], by rw [H.out]; exact hown.mono (by have := hF.1; omega), (by repeat (first | exact Below.refl _ _ | assumption | (with_reducible exact Env.below (by assumption)) | (with_reducible refine below_new ?_ _) | (with_reducible refine below_drew ?_) | (with_reducible refine below_drewN ?_ _) | (with_reducible refine below_put ?_ ?_ _; rotate_left 1; (dsimp only; omega)) | (refine below_then ?_ (by assumption))))⟩
    · have hwin := Lib.hid hok
      by_cases ht : t < -1099511627776 ∨ 1099511627776 < t
      · have h3 : wof 1 s 0 t = ([], 16) := by unfold wof; rw [if_neg (by simp [hok]), if_neg (by decide), if_pos ht]
        have h2 : tchk t s = 16 := by unfold tchk; rw [if_neg (by omega), if_pos ht]
        have H := Lib.hid h3
        clear h3 hok ht
        go_enter Try.func43, Try.ntmps43
        go_wp2_with (first | (go_at_call 57; refine (window_any _ _ _ we _).mono ?_; rintro r w1 ⟨rfl, hb1⟩; replace hL := (by with_reducible first | exact hL.below hb1 | exact (hL.new _ _).below hb1 | exact ((hL.new _ _).new _ _).below hb1 | exact (((hL.new _ _).new _ _).new _ _).below hb1 | exact ((((hL.new _ _).new _ _).new _ _).new _ _).below hb1); (repeat rw [World.size_alloc] at hL); have hF := hL; (repeat unfold Loc at hF)) | (go_at_call 21; refine (of_any _ _ _).mono ?_; rintro r w1 ⟨rfl, hb1⟩; replace hL := (by with_reducible first | exact hL.below hb1 | exact (hL.new _ _).below hb1 | exact ((hL.new _ _).new _ _).below hb1 | exact (((hL.new _ _).new _ _).new _ _).below hb1 | exact ((((hL.new _ _).new _ _).new _ _).new _ _).below hb1); (repeat rw [World.size_alloc] at hL); have hF := hL; (repeat unfold Loc at hF)))
        go_ret2
        exact ⟨.slice none 0 0, by simp [H.out], by rw [H.out]; exact Own.nil _ _ _, (by repeat (first | exact Below.refl _ _ | assumption | (with_reducible exact Env.below (by assumption)) | (with_reducible refine below_new ?_ _) | (with_reducible refine below_drew ?_) | (with_reducible refine below_drewN ?_ _) | (with_reducible refine below_put ?_ ?_ _; rotate_left 1; (dsimp only; omega)) | (refine below_then ?_ (by assumption))))⟩
      · have h3 : wof 1 s 0 t = ([tspan t s], 0) := by unfold wof wspans; rw [if_neg (by simp [hok]), if_neg (by decide), if_neg ht, if_pos rfl]
        have h2 : tchk t s = 0 := by unfold tchk; rw [if_neg (by omega), if_neg ht]
        have H := Lib.hid h3
        clear h3 hok ht
        go_enter Try.func43, Try.ntmps43
        go_wp2_with (first | (go_at_call 57; refine (window_any _ _ _ we _).mono ?_; rintro r w1 ⟨rfl, hb1⟩; replace hL := (by with_reducible first | exact hL.below hb1 | exact (hL.new _ _).below hb1 | exact ((hL.new _ _).new _ _).below hb1 | exact (((hL.new _ _).new _ _).new _ _).below hb1 | exact ((((hL.new _ _).new _ _).new _ _).new _ _).below hb1); (repeat rw [World.size_alloc] at hL); have hF := hL; (repeat unfold Loc at hF)) | (go_at_call 21; refine (of_any _ _ _).mono ?_; rintro r w1 ⟨rfl, hb1⟩; replace hL := (by with_reducible first | exact hL.below hb1 | exact (hL.new _ _).below hb1 | exact ((hL.new _ _).new _ _).below hb1 | exact (((hL.new _ _).new _ _).new _ _).below hb1 | exact ((((hL.new _ _).new _ _).new _ _).new _ _).below hb1); (repeat rw [World.size_alloc] at hL); have hF := hL; (repeat unfold Loc at hF)))
        go_ret2
        exact ⟨.slice (some ⟨w1.heap.size + 1, 0, none⟩) 1 1, by simp [H.out], by rw [H.out]; exact Own.made (enc := senc) (sz := 2) (fun _ => rfl) _ w.heap.size 23 [tspan t s] (w1.heap.size + 1) (by simp) (by have := hF.1; omega) (by simp [maxLen]), (by repeat (first | exact Below.refl _ _ | assumption | (with_reducible exact Env.below (by assumption)) | (with_reducible refine below_new ?_ _) | (with_reducible refine below_drew ?_) | (with_reducible refine below_drewN ?_ _) | (with_reducible refine below_put ?_ ?_ _; rotate_left 1; (dsimp only; omega)) | (refine below_then ?_ (by assumption))))⟩
    · have h3 : wof 3 s 0 t = ([], 2) := by unfold wof; rw [if_neg (by simp [hok]), if_pos rfl]
      have H := Lib.hid h3
      clear h3 hok
      go_enter Try.func43, Try.ntmps43
      go_wp2_with (go_at_call 57; refine (window_any _ _ _ we _).mono ?_; rintro r w1 ⟨rfl, hb1⟩; replace hL := (by with_reducible first | exact hL.below hb1 | exact (hL.new _ _).below hb1 | exact ((hL.new _ _).new _ _).below hb1 | exact (((hL.new _ _).new _ _).new _ _).below hb1 | exact ((((hL.new _ _).new _ _).new _ _).new _ _).below hb1); (repeat rw [World.size_alloc] at hL); have hF := hL; (repeat unfold Loc at hF))
      go_ret2
      exact ⟨.slice none 0 0, by simp [H.out], by rw [H.out]; exact Own.nil _ _ _, (by repeat (first | exact Below.refl _ _ | assumption | (with_reducible exact Env.below (by assumption)) | (with_reducible refine below_new ?_ _) | (with_reducible refine below_drew ?_) | (with_reducible refine below_drewN ?_ _) | (with_reducible refine below_put ?_ ?_ _; rotate_left 1; (dsimp only; omega)) | (refine below_then ?_ (by assumption))))⟩
  · have h1 : wchk k s e = 8 := by simp [wchk, hok]
    have h3 : wof k s e t = ([], 8) := by simp [wof, hok]
    have H := Lib.hid h3
    clear h3 hok
    go_enter Try.func43, Try.ntmps43
    go_wp2_with (go_at_call 57; refine (window_any _ _ _ we _).mono ?_; rintro r w1 ⟨rfl, hb1⟩; replace hL := (by with_reducible first | exact hL.below hb1 | exact (hL.new _ _).below hb1 | exact ((hL.new _ _).new _ _).below hb1 | exact (((hL.new _ _).new _ _).new _ _).below hb1 | exact ((((hL.new _ _).new _ _).new _ _).new _ _).below hb1); (repeat rw [World.size_alloc] at hL); have hF := hL; (repeat unfold Loc at hF))
    go_ret2
    exact ⟨.slice none 0 0, by simp [H.out], by rw [H.out]; exact Own.nil _ _ _, (by repeat (first | exact Below.refl _ _ | assumption | (with_reducible exact Env.below (by assumption)) | (with_reducible refine below_new ?_ _) | (with_reducible refine below_drew ?_) | (with_reducible refine below_drewN ?_ _) | (with_reducible refine below_put ?_ ?_ _; rotate_left 1; (dsimp only; omega)) | (refine below_then ?_ (by assumption))))⟩

theorem sright_ex : sright 10 4 := by decide
set_option maxHeartbeats 2000000 in
theorem has_any (t : Int) (A : Option Addr) (cap : Nat) (xs : List Int) (w : World) (hr : Rd ienc 1 w w.heap.size A xs) (ht1 : -1099511627776 ≤ t) (ht2 : t ≤ 1099511627776) (hl : swins t 10 4 = xs.map fun s => (s, s + 10))
    (hx : ∀ x ∈ xs, -1099511627776 ≤ x ∧ x ≤ 1099511627776) (hn : xs.length ≤ 100) :
    Calls Try.prog 52 #[.int .i64 t, .slice A xs.length cap] w fun e w' => e = .returned (.bool true) ∧ Below w.heap.size w w' := by
  obtain ⟨n, hn'⟩ : ∃ n, n = xs.length := ⟨_, rfl⟩
  have hlen : (swins t 10 4).length = n := by rw [hl, hn']; simp
  rw [← hn'] at hn ⊢
  have HN := Lib.hid hn'; have HL := Lib.hid hlen; have HS := Lib.hid hl
  clear hn' hlen hl
  go_enter Try.func52, Try.ntmps52
  go_wp2_with (go_at_call 39; refine (sall_ok _ _ _ _ sright_ex ht1 ht2).mono ?_; rintro r w1 ⟨v, rfl, hown, hb⟩; obtain ⟨A', c', rfl, hlc, hcm, -⟩ := hown.form; have hs := Own.rd (enc := senc) (sz := 2) (fun _ => rfl) hown; rw [HL.out] at hlc ⊢)
  clear hown
  go_loopw [7] (fun i wr => ∃ k : Nat, k ≤ n ∧ i = .int .i64 k ∧ ∃ q : Nat, wr = w1.drewN q) (fun i _ => n - (intOf i).toNat)
  case atStart => exact ⟨0, Nat.zero_le _, rfl, 0, rfl⟩
  case round =>
    obtain ⟨k, hk, rfl, q, rfl⟩ := hrel
    by_cases hlt : k < n
    · have hkx : k < xs.length := by rw [← HN.out]; exact hlt
      have hx1 := List.getElem?_eq_getElem hkx
      have hx2 := hx _ (List.getElem_mem hkx)
      have hx3 : (swins t 10 4)[k]? = some (xs[k], xs[k] + 10) := by rw [HS.out, List.getElem?_map, hx1]; rfl
      obtain ⟨x, hxe⟩ : ∃ x, x = xs[k] := ⟨_, rfl⟩
      rw [← hxe] at hx1 hx2 hx3
      obtain ⟨b, off, rfl, hb1, f0⟩ := hr.at_ hx1
      have f1 : w.cell? ⟨b, off + k, none⟩ = some (.int .i64 x) := by simpa using f0 0 _ rfl
      have f2 := (hb.cell (p := ⟨b, off + k, none⟩) hb1).trans f1
      obtain ⟨b', off', rfl, hb2, g1, g2⟩ := span_cells hs hx3
      obtain ⟨x5, x6⟩ := hx2
      dsimp only at g1 g2
      clear hx1 hx3 hxe f0 f1 hr hs hx
      go_wp2
      go_quiet (fail)
      go_wp2
      go_roundw
      case rel => exact ⟨k + 1, by omega, by go_num, _, rfl⟩
      case measure => simp [intOf]; omega
    · obtain rfl : k = n := by omega
      go_wp2
      go_ret
      exact ⟨rfl, (by repeat (first | exact Below.refl _ _ | assumption | (with_reducible exact Env.below (by assumption)) | (with_reducible refine below_new ?_ _) | (with_reducible refine below_drew ?_) | (with_reducible refine below_drewN ?_ _) | (with_reducible refine below_put ?_ ?_ _; rotate_left 1; (dsimp only; omega)) | (refine below_then ?_ (by assumption))))⟩
end Go.Proofs.Ytkpgigkcnmjbdaa
