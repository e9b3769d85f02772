/- The contract of the reference's Push (chapter 18). Condition: a list that lies at an address, of at most 2^40 timers. -/
import Derived.Test.YtffehibdeogjeaaTimersRCheck
namespace Go.Proofs.Ytffehibdeogjeaa
open Go.RowKit

theorem rd_grown {α : Type} {enc : α → List Value} {sz : Nat} {w W : World} {A : Option Addr} {l : List α} (h : Rd enc sz w w.heap.size A l) (hb : Below w.heap.size w W) : Rd enc sz W W.heap.size A l := h.grow hb
noncomputable def tpush (l : List Tm) (t : Tm) : List Tm × Int := if tck l ≠ 0 then ([], tck l) else if ¬ tok t then ([], 8) else if 4000 ≤ l.length then ([], 18) else (pushL tlt t0 l t, 0)
theorem tck_range (l : List Tm) : tck l = 0 ∨ tck l = 4 ∨ tck l = 8 := by unfold tck; split; simp; split <;> simp

set_option maxHeartbeats 8000000 in
set_option maxRecDepth 100000 in
theorem rpush_any (b off c : Nat) (l : List Tm) (t : Tm) (w : World) (hn : l.length ≤ 1099511627776) (hbB : b < w.heap.size) (hr : Rd tenc 3 w w.heap.size (some ⟨b, off, none⟩) l) :
    Calls Try.prog 31 #[.slice (some ⟨b, off, none⟩) l.length c, .agg #[.int .i64 t.s, .int .i64 t.e, .int .i64 t.k]] w fun e w' =>
      ∃ v, e = .returned (.tuple #[v, .int .i64 (tpush l t).2]) ∧ Own tenc 3 w' w.heap.size 34 v (tpush l t).1 ∧ Below w.heap.size w w' := by
  have hck := fun W (h : Rd tenc 3 W W.heap.size (some ⟨b, off, none⟩) l) => rtcheck_any (some ⟨b, off, none⟩) c l W hn h
  have hpu := fun W (hb : b < W.heap.size) (h : Rd tenc 3 W W.heap.size (some ⟨b, off, none⟩) l) => rpushed_any b off c l t W hn hb h
  obtain ⟨n, hn'⟩ : ∃ n, n = l.length := ⟨_, rfl⟩
  rw [← hn'] at hn hck hpu ⊢
  have HN := Lib.hid hn'; have HCK := Lib.hid hck; have HPU := Lib.hid hpu
  clear hn' hck hpu
  have hL : Loc w [] := trivial
  obtain ⟨q, hq⟩ : ∃ q, q = tck l := ⟨_, rfl⟩
  have HQ := Lib.hid hq
  by_cases h0 : q = 0
  · have b0 : (q != 0) = false := by simp [h0]
    by_cases hok : tok t
    · have b1 : decide (tok t) = true := by simp [hok]
      by_cases hf : 4000 ≤ n
      · have b2 : decide (4000 ≤ (n : Int)) = true := by simp; omega
        have b3 : decide (4000 ≤ n) = true := by simp [hf]
        have hs : tpush l t = ([], 18) := by unfold tpush; rw [if_neg (by rw [← hq, h0]; simp), if_neg (by simp [hok]), if_pos (by rw [← HN.out]; exact hf)]
        have HS := Lib.hid hs
        clear hs hf hok h0 hq
        go_enter Try.func31, Try.ntmps31
        go_wp2_with (first
          | (go_at_call 22; refine (HCK.out _ (rd_grown hr (by repeat (first | with_reducible exact Below.refl _ _ | with_reducible assumption | (with_reducible exact Env.below (by assumption)) | (with_reducible refine below_new ?_ _) | (with_reducible refine below_drew ?_) | (with_reducible refine below_drewN ?_ _) | (with_reducible refine below_put ?_ ?_ _; rotate_left 1; (dsimp only; omega)) | (with_reducible refine below_then ?_ (by assumption)))))).mono ?_; rw [← HQ.out]; rintro e w1 ⟨rfl, hb1⟩; replace hL := (by with_reducible first | exact hL.below hb1 | exact (hL.new _ _).below hb1 | exact ((hL.new _ _).new _ _).below hb1 | exact (((hL.new _ _).new _ _).new _ _).below hb1 | exact ((((hL.new _ _).new _ _).new _ _).new _ _).below hb1); (repeat rw [World.size_alloc] at hL); have hF := hL; (repeat unfold Loc at hF))
          | (go_at_call 27; refine (rtright_any t _).mono ?_; rintro e w2 ⟨rfl, hb2⟩; replace hL := (by with_reducible first | exact hL.below hb2 | exact (hL.new _ _).below hb2 | exact ((hL.new _ _).new _ _).below hb2 | exact (((hL.new _ _).new _ _).new _ _).below hb2 | exact ((((hL.new _ _).new _ _).new _ _).new _ _).below hb2); (repeat rw [World.size_alloc] at hL); have hF := hL; (repeat unfold Loc at hF)))
        go_ret2
        exact ⟨.slice none 0 0, by simp [HS.out], by rw [HS.out]; exact Own.nil _ _ _, (by repeat (first | with_reducible exact Below.refl _ _ | with_reducible assumption | (with_reducible exact Env.below (by assumption)) | (with_reducible refine below_new ?_ _) | (with_reducible refine below_drew ?_) | (with_reducible refine below_drewN ?_ _) | (with_reducible refine below_put ?_ ?_ _; rotate_left 1; (dsimp only; omega)) | (with_reducible refine below_then ?_ (by assumption))))⟩
      · have b2 : decide (4000 ≤ (n : Int)) = false := by simp; omega
        have b3 : decide (4000 ≤ n) = false := by simp; omega
        have hs : tpush l t = (pushL tlt t0 l t, 0) := by unfold tpush; rw [if_neg (by rw [← hq, h0]; simp), if_neg (by simp [hok]), if_neg (by rw [← HN.out]; exact hf)]
        have HS := Lib.hid hs
        clear hs hf hok h0 hq
        go_enter Try.func31, Try.ntmps31
        go_wp2_with (first
          | (go_at_call 22; refine (HCK.out _ (rd_grown hr (by repeat (first | with_reducible exact Below.refl _ _ | with_reducible assumption | (with_reducible exact Env.below (by assumption)) | (with_reducible refine below_new ?_ _) | (with_reducible refine below_drew ?_) | (with_reducible refine below_drewN ?_ _) | (with_reducible refine below_put ?_ ?_ _; rotate_left 1; (dsimp only; omega)) | (with_reducible refine below_then ?_ (by assumption)))))).mono ?_; rw [← HQ.out]; rintro e w1 ⟨rfl, hb1⟩; replace hL := (by with_reducible first | exact hL.below hb1 | exact (hL.new _ _).below hb1 | exact ((hL.new _ _).new _ _).below hb1 | exact (((hL.new _ _).new _ _).new _ _).below hb1 | exact ((((hL.new _ _).new _ _).new _ _).new _ _).below hb1); (repeat rw [World.size_alloc] at hL); have hF := hL; (repeat unfold Loc at hF))
          | (go_at_call 27; refine (rtright_any t _).mono ?_; rintro e w2 ⟨rfl, hb2⟩; replace hL := (by with_reducible first | exact hL.below hb2 | exact (hL.new _ _).below hb2 | exact ((hL.new _ _).new _ _).below hb2 | exact (((hL.new _ _).new _ _).new _ _).below hb2 | exact ((((hL.new _ _).new _ _).new _ _).new _ _).below hb2); (repeat rw [World.size_alloc] at hL); have hF := hL; (repeat unfold Loc at hF))
          | (go_at_call 77; refine (HPU.out _ (Nat.lt_of_lt_of_le hbB (Below.size (by exact (by repeat (first | with_reducible exact Below.refl _ _ | with_reducible assumption | (with_reducible exact Env.below (by assumption)) | (with_reducible refine below_new ?_ _) | (with_reducible refine below_drew ?_) | (with_reducible refine below_drewN ?_ _) | (with_reducible refine below_put ?_ ?_ _; rotate_left 1; (dsimp only; omega)) | (with_reducible refine below_then ?_ (by assumption)))) : Below w.heap.size w _))) (rd_grown hr (by repeat (first | with_reducible exact Below.refl _ _ | with_reducible assumption | (with_reducible exact Env.below (by assumption)) | (with_reducible refine below_new ?_ _) | (with_reducible refine below_drew ?_) | (with_reducible refine below_drewN ?_ _) | (with_reducible refine below_put ?_ ?_ _; rotate_left 1; (dsimp only; omega)) | (with_reducible refine below_then ?_ (by assumption)))))).mono ?_; rintro e w3 ⟨v3, rfl, hown3, hb3⟩; replace hL := (by with_reducible first | exact hL.below hb3 | exact (hL.new _ _).below hb3 | exact ((hL.new _ _).new _ _).below hb3 | exact (((hL.new _ _).new _ _).new _ _).below hb3 | exact ((((hL.new _ _).new _ _).new _ _).new _ _).below hb3); (repeat rw [World.size_alloc] at hL); have hF := hL; (repeat unfold Loc at hF)))
        go_ret2
        exact ⟨v3, by simp [HS.out], by rw [HS.out]; exact hown3.mono (by omega), (by repeat (first | with_reducible exact Below.refl _ _ | with_reducible assumption | (with_reducible exact Env.below (by assumption)) | (with_reducible refine below_new ?_ _) | (with_reducible refine below_drew ?_) | (with_reducible refine below_drewN ?_ _) | (with_reducible refine below_put ?_ ?_ _; rotate_left 1; (dsimp only; omega)) | (with_reducible refine below_then ?_ (by assumption))))⟩
    · have b1 : decide (tok t) = false := by simp [hok]
      have hs : tpush l t = ([], 8) := by unfold tpush; rw [if_neg (by rw [← hq, h0]; simp), if_pos hok]
      have HS := Lib.hid hs
      clear hs hok h0 hq
      go_enter Try.func31, Try.ntmps31
      go_wp2_with (first
        | (go_at_call 22; refine (HCK.out _ (rd_grown hr (by repeat (first | with_reducible exact Below.refl _ _ | with_reducible assumption | (with_reducible exact Env.below (by assumption)) | (with_reducible refine below_new ?_ _) | (with_reducible refine below_drew ?_) | (with_reducible refine below_drewN ?_ _) | (with_reducible refine below_put ?_ ?_ _; rotate_left 1; (dsimp only; omega)) | (with_reducible refine below_then ?_ (by assumption)))))).mono ?_; rw [← HQ.out]; rintro e w1 ⟨rfl, hb1⟩; replace hL := (by with_reducible first | exact hL.below hb1 | exact (hL.new _ _).below hb1 | exact ((hL.new _ _).new _ _).below hb1 | exact (((hL.new _ _).new _ _).new _ _).below hb1 | exact ((((hL.new _ _).new _ _).new _ _).new _ _).below hb1); (repeat rw [World.size_alloc] at hL); have hF := hL; (repeat unfold Loc at hF))
        | (go_at_call 27; refine (rtright_any t _).mono ?_; rintro e w2 ⟨rfl, hb2⟩; replace hL := (by with_reducible first | exact hL.below hb2 | exact (hL.new _ _).below hb2 | exact ((hL.new _ _).new _ _).below hb2 | exact (((hL.new _ _).new _ _).new _ _).below hb2 | exact ((((hL.new _ _).new _ _).new _ _).new _ _).below hb2); (repeat rw [World.size_alloc] at hL); have hF := hL; (repeat unfold Loc at hF)))
      go_ret2
      exact ⟨.slice none 0 0, by simp [HS.out], by rw [HS.out]; exact Own.nil _ _ _, (by repeat (first | with_reducible exact Below.refl _ _ | with_reducible assumption | (with_reducible exact Env.below (by assumption)) | (with_reducible refine below_new ?_ _) | (with_reducible refine below_drew ?_) | (with_reducible refine below_drewN ?_ _) | (with_reducible refine below_put ?_ ?_ _; rotate_left 1; (dsimp only; omega)) | (with_reducible refine below_then ?_ (by assumption))))⟩
  · have b0 : (q != 0) = true := by simp [h0]
    have hs : tpush l t = ([], q) := by unfold tpush; rw [if_pos (by rw [← hq]; exact h0), ← hq]
    have HS := Lib.hid hs
    clear hs h0 hq
    go_enter Try.func31, Try.ntmps31
    go_wp2_with (first
      | (go_at_call 22; refine (HCK.out _ (rd_grown hr (by repeat (first | with_reducible exact Below.refl _ _ | with_reducible assumption | (with_reducible exact Env.below (by assumption)) | (with_reducible refine below_new ?_ _) | (with_reducible refine below_drew ?_) | (with_reducible refine below_drewN ?_ _) | (with_reducible refine below_put ?_ ?_ _; rotate_left 1; (dsimp only; omega)) | (with_reducible refine below_then ?_ (by assumption)))))).mono ?_; rw [← HQ.out]; rintro e w1 ⟨rfl, hb1⟩; replace hL := (by with_reducible first | exact hL.below hb1 | exact (hL.new _ _).below hb1 | exact ((hL.new _ _).new _ _).below hb1 | exact (((hL.new _ _).new _ _).new _ _).below hb1 | exact ((((hL.new _ _).new _ _).new _ _).new _ _).below hb1); (repeat rw [World.size_alloc] at hL); have hF := hL; (repeat unfold Loc at hF))
      | (go_at_call 27; refine (rtright_any t _).mono ?_; rintro e w2 ⟨rfl, hb2⟩; replace hL := (by with_reducible first | exact hL.below hb2 | exact (hL.new _ _).below hb2 | exact ((hL.new _ _).new _ _).below hb2 | exact (((hL.new _ _).new _ _).new _ _).below hb2 | exact ((((hL.new _ _).new _ _).new _ _).new _ _).below hb2); (repeat rw [World.size_alloc] at hL); have hF := hL; (repeat unfold Loc at hF)))
    go_ret2
    exact ⟨.slice none 0 0, by simp [HS.out], by rw [HS.out]; exact Own.nil _ _ _, (by repeat (first | with_reducible exact Below.refl _ _ | with_reducible assumption | (with_reducible exact Env.below (by assumption)) | (with_reducible refine below_new ?_ _) | (with_reducible refine below_drew ?_) | (with_reducible refine below_drewN ?_ _) | (with_reducible refine below_put ?_ ?_ _; rotate_left 1; (dsimp only; omega)) | (with_reducible refine below_then ?_ (by assumption))))⟩
end Go.Proofs.Ytffehibdeogjeaa
