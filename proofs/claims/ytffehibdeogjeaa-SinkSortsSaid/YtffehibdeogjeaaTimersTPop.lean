/- The contract of timers.Pop (chapter 18). Condition: a list of at most 2^40 timers. -/
import Derived.Test.YtffehibdeogjeaaTimersPop
import Derived.Test.YtffehibdeogjeaaTimersRPush
namespace Go.Proofs.Ytffehibdeogjeaa
open Go.RowKit

theorem results_cell_tmp2 {fn : Func} {p u v : Tmp} {ty : TypeId} (h : fn.results = #[.cell p ty, .tmp u, .tmp v]) (tmps : Array Value) (P : Program) (w : World) :
    (results fn tmps).run P w =
      ((asAddr (tmps.getD p undef)).run P w).andThen fun a w₁ => ((loadVar ty a).run P w₁).andThen fun x w₂ => .ok (.tuple #[x, tmps.getD u undef, tmps.getD v undef]) w₂ := by
  simp only [results, h]
  simp [Sem.run_bind, Result.andThen]

/-- What Pop gives. -/
noncomputable def tpopl (l : List Tm) : Tm × List Tm × Int := if tck l ≠ 0 then (t0, [], tck l) else if l.length = 0 then (t0, [], 6) else (l.getD 0 t0, popL tlt t0 l, 0)

set_option maxHeartbeats 8000000 in
set_option maxRecDepth 100000 in
theorem tpop_any (A : Option Addr) (c : Nat) (l : List Tm) (w : World) (hn : l.length ≤ 1099511627776) (hr : Rd tenc 3 w w.heap.size A l) :
    Calls Try.prog 32 #[.slice A l.length c] w fun e w' =>
      ∃ v, e = .returned (.tuple #[.agg #[.int .i64 (tpopl l).1.s, .int .i64 (tpopl l).1.e, .int .i64 (tpopl l).1.k], v, .int .i64 (tpopl l).2.2]) ∧ Own tenc 3 w' w.heap.size 34 v (tpopl l).2.1 ∧ Below w.heap.size w w' := by
  have hck := fun W (h : Rd tenc 3 W W.heap.size A l) => tcheck_any A c l W hn h
  have hro := fun W (h : Rd tenc 3 W W.heap.size A l) => room_any A c l W hn h
  obtain ⟨n, hn'⟩ : ∃ n, n = l.length := ⟨_, rfl⟩
  rw [← hn'] at hn hck hro ⊢
  have HN := Lib.hid hn'; have HCK := Lib.hid hck; have HRO := Lib.hid hro
  clear hn' hck hro
  have hL : Loc w [] := trivial
  obtain ⟨q, hq⟩ : ∃ q, q = tck l := ⟨_, rfl⟩
  have HQ := Lib.hid hq
  by_cases h0 : q = 0
  · have b0 : (q != 0) = false := by simp [h0]
    by_cases hz : n = 0
    · have b1 : ((n : Int) == 0) = true := by simp [hz]
      have hs : tpopl l = (t0, [], 6) := by unfold tpopl; rw [if_neg (by rw [← hq, h0]; simp), if_pos (by rw [← HN.out]; exact hz)]
      have HS := Lib.hid hs
      clear hs h0 hq hz
      go_enter Try.func32, Try.ntmps32
      go_wp2_with (first
        | (go_at_call 24; refine (HCK.out _ (rd_grown hr (by repeat (first | with_reducible exact Below.refl _ _ | with_reducible assumption | (with_reducible exact Env.below (by assumption)) | (with_reducible refine below_new ?_ _) | (with_reducible refine below_drew ?_) | (with_reducible refine below_drewN ?_ _) | (with_reducible refine below_put ?_ ?_ _; rotate_left 1; (dsimp only; omega)) | (with_reducible refine below_then ?_ (by assumption)))))).mono ?_; rw [← HQ.out]; rintro e w1 ⟨rfl, hb1⟩; replace hL := (by with_reducible first | exact hL.below hb1 | exact (hL.new _ _).below hb1 | exact ((hL.new _ _).new _ _).below hb1 | exact (((hL.new _ _).new _ _).new _ _).below hb1 | exact ((((hL.new _ _).new _ _).new _ _).new _ _).below hb1); (repeat rw [World.size_alloc] at hL); have hF := hL; (repeat unfold Loc at hF)))
      refine bodyPost_ret (v := _) (by rw [results_cell_tmp2 Try.results32]; go_simp; rfl) rfl ?_
      exact ⟨.slice none 0 0, by simp [HS.out, t0], by rw [HS.out]; exact Own.nil _ _ _, (by repeat (first | with_reducible exact Below.refl _ _ | with_reducible assumption | (with_reducible exact Env.below (by assumption)) | (with_reducible refine below_new ?_ _) | (with_reducible refine below_drew ?_) | (with_reducible refine below_drewN ?_ _) | (with_reducible refine below_put ?_ ?_ _; rotate_left 1; (dsimp only; omega)) | (with_reducible refine below_then ?_ (by assumption))))⟩
    · obtain ⟨x0, hx0⟩ : ∃ x, l[0]? = some x := ⟨_, List.getElem?_eq_getElem (by rw [← HN.out]; omega)⟩
      have b1 : ((n : Int) == 0) = false := by simp [hz]
      obtain ⟨m, hm⟩ : ∃ m, n = m + 1 := ⟨n - 1, by omega⟩
      have hs : tpopl l = (x0, popL tlt t0 l, 0) := by unfold tpopl; rw [if_neg (by rw [← hq, h0]; simp), if_neg (by rw [← HN.out]; exact hz), getD_some hx0]
      have HS := Lib.hid hs; have HX := Lib.hid hx0; have HM := Lib.hid hm
      clear hs h0 hq hz hx0 hm
      go_enter Try.func32, Try.ntmps32
      go_wp2_with (first
        | (go_at_call 24; refine (HCK.out _ (rd_grown hr (by repeat (first | with_reducible exact Below.refl _ _ | with_reducible assumption | (with_reducible exact Env.below (by assumption)) | (with_reducible refine below_new ?_ _) | (with_reducible refine below_drew ?_) | (with_reducible refine below_drewN ?_ _) | (with_reducible refine below_put ?_ ?_ _; rotate_left 1; (dsimp only; omega)) | (with_reducible refine below_then ?_ (by assumption)))))).mono ?_; rw [← HQ.out]; rintro e w1 ⟨rfl, hb1⟩; replace hL := (by with_reducible first | exact hL.below hb1 | exact (hL.new _ _).below hb1 | exact ((hL.new _ _).new _ _).below hb1 | exact (((hL.new _ _).new _ _).new _ _).below hb1 | exact ((((hL.new _ _).new _ _).new _ _).new _ _).below hb1); (repeat rw [World.size_alloc] at hL); have hF := hL; (repeat unfold Loc at hF))
        | (go_at_call 72; refine (HRO.out _ (rd_grown hr (by repeat (first | with_reducible exact Below.refl _ _ | with_reducible assumption | (with_reducible exact Env.below (by assumption)) | (with_reducible refine below_new ?_ _) | (with_reducible refine below_drew ?_) | (with_reducible refine below_drewN ?_ _) | (with_reducible refine below_put ?_ ?_ _; rotate_left 1; (dsimp only; omega)) | (with_reducible refine below_then ?_ (by assumption)))))).mono ?_; rintro e w2 ⟨g, rfl, hown2, hb2⟩; have hbg := World.ownsRow.lt hown2 g rfl)
        | (go_at_call 73; refine (pop_any g (n + 1) n m _ l x0 _ HN.out.symm HM.out hn HX.out hown2).mono ?_; rintro e w3 ⟨rfl, hown3, hg3⟩; have hb3 := hb2.grown hg3 hb2.size (fun k hk => (by cases hk; exact hbg.1)); replace hL := (by with_reducible first | exact hL.below hb3 | exact (hL.new _ _).below hb3 | exact ((hL.new _ _).new _ _).below hb3 | exact (((hL.new _ _).new _ _).new _ _).below hb3 | exact ((((hL.new _ _).new _ _).new _ _).new _ _).below hb3); (repeat rw [World.size_alloc] at hL); have hF := hL; (repeat unfold Loc at hF)))
      refine bodyPost_ret (v := _) (by rw [results_cell_tmp2 Try.results32]; go_simp; rfl) rfl ?_
      have hs1 := hb1.size
      rw [World.size_alloc] at hs1
      exact ⟨.slice (some ⟨g, 0, none⟩) m (n + 1), by simp [HS.out], by rw [HS.out]; exact ((hown3.mono (base' := w.heap.size) (by omega)).grown (putW_grown w.heap.size 0 [_, _, _] 0 w3) (.inr (by simp [Value.ownBlock]; omega))).alloc _, (by repeat (first | with_reducible exact Below.refl _ _ | with_reducible assumption | (with_reducible exact Env.below (by assumption)) | (with_reducible refine below_new ?_ _) | (with_reducible refine below_drew ?_) | (with_reducible refine below_drewN ?_ _) | (with_reducible refine below_put ?_ ?_ _; rotate_left 1; (dsimp only; omega)) | (with_reducible refine below_then ?_ (by assumption))))⟩
  · have b0 : (q != 0) = true := by simp [h0]
    have hs : tpopl l = (t0, [], q) := by unfold tpopl; rw [if_pos (by rw [← hq]; exact h0), ← hq]
    have HS := Lib.hid hs
    clear hs h0 hq
    go_enter Try.func32, Try.ntmps32
    go_wp2_with (first
      | (go_at_call 24; refine (HCK.out _ (rd_grown hr (by repeat (first | with_reducible exact Below.refl _ _ | with_reducible assumption | (with_reducible exact Env.below (by assumption)) | (with_reducible refine below_new ?_ _) | (with_reducible refine below_drew ?_) | (with_reducible refine below_drewN ?_ _) | (with_reducible refine below_put ?_ ?_ _; rotate_left 1; (dsimp only; omega)) | (with_reducible refine below_then ?_ (by assumption)))))).mono ?_; rw [← HQ.out]; rintro e w1 ⟨rfl, hb1⟩; replace hL := (by with_reducible first | exact hL.below hb1 | exact (hL.new _ _).below hb1 | exact ((hL.new _ _).new _ _).below hb1 | exact (((hL.new _ _).new _ _).new _ _).below hb1 | exact ((((hL.new _ _).new _ _).new _ _).new _ _).below hb1); (repeat rw [World.size_alloc] at hL); have hF := hL; (repeat unfold Loc at hF)))
    refine bodyPost_ret (v := _) (by rw [results_cell_tmp2 Try.results32]; go_simp; rfl) rfl ?_
    exact ⟨.slice none 0 0, by simp [HS.out, t0], by rw [HS.out]; exact Own.nil _ _ _, (by repeat (first | with_reducible exact Below.refl _ _ | with_reducible assumption | (with_reducible exact Env.below (by assumption)) | (with_reducible refine below_new ?_ _) | (with_reducible refine below_drew ?_) | (with_reducible refine below_drewN ?_ _) | (with_reducible refine below_put ?_ ?_ _; rotate_left 1; (dsimp only; omega)) | (with_reducible refine below_then ?_ (by assumption))))⟩
end Go.Proofs.Ytffehibdeogjeaa
