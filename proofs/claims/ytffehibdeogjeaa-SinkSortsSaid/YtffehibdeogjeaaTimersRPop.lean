/- The contract of the reference's Pop (chapter 18). Condition: a list that lies at an address, with room for itself, of at most 2^40 timers. -/
import Derived.Test.YtffehibdeogjeaaTimersRPopped
namespace Go.Proofs.Ytffehibdeogjeaa
open Go.RowKit

/-- What a region keeps that stores into a box of the call's own. -/
def EnvBox (w0 : World) (b : Nat) (X : World) : Prop := Below w0.heap.size w0 X ∧ w0.heap.size ≤ b ∧ ∃ a1 a2 a3, Loc X [(b, [a1, a2, a3])]
theorem EnvBox.step {w0 X Y : World} {b : Nat} (h : EnvBox w0 b X) (hb : Below X.heap.size X Y) : EnvBox w0 b Y := by
  obtain ⟨h1, h2, a1, a2, a3, h3⟩ := h
  exact ⟨below_then h1 hb, h2, a1, a2, a3, h3.below hb⟩
theorem EnvBox.drew {w0 X : World} {b : Nat} (h : EnvBox w0 b X) : EnvBox w0 b X.drew := h.step (Below.drew (Below.refl _ _))
theorem EnvBox.put {w0 X : World} {b : Nat} (h : EnvBox w0 b X) (v1 v2 v3 : Value) : EnvBox w0 b (((X.setCell ⟨b, 0, none⟩ v1).setCell ⟨b, 1, none⟩ v2).setCell ⟨b, 2, none⟩ v3) := by
  obtain ⟨h1, h2, a1, a2, a3, h3⟩ := h
  refine ⟨below_put (below_put (below_put h1 h2 _) h2 _) h2 _, h2, v1, v2, v3, ?_⟩
  exact ((h3.put (by simp) 0 v1 (by simp)).put (by simp) 1 v2 (by simp)).put (by simp) 2 v3 (by simp)

set_option maxHeartbeats 8000000 in
set_option maxRecDepth 100000 in
theorem rpop_any (b off c : Nat) (l : List Tm) (w : World) (hc : l.length ≤ c) (hn : l.length ≤ 1099511627776) (hbB : b < w.heap.size) (hr : Rd tenc 3 w w.heap.size (some ⟨b, off, none⟩) l) :
    Calls Try.prog 33 #[.slice (some ⟨b, off, none⟩) l.length c] w fun e w' =>
      ∃ v, e = .returned (.tuple #[.agg #[.int .i64 (tpopl l).1.s, .int .i64 (tpopl l).1.e, .int .i64 (tpopl l).1.k], v, .int .i64 (tpopl l).2.2]) ∧ Own tenc 3 w' w.heap.size 34 v (tpopl l).2.1 ∧ Below w.heap.size w w' := by
  have hck := fun W (h : Rd tenc 3 W W.heap.size (some ⟨b, off, none⟩) l) => rtcheck_any (some ⟨b, off, none⟩) c l W hn h
  obtain ⟨n, hn'⟩ : ∃ n, n = l.length := ⟨_, rfl⟩
  rw [← hn'] at hn hc hck ⊢
  have HN := Lib.hid hn'; have HCK := Lib.hid hck
  clear hn' hck
  have hL : Loc w [] := trivial
  obtain ⟨q, hq⟩ : ∃ q, q = tck l := ⟨_, rfl⟩
  have HQ := Lib.hid hq
  by_cases h0 : q = 0
  · have b0 : (q != 0) = false := by simp [h0]
    by_cases hz : n = 0
    · have b1 : ((n : Int) == 0) = true := by simp [hz]
      have hs : tpopl l = (t0, [], 6) := by unfold tpopl; rw [if_neg (by rw [← hq, h0]; simp), if_pos (by rw [← HN.out]; exact hz)]
      have HS := Lib.hid hs
      clear hs h0 hq hz
      go_enter Try.func33, Try.ntmps33
      go_wp2_with (first
        | (go_at_call 22; refine (HCK.out _ (rd_grown hr (by repeat (first | with_reducible exact Below.refl _ _ | with_reducible assumption | (with_reducible exact Env.below (by assumption)) | (with_reducible refine below_new ?_ _) | (with_reducible refine below_drew ?_) | (with_reducible refine below_drewN ?_ _) | (with_reducible refine below_put ?_ ?_ _; rotate_left 1; (dsimp only; omega)) | (with_reducible refine below_then ?_ (by assumption)))))).mono ?_; rw [← HQ.out]; rintro e w1 ⟨rfl, hb1⟩; replace hL := (by with_reducible first | exact hL.below hb1 | exact (hL.new _ _).below hb1 | exact ((hL.new _ _).new _ _).below hb1 | exact (((hL.new _ _).new _ _).new _ _).below hb1 | exact ((((hL.new _ _).new _ _).new _ _).new _ _).below hb1); (repeat rw [World.size_alloc] at hL); have hF := hL; (repeat unfold Loc at hF)))
      refine bodyPost_ret (v := _) (by rw [results_cell_tmp2 Try.results33]; go_simp; rfl) rfl ?_
      exact ⟨.slice none 0 0, by simp [HS.out, t0], by rw [HS.out]; exact Own.nil _ _ _, (by repeat (first | with_reducible exact Below.refl _ _ | with_reducible assumption | (with_reducible exact Env.below (by assumption)) | (with_reducible refine below_new ?_ _) | (with_reducible refine below_drew ?_) | (with_reducible refine below_drewN ?_ _) | (with_reducible refine below_put ?_ ?_ _; rotate_left 1; (dsimp only; omega)) | (with_reducible refine below_then ?_ (by assumption))))⟩
    · obtain ⟨x0, hx0⟩ : ∃ x, l[0]? = some x := ⟨_, List.getElem?_eq_getElem (by rw [← HN.out]; omega)⟩
      have b1 : ((n : Int) == 0) = false := by simp [hz]
      have j0 : (0 : Int) < (n : Int) := by omega
      have j1 : 0 < n := by omega
      obtain ⟨m, hm⟩ : ∃ m, n = m + 1 := ⟨n - 1, by omega⟩
      have hs : tpopl l = (x0, popL tlt t0 l, 0) := by unfold tpopl; rw [if_neg (by rw [← hq, h0]; simp), if_neg (by rw [← HN.out]; exact hz), getD_some hx0]
      obtain ⟨b', off', e', -, c1, c2, c3⟩ := tm_cells hr hx0
      simp only [Option.some.injEq, Addr.mk.injEq, and_true] at e'
      obtain ⟨rfl, rfl⟩ := e'
      simp only [Nat.zero_mul, Nat.add_zero] at c1 c2 c3
      have hpp : ∀ W, b < W.heap.size → Rd tenc 3 W W.heap.size (some ⟨b, off, none⟩) l → Calls Try.prog 78 #[.slice (some ⟨b, off, none⟩) n c] W fun e w' => ∃ v, e = .returned v ∧ Own tenc 3 w' W.heap.size 34 v (popL tlt t0 l) ∧ Below W.heap.size W w' := by
        intro W h1 h2
        have := rpopped_any b off c m l W (by rw [← HN.out, hm]) (by omega) (by omega) h1 h2
        rwa [← hm] at this
      have HPP := Lib.hid hpp
      have HS := Lib.hid hs
      clear hs h0 hq hz hx0 hm hpp
      go_enter Try.func33, Try.ntmps33
      go_wp2_with (first
        | (go_at_call 22; refine (HCK.out _ (rd_grown hr (by repeat (first | with_reducible exact Below.refl _ _ | with_reducible assumption | (with_reducible exact Env.below (by assumption)) | (with_reducible refine below_new ?_ _) | (with_reducible refine below_drew ?_) | (with_reducible refine below_drewN ?_ _) | (with_reducible refine below_put ?_ ?_ _; rotate_left 1; (dsimp only; omega)) | (with_reducible refine below_then ?_ (by assumption)))))).mono ?_; rw [← HQ.out]; rintro e w1 ⟨rfl, hb1⟩; replace hL := (by with_reducible first | exact hL.below hb1 | exact (hL.new _ _).below hb1 | exact ((hL.new _ _).new _ _).below hb1 | exact (((hL.new _ _).new _ _).new _ _).below hb1 | exact ((((hL.new _ _).new _ _).new _ _).new _ _).below hb1); (repeat rw [World.size_alloc] at hL); have hF := hL; (repeat unfold Loc at hF)))
      have hE : EnvBox w w.heap.size w1 := ⟨(by repeat (first | with_reducible exact Below.refl _ _ | with_reducible assumption | (with_reducible exact Env.below (by assumption)) | (with_reducible refine below_new ?_ _) | (with_reducible refine below_drew ?_) | (with_reducible refine below_drewN ?_ _) | (with_reducible refine below_put ?_ ?_ _; rotate_left 1; (dsimp only; omega)) | (with_reducible refine below_then ?_ (by assumption)))), Nat.le_refl _, _, _, _, hL⟩
      have hR : ∀ X, EnvBox w w.heap.size X → X.cell? ⟨b, off, none⟩ = some (.int .i64 x0.s) ∧ X.cell? ⟨b, off + 1, none⟩ = some (.int .i64 x0.e) ∧ X.cell? ⟨b, off + 2, none⟩ = some (.int .i64 x0.k) := fun X hX =>
        ⟨(hX.1.cell (p := ⟨b, off, none⟩) hbB).trans c1, (hX.1.cell (p := ⟨b, off + 1, none⟩) hbB).trans c2, (hX.1.cell (p := ⟨b, off + 2, none⟩) hbB).trans c3⟩
      have hlt1 : w.heap.size < w1.heap.size := hF.1
      clear hF hL hb1 c1 c2 c3
      refine wp_region_held_drew (S := EnvBox w w.heap.size) (by kernel_rfl) (EnvBox.drew hE) (fun hHeld => ?_)
      refine hTake 0 (by kernel_rfl) (by kernel_rfl) (by kernel_rfl) (by decide) (by assumption) ?_; (intro oi hoi; simp only [List.getElem?_toArray, List.getElem?_cons_zero] at hoi; obtain rfl := Option.some.inj hoi; clear hoi); refine ⟨rfl, ?_⟩; apply Exists.intro; refine ⟨?_, fun _ _ _ h => h, ?_⟩; (intro w hSw; (try dsimp only at hSw); go_simp; (try with_reducible rfl)); (try simp only [Act.put, List.setIfInBounds_toArray, List.set_cons_zero, List.set_cons_succ]); refine hTake 1 (by kernel_rfl) (by kernel_rfl) (by kernel_rfl) (by decide) (by assumption) ?_; (intro oi hoi; simp only [List.getElem?_toArray, List.getElem?_cons_succ, List.getElem?_cons_zero] at hoi; obtain rfl := Option.some.inj hoi; clear hoi); refine ⟨rfl, ?_⟩; apply Exists.intro; refine ⟨?_, fun _ _ _ h => h, ?_⟩; (intro w hSw; (try dsimp only at hSw); go_simp; (try with_reducible rfl)); (try simp only [Act.put, List.setIfInBounds_toArray, List.set_cons_zero, List.set_cons_succ]); refine hTake 2 (by kernel_rfl) (by kernel_rfl) (by kernel_rfl) (by decide) (by assumption) ?_; (intro oi hoi; simp only [List.getElem?_toArray, List.getElem?_cons_succ, List.getElem?_cons_zero] at hoi; obtain rfl := Option.some.inj hoi; clear hoi); refine ⟨rfl, ?_⟩; apply Exists.intro; refine ⟨?_, fun _ _ _ h => h, ?_⟩; (intro w hSw; (try dsimp only at hSw); go_simp; (try with_reducible rfl)); (try simp only [Act.put, List.setIfInBounds_toArray, List.set_cons_zero, List.set_cons_succ]); refine hTake 3 (by kernel_rfl) (by kernel_rfl) (by kernel_rfl) (by decide) (by assumption) ?_; (intro oi hoi; simp only [List.getElem?_toArray, List.getElem?_cons_succ, List.getElem?_cons_zero] at hoi; obtain rfl := Option.some.inj hoi; clear hoi); refine ⟨rfl, ?_⟩; apply Exists.intro; refine ⟨?_, fun _ _ _ h => h, ?_⟩; (intro w hSw; (try dsimp only at hSw); go_simp; (try with_reducible rfl)); (try simp only [Act.put, List.setIfInBounds_toArray, List.set_cons_zero, List.set_cons_succ])
      refine hOnly 4 (by kernel_rfl) (by decide) ?_; (intro oi hoi; simp only [List.getElem?_toArray, List.getElem?_cons_succ, List.getElem?_cons_zero] at hoi; obtain rfl := Option.some.inj hoi; clear hoi); intro K hK; go_simp
      refine (HPP.out _ (Nat.lt_of_lt_of_le hbB (Below.size hHeld.1)) (rd_grown hr hHeld.1)).mono ?_
      rintro e w3 ⟨v3, rfl, hown3, hb3⟩
      have hE3 := EnvBox.step hHeld hb3
      refine hK.out _ _ hE3 (fun hHeld => ?_)
      clear hK K
      (try simp only [Act.put, List.setIfInBounds_toArray, List.set_cons_zero, List.set_cons_succ])
      obtain ⟨a1, a2, a3, hl3⟩ := hE3.2.2
      (repeat unfold Loc at hl3)
      refine hOnly 5 (by kernel_rfl) (by decide) ?_
      (intro oi hoi; simp only [List.getElem?_toArray, List.getElem?_cons_succ, List.getElem?_cons_zero] at hoi; obtain rfl := Option.some.inj hoi; clear hoi); intro K hK
      go_simp
      refine hK.out _ _ (EnvBox.put hE3 _ _ _) (fun hHeld => ?_)
      clear hK K
      (try simp only [Act.put, List.setIfInBounds_toArray, List.set_cons_zero, List.set_cons_succ])
      refine hTake 6 (by kernel_rfl) (by kernel_rfl) (by kernel_rfl) (by decide) (by assumption) ?_; (intro oi hoi; simp only [List.getElem?_toArray, List.getElem?_cons_succ, List.getElem?_cons_zero] at hoi; obtain rfl := Option.some.inj hoi; clear hoi); refine ⟨rfl, ?_⟩; apply Exists.intro; refine ⟨?_, fun _ _ _ h => h, ?_⟩; (intro w hSw; (try dsimp only at hSw); go_simp; (try with_reducible rfl)); (try simp only [Act.put, List.setIfInBounds_toArray, List.set_cons_zero, List.set_cons_succ]); refine hTake 7 (by kernel_rfl) (by kernel_rfl) (by kernel_rfl) (by decide) (by assumption) ?_; (intro oi hoi; simp only [List.getElem?_toArray, List.getElem?_cons_succ, List.getElem?_cons_zero] at hoi; obtain rfl := Option.some.inj hoi; clear hoi); refine ⟨rfl, ?_⟩; apply Exists.intro; refine ⟨?_, fun _ _ _ h => h, ?_⟩; (intro w hSw; (try dsimp only at hSw); go_simp; (try with_reducible rfl)); (try simp only [Act.put, List.setIfInBounds_toArray, List.set_cons_zero, List.set_cons_succ])
      refine wpAnyH_done (by kernel_rfl) ?_ _
      go_wp2
      refine bodyPost_ret (v := _) (by rw [results_cell_tmp2 Try.results33]; go_simp; rfl) rfl ?_
      exact ⟨v3, by simp [HS.out], by rw [HS.out]; exact (hown3.grown (putW_grown w.heap.size 0 [_, _, _] 0 w3) (own_apart hown3 hlt1)).mono (Nat.le_of_lt hlt1), hHeld.1⟩
  · have b0 : (q != 0) = true := by simp [h0]
    have hs : tpopl l = (t0, [], q) := by unfold tpopl; rw [if_pos (by rw [← hq]; exact h0), ← hq]
    have HS := Lib.hid hs
    clear hs h0 hq
    go_enter Try.func33, Try.ntmps33
    go_wp2_with (first
      | (go_at_call 22; refine (HCK.out _ (rd_grown hr (by repeat (first | with_reducible exact Below.refl _ _ | with_reducible assumption | (with_reducible exact Env.below (by assumption)) | (with_reducible refine below_new ?_ _) | (with_reducible refine below_drew ?_) | (with_reducible refine below_drewN ?_ _) | (with_reducible refine below_put ?_ ?_ _; rotate_left 1; (dsimp only; omega)) | (with_reducible refine below_then ?_ (by assumption)))))).mono ?_; rw [← HQ.out]; rintro e w1 ⟨rfl, hb1⟩; replace hL := (by with_reducible first | exact hL.below hb1 | exact (hL.new _ _).below hb1 | exact ((hL.new _ _).new _ _).below hb1 | exact (((hL.new _ _).new _ _).new _ _).below hb1 | exact ((((hL.new _ _).new _ _).new _ _).new _ _).below hb1); (repeat rw [World.size_alloc] at hL); have hF := hL; (repeat unfold Loc at hF)))
    refine bodyPost_ret (v := _) (by rw [results_cell_tmp2 Try.results33]; go_simp; rfl) rfl ?_
    exact ⟨.slice none 0 0, by simp [HS.out, t0], by rw [HS.out]; exact Own.nil _ _ _, (by repeat (first | with_reducible exact Below.refl _ _ | with_reducible assumption | (with_reducible exact Env.below (by assumption)) | (with_reducible refine below_new ?_ _) | (with_reducible refine below_drew ?_) | (with_reducible refine below_drewN ?_ _) | (with_reducible refine below_put ?_ ?_ _; rotate_left 1; (dsimp only; omega)) | (with_reducible refine below_then ?_ (by assumption))))⟩
end Go.Proofs.Ytffehibdeogjeaa
