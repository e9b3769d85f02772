/- The law SlideTumble (chapter 14): tumbling windows. No condition. -/
import Derived.Test.YtkpgigkcnmjbdaaSlideLaws
import Derived.Test.YtkpgigkcnmjbdaaSlidePlain2
namespace Go.Proofs.Ytkpgigkcnmjbdaa
open Go.RowKit Go.WideShapes Go.ChangeShapes Go.ChangeAt

theorem swins_tumble {t every : Int} (h1 : 1 ≤ every) (h2 : every ≤ 1073741824) (h3 : tchk t every = 0) : swins t every every = [tspan t every] := by
  have hr : sright every every := ⟨h1, h1, h2, Int.le_refl _, by omega⟩
  obtain ⟨k1, k2, k3, k4⟩ := scount_facts (t := t) hr
  have q1 := Int.ediv_mul_le t (by omega : every ≠ 0)
  have hc : scount t every every = 1 := by
    rcases Nat.lt_or_ge 1 (scount t every every) with h | h
    · have := k3 1 h
      have e : ((1 : Nat) : Int) * every = every := by omega
      rw [e] at this
      omega
    · omega
  rw [swins_eq hr, hc]
  simp [sback, tspan, h3]

theorem rd_box {α : Type} {enc : α → List Value} {sz : Nat} {w : World} {A : Option Addr} {l : List α} (h : Rd enc sz w w.heap.size A l) (o : Obj) : Rd enc sz (w.alloc o) (w.alloc o).heap.size A l :=
  (h.alloc (Nat.le_refl _) o).more (by simp)
theorem span_made (w : World) (x y : Int) (t : TypeId) : Rd senc 2 (w.alloc (.cells #[.int .i64 x, .int .i64 y] t)) (w.alloc (.cells #[.int .i64 x, .int .i64 y] t)).heap.size (some ⟨w.heap.size, 0, none⟩) [(x, y)] :=
  Own.rd (enc := senc) (sz := 2) (fun _ => rfl) (Own.made (enc := senc) (sz := 2) (fun _ => rfl) w w.heap.size t [(x, y)] w.heap.size rfl (Nat.le_refl _) (by simp [maxLen]))
theorem same_one (A : Option Addr) (c : Nat) (x y : Int) (w : World) (h : Rd senc 2 w w.heap.size A [(x, y)]) :
    Calls Try.prog 45 #[.slice A 1 c, .slice (some ⟨w.heap.size, 0, none⟩) 1 1] (w.alloc (.cells #[.int .i64 x, .int .i64 y] 23)) fun e w' => e = .returned (.bool true) ∧ Below (w.alloc (.cells #[.int .i64 x, .int .i64 y] 23)).heap.size (w.alloc (.cells #[.int .i64 x, .int .i64 y] 23)) w' :=
  (same_any A (some ⟨w.heap.size, 0, none⟩) c 1 [(x, y)] [(x, y)] _ (rd_box h _) (span_made w x y _) (by simp)).mono fun e w' ⟨h1, h2⟩ => ⟨by rw [h1, spansEq_self], h2⟩
theorem same_ones (A B : Option Addr) (c d : Nat) (x y : Int) (w : World) (h : Rd senc 2 w w.heap.size A [(x, y)]) (g : Rd senc 2 w w.heap.size B [(x, y)]) :
    Calls Try.prog 45 #[.slice A 1 c, .slice B 1 d] w fun e w' => e = .returned (.bool true) ∧ Below w.heap.size w w' :=
  (same_any A B c d [(x, y)] [(x, y)] _ h g (by simp)).mono fun e w' ⟨h1, h2⟩ => ⟨by rw [h1, spansEq_self], h2⟩

set_option maxHeartbeats 4000000 in
set_option maxRecDepth 100000 in
theorem slideTumble_walk (t : Int) (_wt : (Lit.int .i64 t).wf = true) (size : Int) (ws : (Lit.int .i64 size).wf = true) (every : Int) (we : (Lit.int .i64 every).wf = true) (w : World) :
    Calls Try.prog 20 #[.int .i64 t, .int .i64 size, .int .i64 every] w fun e w' => e = .returned (.bool true) ∧ Below w.heap.size w w' := by
  have hL : Loc w [] := trivial
  by_cases hf : sfit t size every
  · have h1 : decide (sfit t size every) = true := by simp [hf]
    obtain ⟨hr, ht⟩ := hf
    obtain ⟨t1, t2, t3, t4⟩ := tchk_zero.1 ht
    have hr1 : sright every every := ⟨t1, t1, t2, Int.le_refl _, by omega⟩
    have e1 := swins_tumble t1 t2 ht
    have e2 : wof 1 every 0 t = ([tspan t every], 0) := by
      have hok : wok 1 every 0 := ⟨⟨t1, t2⟩, .inr ⟨.inl rfl, rfl⟩⟩
      unfold wof wspans; rw [if_neg (by simp [hok]), if_neg (by decide), if_neg (by omega), if_pos rfl]
    have e3 : wof 2 size every t = (swins t size every, 0) := by
      have hok : wok 2 size every := ⟨⟨hr.1, hr.2.2.1⟩, .inl ⟨rfl, t1, hr.2.2.2.1, hr.2.2.2.2⟩⟩
      unfold wof wspans; rw [if_neg (by simp [hok]), if_neg (by decide), if_neg (by omega), if_neg (by decide)]
    have l3 : (swins t size every).length ≤ 18 := swk_len _ _ _ _ _
    have ha := sall_ok t every every (hr := hr1) (ht1 := t3) (ht2 := t4)
    have hm := sof_any 1 every 0 t (by rfl)
    have hb := sall_ok t size every (hr := hr) (ht1 := t3) (ht2 := t4)
    have hc := sof_any 2 size every t we
    rw [e1] at ha
    rw [e2] at hm
    rw [e3] at hc
    obtain ⟨⟨x, y⟩, hxy⟩ : ∃ p, tspan t every = p := ⟨_, rfl⟩
    have hx1 : (tspan t every).1 = x := by rw [hxy]
    have hx2 : (tspan t every).2 = y := by rw [hxy]
    rw [hxy] at ha hm
    have q1 := spansEq_self [(x, y)]
    have q2 := spansEq_self (swins t size every)
    have HA := Lib.hid ha; have HM := Lib.hid hm; have HB := Lib.hid hb; have HC := Lib.hid hc
    clear e1 e2 e3 ha hm hb hc hxy hr hr1
    go_enter Try.func20, Try.ntmps20
    go_wp2_with (first
      | (go_at_call 37; refine (alive14 _).mono ?_; rintro r w1 ⟨rfl, hb1⟩; replace hL := (by with_reducible first | exact hL.below hb1 | exact (hL.new _ _).below hb1 | exact ((hL.new _ _).new _ _).below hb1 | exact (((hL.new _ _).new _ _).new _ _).below hb1 | exact ((((hL.new _ _).new _ _).new _ _).new _ _).below hb1); (repeat rw [World.size_alloc] at hL); have hF := hL; (repeat unfold Loc at hF))
      | (go_at_call 38; refine (fit_any _ _ _ ws we _).mono ?_; rintro r w2 ⟨rfl, rfl⟩)
      | (go_at_call 39; fail))
    refine (HA.out _).mono ?_
    rintro r w2 ⟨v1, rfl, o1, hb2⟩
    obtain ⟨A1, c1, rfl, r1⟩ := own_reads o1
    replace hL := (by with_reducible first | exact hL.below hb2 | exact (hL.new _ _).below hb2 | exact ((hL.new _ _).new _ _).below hb2 | exact (((hL.new _ _).new _ _).new _ _).below hb2 | exact ((((hL.new _ _).new _ _).new _ _).new _ _).below hb2); (repeat rw [World.size_alloc] at hL); have hF := hL; (repeat unfold Loc at hF)
    go_wp2_with fail
    refine (of_any _ _ _).mono ?_
    rintro r w3 ⟨rfl, hb3⟩
    replace r1 := r1.grow hb3
    replace hL := (by with_reducible first | exact hL.below hb3 | exact (hL.new _ _).below hb3 | exact ((hL.new _ _).new _ _).below hb3 | exact (((hL.new _ _).new _ _).new _ _).below hb3 | exact ((((hL.new _ _).new _ _).new _ _).new _ _).below hb3); (repeat rw [World.size_alloc] at hL); have hF := hL; (repeat unfold Loc at hF)
    go_wp2_with fail
    refine (HM.out _).mono ?_
    rintro r w4 ⟨v2, rfl, o2, hb4⟩
    obtain ⟨A2, c2, rfl, r2⟩ := own_reads o2
    replace r1 := (rd_box r1 _).grow hb4
    replace hL := (by with_reducible first | exact hL.below hb4 | exact (hL.new _ _).below hb4 | exact ((hL.new _ _).new _ _).below hb4 | exact (((hL.new _ _).new _ _).new _ _).below hb4 | exact ((((hL.new _ _).new _ _).new _ _).new _ _).below hb4); (repeat rw [World.size_alloc] at hL); have hF := hL; (repeat unfold Loc at hF)
    go_wp2_with fail
    refine (HB.out _).mono ?_
    rintro r w5 ⟨v3, rfl, o3, hb5⟩
    obtain ⟨A3, c3, rfl, r3⟩ := own_reads o3
    replace r1 := r1.grow hb5
    replace r2 := r2.grow hb5
    replace hL := (by with_reducible first | exact hL.below hb5 | exact (hL.new _ _).below hb5 | exact ((hL.new _ _).new _ _).below hb5 | exact (((hL.new _ _).new _ _).new _ _).below hb5 | exact ((((hL.new _ _).new _ _).new _ _).new _ _).below hb5); (repeat rw [World.size_alloc] at hL); have hF := hL; (repeat unfold Loc at hF)
    go_wp2_with fail
    refine (HC.out _).mono ?_
    rintro r w6 ⟨v4, rfl, o4, hb6⟩
    obtain ⟨A4, c4, rfl, r4⟩ := own_reads o4
    replace r1 := r1.grow hb6
    replace r2 := r2.grow hb6
    replace r3 := r3.grow hb6
    replace hL := (by with_reducible first | exact hL.below hb6 | exact (hL.new _ _).below hb6 | exact ((hL.new _ _).new _ _).below hb6 | exact (((hL.new _ _).new _ _).new _ _).below hb6 | exact ((((hL.new _ _).new _ _).new _ _).new _ _).below hb6); (repeat rw [World.size_alloc] at hL); have hF := hL; (repeat unfold Loc at hF)
    clear o1 o2 o3 o4
    go_wp2_with fail
    refine (same_one A1 c1 x y w6 r1).mono ?_
    rintro r w7 ⟨rfl, hb7⟩
    replace r1 := (rd_box r1 _).grow hb7
    replace r2 := (rd_box r2 _).grow hb7
    replace r3 := (rd_box r3 _).grow hb7
    replace r4 := (rd_box r4 _).grow hb7
    replace hL := (by with_reducible first | exact hL.below hb7 | exact (hL.new _ _).below hb7 | exact ((hL.new _ _).new _ _).below hb7 | exact (((hL.new _ _).new _ _).new _ _).below hb7 | exact ((((hL.new _ _).new _ _).new _ _).new _ _).below hb7); (repeat rw [World.size_alloc] at hL); have hF := hL; (repeat unfold Loc at hF)
    go_wp2_with fail
    refine (same_ones A2 A1 c2 c1 x y w7 r2 r1).mono ?_
    rintro r w8 ⟨rfl, hb8⟩
    replace r3 := r3.grow hb8
    replace r4 := r4.grow hb8
    replace hL := (by with_reducible first | exact hL.below hb8 | exact (hL.new _ _).below hb8 | exact ((hL.new _ _).new _ _).below hb8 | exact (((hL.new _ _).new _ _).new _ _).below hb8 | exact ((((hL.new _ _).new _ _).new _ _).new _ _).below hb8); (repeat rw [World.size_alloc] at hL); have hF := hL; (repeat unfold Loc at hF)
    go_wp2_with fail
    refine (same_any A3 A4 _ _ _ _ w8 r3 r4 (by omega)).mono ?_
    rintro r w9 ⟨rfl, hb9⟩
    go_wp2_with fail
    go_ret
    exact ⟨rfl, (by repeat (first | exact Below.refl _ _ | assumption | (with_reducible exact Env.below (by assumption)) | (with_reducible refine below_new ?_ _) | (with_reducible refine below_drew ?_) | (with_reducible refine below_drewN ?_ _) | (with_reducible refine below_put ?_ ?_ _; rotate_left 1; (dsimp only; omega)) | (refine below_then ?_ (by assumption))))⟩
  · have h1 : decide (sfit t size every) = false := by simp [hf]
    clear hf
    go_enter Try.func20, Try.ntmps20
    go_wp2_with (first
      | (go_at_call 37; refine (alive14 _).mono ?_; rintro r w1 ⟨rfl, hb1⟩)
      | (go_at_call 38; refine (fit_any _ _ _ ws we _).mono ?_; rintro r w2 ⟨rfl, rfl⟩))
    go_ret
    exact ⟨rfl, (by repeat (first | exact Below.refl _ _ | assumption | (with_reducible exact Env.below (by assumption)) | (with_reducible refine below_new ?_ _) | (with_reducible refine below_drew ?_) | (with_reducible refine below_drewN ?_ _) | (with_reducible refine below_put ?_ ?_ _; rotate_left 1; (dsimp only; omega)) | (refine below_then ?_ (by assumption))))⟩
end Go.Proofs.Ytkpgigkcnmjbdaa
