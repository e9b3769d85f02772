/- The laws of chapter 14 (sliding windows): helpers and SlideTells. No condition. -/
import Derived.Test.YtkpgigkcnmjbdaaSlideOf
import Derived.Test.YtkpgigkcnmjbdaaAccumsLaws
namespace Go.Proofs.Ytkpgigkcnmjbdaa
open Go.RowKit Go.WideShapes Go.ChangeShapes Go.ChangeAt

theorem spansEq_self (l : List (Int × Int)) : spansEq l l = true := by simp [spansEq]
theorem has3 (t x y z : Int) (w : World) (ht1 : -1099511627776 ≤ t) (ht2 : t ≤ 1099511627776) (hl : swins t 10 4 = [(x, x + 10), (y, y + 10), (z, z + 10)]) (hx : ∀ a ∈ [x, y, z], -1099511627776 ≤ a ∧ a ≤ 1099511627776) :
    Calls Try.prog 52 #[.int .i64 t, .slice (some ⟨w.heap.size, 0, none⟩) 3 3] (w.alloc (.cells #[.int .i64 x, .int .i64 y, .int .i64 z] 2)) fun e w' => e = .returned (.bool true) ∧ Below (w.alloc (.cells #[.int .i64 x, .int .i64 y, .int .i64 z] 2)).heap.size (w.alloc (.cells #[.int .i64 x, .int .i64 y, .int .i64 z] 2)) w' :=
  has_any t (some ⟨w.heap.size, 0, none⟩) 3 [x, y, z] (w.alloc (.cells #[.int .i64 x, .int .i64 y, .int .i64 z] 2)) ((rd_new w [x, y, z] 2).more (by simp)) ht1 ht2 hl hx (by simp)
theorem has2 (t x y : Int) (w : World) (ht1 : -1099511627776 ≤ t) (ht2 : t ≤ 1099511627776) (hl : swins t 10 4 = [(x, x + 10), (y, y + 10)]) (hx : ∀ a ∈ [x, y], -1099511627776 ≤ a ∧ a ≤ 1099511627776) :
    Calls Try.prog 52 #[.int .i64 t, .slice (some ⟨w.heap.size, 0, none⟩) 2 2] (w.alloc (.cells #[.int .i64 x, .int .i64 y] 2)) fun e w' => e = .returned (.bool true) ∧ Below (w.alloc (.cells #[.int .i64 x, .int .i64 y] 2)).heap.size (w.alloc (.cells #[.int .i64 x, .int .i64 y] 2)) w' :=
  has_any t (some ⟨w.heap.size, 0, none⟩) 2 [x, y] (w.alloc (.cells #[.int .i64 x, .int .i64 y] 2)) ((rd_new w [x, y] 2).more (by simp)) ht1 ht2 hl hx (by simp)

set_option maxHeartbeats 1000000 in
theorem alive14 (w : World) : Calls Try.prog 37 #[] w fun e w' => e = .returned (.bool true) ∧ Below w.heap.size w w' := by
  go_enter Try.func37, Try.ntmps37
  go_wp2_with fail
  refine (has3 9 0 4 8 _ (by decide) (by decide) (by decide +kernel) (by decide)).mono ?_
  rintro e w1 ⟨rfl, hb1⟩
  go_wp2_with fail
  refine (has2 11 4 8 _ (by decide) (by decide) (by decide +kernel) (by decide)).mono ?_
  rintro e w2 ⟨rfl, hb2⟩
  go_wp2_with fail
  refine (has2 (-1) (-8) (-4) _ (by decide) (by decide) (by decide +kernel) (by decide)).mono ?_
  rintro e w3 ⟨rfl, hb3⟩
  go_wp2_with fail
  go_ret
  exact ⟨rfl, (by repeat (first | exact Below.refl _ _ | assumption | (with_reducible exact Env.below (by assumption)) | (with_reducible refine below_new ?_ _) | (with_reducible refine below_drew ?_) | (with_reducible refine below_drewN ?_ _) | (with_reducible refine below_put ?_ ?_ _; rotate_left 1; (dsimp only; omega)) | (refine below_then ?_ (by assumption))))⟩

/-- A time and sizes that the laws speak of. -/
def sfit (t size every : Int) : Prop := sright size every ∧ tchk t every = 0
instance (t size every : Int) : Decidable (sfit t size every) := by unfold sfit; infer_instance
set_option maxHeartbeats 1000000 in
theorem fit_any (t size every : Int) (w0 : (Lit.int .i64 size).wf = true) (w1 : (Lit.int .i64 every).wf = true) (w : World) :
    Calls Try.prog 38 #[.int .i64 t, .int .i64 size, .int .i64 every] w fun e w' => e = .returned (.bool (decide (sfit t size every))) ∧ w = w' := by
  by_cases h1 : sright size every
  · by_cases h2 : tchk t every = 0
    · have e1 : decide (sright size every) = true := by simp [h1]
      have e2 : (tchk t every == 0) = true := by simp [h2]
      have hs : sfit t size every := ⟨h1, h2⟩
      have H := Lib.hid hs
      clear hs
      clear h1 h2
      go_enter Try.func38, Try.ntmps38
      go_wp2_with (first | (go_at_call 53; refine (right_any _ _ w0 w1 _).mono ?_; rintro e w' ⟨rfl, rfl⟩) | (go_at_call 26; refine (rcheck_any _ _ _).mono ?_; rintro e w' ⟨rfl, rfl⟩))
      go_ret
      exact ⟨ret_bool (by simp [H.out]), rfl⟩
    · have e1 : decide (sright size every) = true := by simp [h1]
      have e2 : (tchk t every == 0) = false := by simp [h2]
      have hs : ¬ sfit t size every := fun h => h2 h.2
      have H := Lib.hid hs
      clear hs
      clear h1 h2
      go_enter Try.func38, Try.ntmps38
      go_wp2_with (first | (go_at_call 53; refine (right_any _ _ w0 w1 _).mono ?_; rintro e w' ⟨rfl, rfl⟩) | (go_at_call 26; refine (rcheck_any _ _ _).mono ?_; rintro e w' ⟨rfl, rfl⟩))
      go_ret
      exact ⟨ret_bool (by simp [H.out]), rfl⟩
  · have e1 : decide (sright size every) = false := by simp [h1]
    have hs : ¬ sfit t size every := fun h => h1 h.1
    have H := Lib.hid hs
    clear hs
    clear h1
    go_enter Try.func38, Try.ntmps38
    go_wp2_with (go_at_call 53; refine (right_any _ _ w0 w1 _).mono ?_; rintro e w' ⟨rfl, rfl⟩)
    go_ret
    exact ⟨ret_bool (by simp [H.out]), rfl⟩

/-- What a list of spans that a call has made is, as long as nothing of it is turned: it reads. -/
theorem own_reads {w : World} {base e : Nat} {v : Value} {l : List (Int × Int)} (h : Own senc 2 w base e v l) : ∃ A c, v = .slice A l.length c ∧ Rd senc 2 w w.heap.size A l := by
  obtain ⟨A, c, rfl, -, -, -⟩ := h.form
  exact ⟨A, c, rfl, Own.rd (enc := senc) (sz := 2) (fun _ => rfl) h⟩
theorem rall_len (t size every : Int) : (rall t size every).1.length ≤ 18 := by
  unfold rall; split; simp; split; simp; exact swk_len _ _ _ _ _
theorem wof_len (k s e t : Int) : (wof k s e t).1.length ≤ 18 := by
  unfold wof; split; simp; split; simp; split; simp; unfold wspans; split; simp; exact swk_len _ _ _ _ _

set_option maxHeartbeats 1000000 in
theorem slideTells_walk (t : Int) (_wt : (Lit.int .i64 t).wf = true) (size : Int) (ws : (Lit.int .i64 size).wf = true) (every : Int) (we : (Lit.int .i64 every).wf = true)
    (k : Int) (_wk : (Lit.int .u8 k).wf = true) (s : Int) (_ws : (Lit.int .i64 s).wf = true) (ev : Int) (wv : (Lit.int .i64 ev).wf = true) (w : World) :
    Calls Try.prog 18 #[.int .i64 t, .int .i64 size, .int .i64 every, .agg #[.int .u8 k, .int .i64 s, .int .i64 ev]] w fun e w' => e = .returned (.bool true) ∧ Below w.heap.size w w' := by
  have l1 := rall_len t size every
  have l2 := wof_len k s ev t
  have ha := sall_any t size every ws we
  have hb := rall_any t size every ws we
  have hc := sof_any k s ev t wv
  have hd := rsof_any k s ev t wv
  obtain ⟨⟨L, e1⟩, h1⟩ : ∃ p, rall t size every = p := ⟨_, rfl⟩
  obtain ⟨⟨M, e2⟩, h2⟩ : ∃ p, wof k s ev t = p := ⟨_, rfl⟩
  rw [h1] at ha hb l1
  rw [h2] at hc hd l2
  have HA := Lib.hid ha; have HB := Lib.hid hb; have HC := Lib.hid hc; have HD := Lib.hid hd
  have q1 := spansEq_self L
  have q2 := spansEq_self M
  clear h1 h2 ha hb hc hd
  dsimp only at l1 l2
  have hL : Loc w [] := trivial
  go_enter Try.func18, Try.ntmps18
  go_wp2_with fail
  refine (HA.out _).mono ?_
  rintro r w1 ⟨v1, rfl, o1, hb1⟩
  obtain ⟨A1, c1, rfl, r1⟩ := own_reads o1
  replace hL := (by with_reducible first | exact hL.below hb1 | exact (hL.new _ _).below hb1 | exact ((hL.new _ _).new _ _).below hb1 | exact (((hL.new _ _).new _ _).new _ _).below hb1 | exact ((((hL.new _ _).new _ _).new _ _).new _ _).below hb1); (repeat rw [World.size_alloc] at hL); have hF := hL; (repeat unfold Loc at hF)
  go_wp2_with fail
  refine (HB.out _).mono ?_
  rintro r w2 ⟨v2, rfl, o2, hb2⟩
  obtain ⟨A2, c2, rfl, r2⟩ := own_reads o2
  replace hL := (by with_reducible first | exact hL.below hb2 | exact (hL.new _ _).below hb2 | exact ((hL.new _ _).new _ _).below hb2 | exact (((hL.new _ _).new _ _).new _ _).below hb2 | exact ((((hL.new _ _).new _ _).new _ _).new _ _).below hb2); (repeat rw [World.size_alloc] at hL); have hF := hL; (repeat unfold Loc at hF)
  go_wp2_with fail
  refine (HC.out _).mono ?_
  rintro r w3 ⟨v3, rfl, o3, hb3⟩
  obtain ⟨A3, c3, rfl, r3⟩ := own_reads o3
  replace hL := (by with_reducible first | exact hL.below hb3 | exact (hL.new _ _).below hb3 | exact ((hL.new _ _).new _ _).below hb3 | exact (((hL.new _ _).new _ _).new _ _).below hb3 | exact ((((hL.new _ _).new _ _).new _ _).new _ _).below hb3); (repeat rw [World.size_alloc] at hL); have hF := hL; (repeat unfold Loc at hF)
  go_wp2_with fail
  refine (HD.out _).mono ?_
  rintro r w4 ⟨v4, rfl, o4, hb4⟩
  obtain ⟨A4, c4, rfl, r4⟩ := own_reads o4
  replace hL := (by with_reducible first | exact hL.below hb4 | exact (hL.new _ _).below hb4 | exact ((hL.new _ _).new _ _).below hb4 | exact (((hL.new _ _).new _ _).new _ _).below hb4 | exact ((((hL.new _ _).new _ _).new _ _).new _ _).below hb4); (repeat rw [World.size_alloc] at hL); have hF := hL; (repeat unfold Loc at hF)
  go_wp2_with fail
  refine (same_any A1 A2 _ _ _ _ w4 (((r1.grow hb2).grow hb3).grow hb4) ((r2.grow hb3).grow hb4) (by omega)).mono ?_
  rintro r w5 ⟨rfl, hb5⟩
  replace hL := (by with_reducible first | exact hL.below hb5 | exact (hL.new _ _).below hb5 | exact ((hL.new _ _).new _ _).below hb5 | exact (((hL.new _ _).new _ _).new _ _).below hb5 | exact ((((hL.new _ _).new _ _).new _ _).new _ _).below hb5); (repeat rw [World.size_alloc] at hL); have hF := hL; (repeat unfold Loc at hF)
  go_wp2_with fail
  refine (same_any A3 A4 _ _ _ _ w5 ((r3.grow hb4).grow hb5) (r4.grow hb5) (by omega)).mono ?_
  rintro r w6 ⟨rfl, hb6⟩
  replace hL := (by with_reducible first | exact hL.below hb6 | exact (hL.new _ _).below hb6 | exact ((hL.new _ _).new _ _).below hb6 | exact (((hL.new _ _).new _ _).new _ _).below hb6 | exact ((((hL.new _ _).new _ _).new _ _).new _ _).below hb6); (repeat rw [World.size_alloc] at hL); have hF := hL; (repeat unfold Loc at hF)
  go_wp2_with fail
  go_ret
  exact ⟨rfl, (by repeat (first | exact Below.refl _ _ | assumption | (with_reducible exact Env.below (by assumption)) | (with_reducible refine below_new ?_ _) | (with_reducible refine below_drew ?_) | (with_reducible refine below_drewN ?_ _) | (with_reducible refine below_put ?_ ?_ _; rotate_left 1; (dsimp only; omega)) | (refine below_then ?_ (by assumption))))⟩
end Go.Proofs.Ytkpgigkcnmjbdaa
