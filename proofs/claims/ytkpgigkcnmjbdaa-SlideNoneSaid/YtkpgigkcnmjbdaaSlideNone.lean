/- The law SlideNone (chapter 14): no other windows. No condition. -/
import Derived.Test.YtkpgigkcnmjbdaaSlideLaws
import Derived.Test.YtkpgigkcnmjbdaaSlidePlain2
namespace Go.Proofs.Ytkpgigkcnmjbdaa
open Go.RowKit Go.WideShapes Go.ChangeShapes Go.ChangeAt

set_option maxHeartbeats 4000000 in
set_option maxRecDepth 100000 in
theorem slideNone_walk (t : Int) (_wt : (Lit.int .i64 t).wf = true) (size : Int) (ws : (Lit.int .i64 size).wf = true) (every : Int) (we : (Lit.int .i64 every).wf = true) (w : World) :
    Calls Try.prog 15 #[.int .i64 t, .int .i64 size, .int .i64 every] w fun e w' => e = .returned (.bool true) ∧ Below w.heap.size w w' := by
  have hL : Loc w [] := trivial
  by_cases hf : sfit t size every
  · have h1 : decide (sfit t size every) = true := by simp [hf]
    obtain ⟨hr, ht⟩ := hf
    obtain ⟨t1, t2, t3, t4⟩ := tchk_zero.1 ht
    obtain ⟨k1, k2, -, -⟩ := scount_facts (t := t) hr
    obtain ⟨J, hJ⟩ : ∃ J, J + 1 = scount t size every := ⟨scount t size every - 1, by omega⟩
    have hlen := swins_len (t := t) hr
    have g0 := swins_get (t := t) hr (k := 0) (by omega)
    have gJ := swins_get (t := t) hr (k := J) (by omega)
    have f0 := sx_facts (t := t) hr (k := 0) (by omega)
    have z0 := sx_zero (t := t) hr
    rw [sx_last t size every J hJ] at gJ
    obtain ⟨q1, q2, -, q4, q5⟩ := floor_facts (t := t) t1 t3 t4
    obtain ⟨S, hS⟩ : ∃ S, S = t / every * every := ⟨_, rfl⟩
    obtain ⟨x, hx⟩ : ∃ x, x = sx t size every 0 := ⟨_, rfl⟩
    rw [← hS] at gJ q1 q2
    rw [← hx] at g0 f0 z0
    rw [← hJ] at hlen k2
    obtain ⟨s1, s2, s3, s4, s5⟩ := hr
    obtain ⟨f1, f2, f3⟩ := f0
    have HL := Lib.hid hlen; have G0 := Lib.hid g0; have GJ := Lib.hid gJ
    clear hlen g0 gJ hS hx hJ k1
    have d1 : decide (x - every + size ≤ t) = true := by simp; omega
    have d2 : decide (t < S + every) = true := by simp; omega
    go_enter Try.func15, Try.ntmps15
    go_wp2_with (first
      | (go_at_call 37; refine (alive14 _).mono ?_; rintro r w1 ⟨rfl, hb1⟩)
      | (go_at_call 38; refine (fit_any _ _ _ ws we _).mono ?_; rintro r w2 ⟨rfl, rfl⟩)
      | (go_at_call 39; refine (sall_ok _ _ _ _ ⟨s1, s2, s3, s4, s5⟩ t3 t4).mono ?_; rintro r w2 ⟨v, rfl, o2, hb2⟩; obtain ⟨A, c, rfl, r2⟩ := own_reads o2; obtain ⟨b, off, rfl, hbB, c1, c2⟩ := span_cells r2 G0.out; obtain ⟨b', off', e', _, c3, c4⟩ := span_cells r2 GJ.out; simp only [Option.some.injEq, Addr.mk.injEq, and_true] at e'; obtain ⟨rfl, rfl⟩ := e'; dsimp only at c1 c2 c3 c4; simp only [Nat.zero_mul, Nat.add_zero] at c1 c2; clear r2 o2; rw [HL.out]))
    go_ret
    exact ⟨rfl, (by repeat (first | exact Below.refl _ _ | assumption | (with_reducible exact Env.below (by assumption)) | (with_reducible refine below_new ?_ _) | (with_reducible refine below_drew ?_) | (with_reducible refine below_drewN ?_ _) | (with_reducible refine below_put ?_ ?_ _; rotate_left 1; (dsimp only; omega)) | (refine below_then ?_ (by assumption))))⟩
  · have h1 : decide (sfit t size every) = false := by simp [hf]
    clear hf
    go_enter Try.func15, Try.ntmps15
    go_wp2_with (first
      | (go_at_call 37; refine (alive14 _).mono ?_; rintro r w1 ⟨rfl, hb1⟩)
      | (go_at_call 38; refine (fit_any _ _ _ ws we _).mono ?_; rintro r w2 ⟨rfl, rfl⟩))
    go_ret
    exact ⟨rfl, (by repeat (first | exact Below.refl _ _ | assumption | (with_reducible exact Env.below (by assumption)) | (with_reducible refine below_new ?_ _) | (with_reducible refine below_drew ?_) | (with_reducible refine below_drewN ?_ _) | (with_reducible refine below_put ?_ ?_ _; rotate_left 1; (dsimp only; omega)) | (refine below_then ?_ (by assumption))))⟩
end Go.Proofs.Ytkpgigkcnmjbdaa
