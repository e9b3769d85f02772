/- The law SlideMany (chapter 14): as many windows as told. No condition. -/
import Derived.Test.YtkpgigkcnmjbdaaSlideLaws
import Derived.Test.YtkpgigkcnmjbdaaSlidePlain2
namespace Go.Proofs.Ytkpgigkcnmjbdaa
open Go.RowKit Go.WideShapes Go.ChangeShapes Go.ChangeAt

set_option maxHeartbeats 16000000 in
set_option maxRecDepth 100000 in
theorem slideMany_walk (t : Int) (_wt : (Lit.int .i64 t).wf = true) (size : Int) (ws : (Lit.int .i64 size).wf = true) (every : Int) (we : (Lit.int .i64 every).wf = true) (w : World) :
    Calls Try.prog 14 #[.int .i64 t, .int .i64 size, .int .i64 every] w fun e w' => e = .returned (.bool true) ∧ Below w.heap.size w w' := by
  have hL : Loc w [] := trivial
  by_cases hf : sfit t size every
  · have h1 : decide (sfit t size every) = true := by simp [hf]
    obtain ⟨hr, ht⟩ := hf
    obtain ⟨t1, t2, t3, t4⟩ := tchk_zero.1 ht
    obtain ⟨c1, c2⟩ := scount_told (t := t) hr
    obtain ⟨K, hK⟩ : ∃ K, K = scount t size every := ⟨_, rfl⟩
    have hlen := swins_len (t := t) hr
    have hget := fun k (hk : k < scount t size every) => And.intro (swins_get (t := t) hr hk) (And.intro (sx_facts hr hk) (And.intro (sx_mod t size every k) (sx_succ t size every k)))
    obtain ⟨k1, k2, -, -⟩ := scount_facts (t := t) hr
    rw [← hK] at c1 c2 hlen k1 k2 hget
    obtain ⟨s1, s2, s3, s4, s5⟩ := hr
    have n1 : (0 : Int) ≤ size / every := Int.ediv_nonneg (by omega) (by omega)
    have hK' := Lib.hid hK
    have HL := Lib.hid hlen
    have HG := Lib.hid hget
    clear hK hlen hget ht
    go_enter Try.func14, Try.ntmps14
    go_wp2_with (first
      | (go_at_call 37; refine (alive14 _).mono ?_; rintro r w1 ⟨rfl, hb1⟩)
      | (go_at_call 38; refine (fit_any _ _ _ ws we _).mono ?_; rintro r w2 ⟨rfl, rfl⟩)
      | (go_at_call 39; refine (sall_ok _ _ _ _ ⟨s1, s2, s3, s4, s5⟩ t3 t4).mono ?_; rintro r w2 ⟨v, rfl, o2, hb2⟩; obtain ⟨A, c, rfl, r2⟩ := own_reads o2; rw [HL.out]))
    clear o2 c1 c2
    go_loopw [10] (fun i wr => ∃ k : Nat, k ≤ K ∧ i = .int .i64 k ∧ ∃ q : Nat, wr = w2.drewN q) (fun i _ => K - (intOf i).toNat)
    case atStart => exact ⟨0, Nat.zero_le _, rfl, 0, rfl⟩
    case round =>
      obtain ⟨k, hk, rfl, q, rfl⟩ := hrel
      by_cases hlt : k < K
      · obtain ⟨g1, ⟨g2, g3, g4⟩, g5, -⟩ := HG.out k hlt
        obtain ⟨b, off, rfl, hbB, f1, f2⟩ := span_cells r2 g1
        dsimp only at f1 f2
        cases k with
        | zero =>
          obtain ⟨x, hx⟩ : ∃ x, x = sx t size every 0 := ⟨_, rfl⟩
          rw [← hx] at f1 f2 g2 g3 g4 g5
          clear g1 r2 hx
          simp only [Nat.zero_mul, Nat.add_zero] at f1 f2
          have e1 : (x + size - x != size) = false := by simp; omega
          have e2 : decide (t < x) = false := by simp; omega
          have e3 : decide (x + size ≤ t) = false := by simp; omega
          rw [show ((0 : Nat) : Int) = 0 from rfl]
          go_wp2
          (refine wp_region_quiet_lit (by kernel_rfl) (by kernel_rfl) ?_; (repeat (any_goals (first | go_big_quiet_step (fail) | quiet_step (fail)))); all_goals (refine wpQuiet_nil ?_; intro _ hw'; obtain ⟨nq, hw''⟩ := hw'; subst hw''))
          go_wp2
          go_roundw
          case rel => exact ⟨1, by omega, by go_num, _, rfl⟩
          case measure => simp [intOf]; omega
        | succ j =>
          obtain ⟨g0, ⟨_, _, _⟩, _, g6⟩ := HG.out j (by omega)
          obtain ⟨b', off', e, _, f0, _⟩ := span_cells r2 g0
          simp only [Option.some.injEq, Addr.mk.injEq, and_true] at e
          obtain ⟨rfl, rfl⟩ := e
          dsimp only at f0
          obtain ⟨y, hy⟩ : ∃ y, y = sx t size every j := ⟨_, rfl⟩
          rw [g6] at f1 f2 g2 g3 g4 g5
          rw [← hy] at f1 f2 f0 g2 g3 g4 g5
          clear g1 g0 g6 r2 hy
          have e1 : (y + every + size - (y + every) != size) = false := by simp; omega
          have e2 : decide (t < y + every) = false := by simp; omega
          have e3 : decide (y + every + size ≤ t) = false := by simp; omega
          have e4 : ((y + every) != (y + every)) = false := by simp
          rw [show ((j + 1 : Nat) : Int) = (j : Int) + 1 from rfl]
          go_wp2
          (refine wp_region_quiet_lit (by kernel_rfl) (by kernel_rfl) ?_; (repeat (any_goals (first | go_big_quiet_step (fail) | quiet_step (fail)))); all_goals (refine wpQuiet_nil ?_; intro _ hw'; obtain ⟨nq, hw''⟩ := hw'; subst hw''))
          go_wp2
          go_roundw
          case rel => exact ⟨j + 1 + 1, by omega, by go_num, _, rfl⟩
          case measure => simp [intOf]; omega
      · obtain rfl : k = K := by omega
        go_wp2
        go_ret
        exact ⟨rfl, (by repeat (first | exact Below.refl _ _ | assumption | (with_reducible exact Env.below (by assumption)) | (with_reducible refine below_new ?_ _) | (with_reducible refine below_drew ?_) | (with_reducible refine below_drewN ?_ _) | (with_reducible refine below_put ?_ ?_ _; rotate_left 1; (dsimp only; omega)) | (refine below_then ?_ (by assumption))))⟩
  · have h1 : decide (sfit t size every) = false := by simp [hf]
    clear hf
    go_enter Try.func14, Try.ntmps14
    go_wp2_with (first
      | (go_at_call 37; refine (alive14 _).mono ?_; rintro r w1 ⟨rfl, hb1⟩)
      | (go_at_call 38; refine (fit_any _ _ _ ws we _).mono ?_; rintro r w2 ⟨rfl, rfl⟩))
    go_ret
    exact ⟨rfl, (by repeat (first | exact Below.refl _ _ | assumption | (with_reducible exact Env.below (by assumption)) | (with_reducible refine below_new ?_ _) | (with_reducible refine below_drew ?_) | (with_reducible refine below_drewN ?_ _) | (with_reducible refine below_put ?_ ?_ _; rotate_left 1; (dsimp only; omega)) | (refine below_then ?_ (by assumption))))⟩
end Go.Proofs.Ytkpgigkcnmjbdaa
