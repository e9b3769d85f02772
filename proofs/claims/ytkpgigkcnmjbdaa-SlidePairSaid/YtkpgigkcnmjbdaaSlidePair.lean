/- The law SlidePair (chapter 14): two times. No condition. -/
import Derived.Test.YtkpgigkcnmjbdaaSlideLaws
import Derived.Test.YtkpgigkcnmjbdaaSlidePlain2
namespace Go.Proofs.Ytkpgigkcnmjbdaa
open Go.RowKit Go.WideShapes Go.ChangeShapes Go.ChangeAt

theorem sx_add (t size every : Int) (k : Nat) : sx t size every k = sx t size every 0 + k * every := by
  induction k with
  | zero => simp
  | succ k ih => rw [sx_succ, ih, show ((k + 1 : Nat) : Int) = (k : Int) + 1 from rfl, Int.add_mul]; omega
/-- Of two times: the windows of the earlier one from number d on are those of the later one, from its first one on. -/
theorem pair_plain {t u size every : Int} (hr : sright size every) (h0 : t ≤ u) : ∃ d : Nat,
    (∀ i, i < scount t size every → i < d → sx t size every i + size ≤ u) ∧
    (∀ i, i < scount t size every → d ≤ i → u < sx t size every i + size ∧ i - d < scount u size every ∧ sx u size every (i - d) = sx t size every i) ∧
    (scount t size every - d < scount u size every → t < sx u size every (scount t size every - d)) := by
  obtain ⟨k1, k2, -, -⟩ := scount_facts (t := t) hr
  obtain ⟨l1, l2, -, -⟩ := scount_facts (t := u) hr
  have z1 := sx_zero (t := t) hr
  have z2 := sx_zero (t := u) hr
  have f2 := sx_facts (t := u) hr (k := 0) (by omega)
  have a1 := sx_add t size every
  have a2 := sx_add u size every
  have e1 := sx_last t size every (scount t size every - 1) (by omega)
  have e2 := sx_last u size every (scount u size every - 1) (by omega)
  obtain ⟨s1, s2, s3, s4, s5⟩ := hr
  have q1 := Int.lt_ediv_add_one_mul_self t (by omega : 0 < every)
  have q2 := Int.lt_ediv_add_one_mul_self u (by omega : 0 < every)
  have q3 := Int.ediv_mul_le t (by omega : every ≠ 0)
  rw [Int.add_mul, Int.one_mul] at q1 q2
  rw [a1] at e1
  rw [a2] at e2
  -- the difference of the first numbers
  obtain ⟨D, hD⟩ : ∃ D : Int, D = (u / every - scount u size every) - (t / every - scount t size every) := ⟨_, rfl⟩
  have hx : sx u size every 0 = sx t size every 0 + D * every := by
    unfold sx
    rw [← Int.add_mul]; congr 1; omega
  have hD0 : 0 ≤ D := by
    rcases Int.lt_or_le D 0 with h | h
    · have : D * every ≤ -1 * every := Int.mul_le_mul_of_nonneg_right (by omega) (by omega)
      omega
    · exact h
  refine ⟨D.toNat, fun i hi hd => ?_, fun i hi hd => ?_, fun hc => ?_⟩
  · have : (i : Int) * every ≤ (D - 1) * every := Int.mul_le_mul_of_nonneg_right (by omega) (by omega)
    rw [Int.sub_mul] at this
    rw [a1]; omega
  · have h3 : D * every ≤ (i : Int) * every := Int.mul_le_mul_of_nonneg_right (by omega) (by omega)
    have h4 : ((i - D.toNat : Nat) : Int) * every = (i : Int) * every - D * every := by rw [← Int.sub_mul]; congr 1; omega
    refine ⟨by rw [a1]; omega, ?_, by rw [a1, a2]; omega⟩
    rcases Nat.lt_or_ge (i - D.toNat) (scount u size every) with h | h
    · exact h
    · exfalso
      have h5 : ((scount u size every - 1 : Nat) : Int) * every + every ≤ ((i - D.toNat : Nat) : Int) * every := by
        have : (((scount u size every - 1 : Nat) : Int) + 1) * every ≤ ((i - D.toNat : Nat) : Int) * every := Int.mul_le_mul_of_nonneg_right (by omega) (by omega)
        rw [Int.add_mul, Int.one_mul] at this
        exact this
      have h6 : (i : Int) * every ≤ ((scount t size every - 1 : Nat) : Int) * every := Int.mul_le_mul_of_nonneg_right (by omega) (by omega)
      omega
  · rw [a2]
    have h5 : ((scount t size every - 1 : Nat) : Int) * every + every ≤ (((scount t size every - D.toNat : Nat) : Int) + D) * every := by
      have : (((scount t size every - 1 : Nat) : Int) + 1) * every ≤ (((scount t size every - D.toNat : Nat) : Int) + D) * every := Int.mul_le_mul_of_nonneg_right (by omega) (by omega)
      rw [Int.add_mul, Int.one_mul] at this
      exact this
    rw [Int.add_mul] at h5
    omega

set_option maxHeartbeats 16000000 in
set_option maxRecDepth 100000 in
theorem slidePair_walk (t : Int) (_wt : (Lit.int .i64 t).wf = true) (later : Int) (_wl : (Lit.int .i64 later).wf = true) (size : Int) (ws : (Lit.int .i64 size).wf = true) (every : Int) (we : (Lit.int .i64 every).wf = true) (w : World) :
    Calls Try.prog 16 #[.int .i64 t, .int .i64 later, .int .i64 size, .int .i64 every] w fun e w' => e = .returned (.bool true) ∧ Below w.heap.size w w' := by
  by_cases h0 : later < 0
  · have h1 : decide (later < 0) = true := by simp [h0]
    go_enter Try.func16, Try.ntmps16
    go_wp2_with (first
      | (go_at_call 37; refine (alive14 _).mono ?_; rintro r w1 ⟨rfl, hb1⟩))
    go_ret
    exact ⟨rfl, (by repeat (first | exact Below.refl _ _ | assumption | (with_reducible exact Env.below (by assumption)) | (with_reducible refine below_new ?_ _) | (with_reducible refine below_drew ?_) | (with_reducible refine below_drewN ?_ _) | (with_reducible refine below_put ?_ ?_ _; rotate_left 1; (dsimp only; omega)) | (refine below_then ?_ (by assumption))))⟩
  by_cases h2 : 2147483648 < later
  · have h3 : decide (later < 0) = false := by simp; omega
    have h4 : decide (2147483648 < later) = true := by simp [h2]
    go_enter Try.func16, Try.ntmps16
    go_wp2_with (first
      | (go_at_call 37; refine (alive14 _).mono ?_; rintro r w1 ⟨rfl, hb1⟩))
    go_ret
    exact ⟨rfl, (by repeat (first | exact Below.refl _ _ | assumption | (with_reducible exact Env.below (by assumption)) | (with_reducible refine below_new ?_ _) | (with_reducible refine below_drew ?_) | (with_reducible refine below_drewN ?_ _) | (with_reducible refine below_put ?_ ?_ _; rotate_left 1; (dsimp only; omega)) | (refine below_then ?_ (by assumption))))⟩
  have h3 : decide (later < 0) = false := by simp; omega
  have h4 : decide (2147483648 < later) = false := by simp; omega
  by_cases hf : sfit t size every
  · have h1 : decide (sfit t size every) = true := by simp [hf]
    obtain ⟨hr, ht⟩ := hf
    obtain ⟨t1, t2, t3, t4⟩ := tchk_zero.1 ht
    by_cases hg : sfit (t + later) size every
    · have h5 : decide (sfit (t + later) size every) = true := by simp [hg]
      obtain ⟨-, -, -, t5⟩ := tchk_zero.1 hg.2
      obtain ⟨d, p1, p2, p3⟩ := pair_plain (t := t) (u := t + later) hr (by omega)
      obtain ⟨u, hu⟩ : ∃ u, u = t + later := ⟨_, rfl⟩
      have hla := swins_len (t := t) hr
      have hlb := swins_len (t := u) hr
      rw [← hu] at p1 p2 p3
      have hga := fun k (hk : k < scount t size every) => And.intro (swins_get (t := t) hr hk) (sx_facts hr hk)
      have hgb := fun k (hk : k < scount u size every) => And.intro (swins_get (t := u) hr hk) (sx_facts hr hk)
      obtain ⟨k1, k2, -, -⟩ := scount_facts (t := t) hr
      obtain ⟨k3, k4, -, -⟩ := scount_facts (t := u) hr
      obtain ⟨K, hK⟩ : ∃ K, K = scount t size every := ⟨_, rfl⟩
      obtain ⟨L, hL⟩ : ∃ L, L = scount u size every := ⟨_, rfl⟩
      rw [← hK] at p1 p2 p3 hga hla k1 k2
      rw [← hL] at p2 p3 hgb hlb k3 k4
      obtain ⟨s1, s2, s3, s4, s5⟩ := hr
      have P1 := Lib.hid p1; have P2 := Lib.hid p2; have P3 := Lib.hid p3; have GA := Lib.hid hga; have GB := Lib.hid hgb; have LA := Lib.hid hla; have LB := Lib.hid hlb
      have HU := Lib.hid hu
      clear p1 p2 p3 hga hgb hla hlb hK hL hg ht hu
      go_enter Try.func16, Try.ntmps16
      go_wp2_with (first
        | (go_at_call 37; refine (alive14 _).mono ?_; rintro r w1 ⟨rfl, hb1⟩)
        | (go_at_call 38; refine (fit_any _ _ _ ws we _).mono ?_; rintro r w2 ⟨rfl, rfl⟩)
        | (go_at_call 39; fail))
      refine (sall_ok _ _ _ _ ⟨s1, s2, s3, s4, s5⟩ t3 t4).mono ?_
      rintro r w2 ⟨v1, rfl, o1, hb2⟩
      obtain ⟨A, c, rfl, r1⟩ := own_reads o1
      rw [LA.out]
      go_wp2_with fail
      rw [← HU.out]
      refine (sall_ok _ _ _ _ ⟨s1, s2, s3, s4, s5⟩ (by rw [HU.out]; omega) (by rw [HU.out]; exact t5)).mono ?_
      rintro r w3 ⟨v2, rfl, o2, hb3⟩
      obtain ⟨B, e, rfl, r2⟩ := own_reads o2
      rw [LB.out]
      replace r1 := r1.grow hb3
      clear o1 o2
      go_wp2_with fail
      go_loopw [14, 15] (fun n i wr => ∃ k p : Nat, k ≤ K ∧ p = k - d ∧ i = .int .i64 k ∧ n = .int .i64 p ∧ ∃ q : Nat, wr = w3.drewN q) (fun _ i _ => K - (intOf i).toNat)
      case atStart => exact ⟨0, 0, Nat.zero_le _, by omega, rfl, rfl, 0, rfl⟩
      case round =>
        obtain ⟨k, p, hk, hp, rfl, rfl, q, rfl⟩ := hrel
        have HP := Lib.hid hp
        clear hp
        by_cases hlt : k < K
        · obtain ⟨g1, g2, g3, g4⟩ := GA.out k hlt
          obtain ⟨b, off, rfl, hbB, f1, f2⟩ := span_cells r1 g1
          dsimp only at f1 f2
          by_cases hd : k < d
          · have g5 := P1.out k hlt hd
            rw [HU.out] at g5
            obtain ⟨x, hx⟩ : ∃ x, x = sx t size every k := ⟨_, rfl⟩
            rw [← hx] at f1 f2 g2 g3 g4 g5
            clear g1 r1 r2 hx
            go_wp2
            go_roundw
            case rel => exact ⟨k + 1, p, by omega, by have := HP.out; omega, by go_num, rfl, _, rfl⟩
            case measure => simp [intOf]; omega
          · obtain ⟨g5, g6, g7⟩ := P2.out k hlt (by omega)
            rw [← HP.out] at g6 g7
            obtain ⟨g8, -⟩ := GB.out p g6
            rw [g7] at g8
            obtain ⟨b', off', rfl, hbB', f3, f4⟩ := span_cells r2 g8
            dsimp only at f3 f4
            rw [HU.out] at g5
            obtain ⟨x, hx⟩ : ∃ x, x = sx t size every k := ⟨_, rfl⟩
            rw [← hx] at f1 f2 f3 f4 g2 g3 g4 g5
            clear g1 g7 g8 r1 r2 hx
            go_wp2
            (refine wp_region_quiet_lit (by kernel_rfl) (by kernel_rfl) ?_; (repeat (any_goals (first | go_big_quiet_step (fail) | quiet_step (fail)))); all_goals (refine wpQuiet_nil ?_; intro _ hw'; obtain ⟨nq, hw''⟩ := hw'; subst hw''))
            go_wp2
            go_roundw
            case rel => exact ⟨k + 1, p + 1, by omega, by have := HP.out; omega, by go_num, by go_num, _, rfl⟩
            case measure => simp [intOf]; omega
        · obtain rfl : k = K := by omega
          by_cases hpl : p < L
          · obtain ⟨g8, -, -, g9⟩ := GB.out p hpl
            have g10 := P3.out (by rw [← HP.out]; exact hpl)
            rw [← HP.out] at g10
            obtain ⟨b', off', rfl, hbB', f3, f4⟩ := span_cells r2 g8
            dsimp only at f3 f4
            obtain ⟨x, hx⟩ : ∃ x, x = sx u size every p := ⟨_, rfl⟩
            rw [← hx] at f3 f4 g9 g10
            have e1 : ((p : Int) == (L : Int)) = false := by simp; omega
            have e2 : decide (t < x) = true := by simp [g10]
            clear g8 r1 r2 hx
            go_wp2
            go_ret
            exact ⟨rfl, (by repeat (first | exact Below.refl _ _ | assumption | (with_reducible exact Env.below (by assumption)) | (with_reducible refine below_new ?_ _) | (with_reducible refine below_drew ?_) | (with_reducible refine below_drewN ?_ _) | (with_reducible refine below_put ?_ ?_ _; rotate_left 1; (dsimp only; omega)) | (refine below_then ?_ (by assumption))))⟩
          · have hpL : p = L := by
              have := HP.out
              by_cases hkd : k ≤ d
              · omega
              · have := (P2.out (k - 1) (by omega) (by omega)).2.1
                omega
            subst hpL
            go_wp2
            go_ret
            exact ⟨rfl, (by repeat (first | exact Below.refl _ _ | assumption | (with_reducible exact Env.below (by assumption)) | (with_reducible refine below_new ?_ _) | (with_reducible refine below_drew ?_) | (with_reducible refine below_drewN ?_ _) | (with_reducible refine below_put ?_ ?_ _; rotate_left 1; (dsimp only; omega)) | (refine below_then ?_ (by assumption))))⟩
    · have h5 : decide (sfit (t + later) size every) = false := by simp [hg]
      clear hg hr ht
      go_enter Try.func16, Try.ntmps16
      go_wp2_with (first
        | (go_at_call 37; refine (alive14 _).mono ?_; rintro r w1 ⟨rfl, hb1⟩)
        | (go_at_call 38; refine (fit_any _ _ _ ws we _).mono ?_; rintro r w2 ⟨rfl, rfl⟩))
      go_ret
      exact ⟨rfl, (by repeat (first | exact Below.refl _ _ | assumption | (with_reducible exact Env.below (by assumption)) | (with_reducible refine below_new ?_ _) | (with_reducible refine below_drew ?_) | (with_reducible refine below_drewN ?_ _) | (with_reducible refine below_put ?_ ?_ _; rotate_left 1; (dsimp only; omega)) | (refine below_then ?_ (by assumption))))⟩
  · have h1 : decide (sfit t size every) = false := by simp [hf]
    clear hf
    go_enter Try.func16, Try.ntmps16
    go_wp2_with (first
      | (go_at_call 37; refine (alive14 _).mono ?_; rintro r w1 ⟨rfl, hb1⟩)
      | (go_at_call 38; refine (fit_any _ _ _ ws we _).mono ?_; rintro r w2 ⟨rfl, rfl⟩))
    go_ret
    exact ⟨rfl, (by repeat (first | exact Below.refl _ _ | assumption | (with_reducible exact Env.below (by assumption)) | (with_reducible refine below_new ?_ _) | (with_reducible refine below_drew ?_) | (with_reducible refine below_drewN ?_ _) | (with_reducible refine below_put ?_ ?_ _; rotate_left 1; (dsimp only; omega)) | (refine below_then ?_ (by assumption))))⟩
end Go.Proofs.Ytkpgigkcnmjbdaa
