/- The law SlideNames (chapter 14): limits and errors of the sliding windows. No condition. -/
import Derived.Test.YtkpgigkcnmjbdaaSlideTumble
namespace Go.Proofs.Ytkpgigkcnmjbdaa
open Go.RowKit Go.WideShapes Go.ChangeShapes Go.ChangeAt

set_option maxHeartbeats 16000000 in
set_option maxRecDepth 100000 in
theorem slideNames_walk (w : World) :
    Calls Try.prog 19 #[] w fun e w' => e = .returned (.bool true) ∧ Below w.heap.size w w' := by
  have e0 : (rall 0 0 1).2 = 2 := by decide +kernel
  have e1 : (rall 0 1 0).2 = 2 := by decide +kernel
  have e2 : (rall 0 4 5).2 = 2 := by decide +kernel
  have e3 : (rall 0 17 1).2 = 2 := by decide +kernel
  have e4 : (rall 0 1073741825 1073741824).2 = 2 := by decide +kernel
  have e5 : (rall 1099511627777 10 4).2 = 16 := by decide +kernel
  have e6 : (rall 2199023255552 10 0).2 = 2 := by decide +kernel
  have e7 : (rall (-1099511627776) 16 1).2 = 0 := by decide +kernel
  have l7 : (rall (-1099511627776) 16 1).1.length = 16 := by decide +kernel
  have e8 : (rall 1099511627776 1073741824 67108864).2 = 0 := by decide +kernel
  have l8 : (rall 1099511627776 1073741824 67108864).1.length = 16 := by decide +kernel
  have e9 : (wof 0 0 0 0).2 = 8 := by decide +kernel
  have e10 : (wof 3 5 0 2199023255552).2 = 2 := by decide +kernel
  have e11 : (wof 1 5 0 2199023255552).2 = 16 := by decide +kernel
  have e12 : (wof 2 5 2 (-2199023255552)).2 = 16 := by decide +kernel
  have e13 : (wof 1 5 0 7).2 = 0 := by decide +kernel
  have l13 : (wof 1 5 0 7).1 = [(5, 10)] := by decide +kernel
  have e14 : (rall 0 4611686018427387904 4611686018427387904).2 = 2 := by decide +kernel
  have e15 : (rall 0 10 1152921504606846976).2 = 2 := by decide +kernel
  go_enter Try.func19, Try.ntmps19
  go_wp2_with fail
  refine (sall_any _ _ _ (by rfl) (by rfl) _).mono ?_
  rintro r w1 ⟨v0, rfl, o0, hb1⟩
  obtain ⟨A0, c0, rfl, -⟩ := own_reads o0
  clear o0
  go_wp2_with fail
  refine (sall_any _ _ _ (by rfl) (by rfl) _).mono ?_
  rintro r w2 ⟨v1, rfl, o1, hb2⟩
  obtain ⟨A1, c1, rfl, -⟩ := own_reads o1
  clear o1
  go_wp2_with fail
  refine (sall_any _ _ _ (by rfl) (by rfl) _).mono ?_
  rintro r w3 ⟨v2, rfl, o2, hb3⟩
  obtain ⟨A2, c2, rfl, -⟩ := own_reads o2
  clear o2
  go_wp2_with fail
  refine (sall_any _ _ _ (by rfl) (by rfl) _).mono ?_
  rintro r w4 ⟨v3, rfl, o3, hb4⟩
  obtain ⟨A3, c3, rfl, -⟩ := own_reads o3
  clear o3
  go_wp2_with fail
  refine (sall_any _ _ _ (by rfl) (by rfl) _).mono ?_
  rintro r w5 ⟨v4, rfl, o4, hb5⟩
  obtain ⟨A4, c4, rfl, -⟩ := own_reads o4
  clear o4
  go_wp2_with fail
  refine (sall_any _ _ _ (by rfl) (by rfl) _).mono ?_
  rintro r w6 ⟨v5, rfl, o5, hb6⟩
  obtain ⟨A5, c5, rfl, -⟩ := own_reads o5
  clear o5
  go_wp2_with fail
  refine (sall_any _ _ _ (by rfl) (by rfl) _).mono ?_
  rintro r w7 ⟨v6, rfl, o6, hb7⟩
  obtain ⟨A6, c6, rfl, -⟩ := own_reads o6
  clear o6
  go_wp2_with fail
  refine (sall_any _ _ _ (by rfl) (by rfl) _).mono ?_
  rintro r w8 ⟨v7, rfl, o7, hb8⟩
  obtain ⟨A7, c7, rfl, -⟩ := own_reads o7
  rw [l7]
  clear o7
  go_wp2_with fail
  refine (sall_any _ _ _ (by rfl) (by rfl) _).mono ?_
  rintro r w9 ⟨v8, rfl, o8, hb9⟩
  obtain ⟨A8, c8, rfl, -⟩ := own_reads o8
  rw [l8]
  clear o8
  go_wp2_with fail
  refine (sof_any _ _ _ _ (by rfl) _).mono ?_
  rintro r w10 ⟨v9, rfl, o9, hb10⟩
  obtain ⟨A9, c9, rfl, -⟩ := own_reads o9
  clear o9
  go_wp2_with fail
  refine (sof_any _ _ _ _ (by rfl) _).mono ?_
  rintro r w11 ⟨v10, rfl, o10, hb11⟩
  obtain ⟨A10, c10, rfl, -⟩ := own_reads o10
  clear o10
  go_wp2_with fail
  refine (sof_any _ _ _ _ (by rfl) _).mono ?_
  rintro r w12 ⟨v11, rfl, o11, hb12⟩
  obtain ⟨A11, c11, rfl, -⟩ := own_reads o11
  clear o11
  go_wp2_with fail
  refine (sof_any _ _ _ _ (by rfl) _).mono ?_
  rintro r w13 ⟨v12, rfl, o12, hb13⟩
  obtain ⟨A12, c12, rfl, -⟩ := own_reads o12
  clear o12
  go_wp2_with fail
  refine (sof_any _ _ _ _ (by rfl) _).mono ?_
  rintro r w14 ⟨v13, rfl, o13, hb14⟩
  rw [l13] at o13
  obtain ⟨A13, c13, rfl, r1⟩ := own_reads o13
  clear o13 l13
  go_wp2_with fail
  refine (sall_any _ _ _ (by rfl) (by rfl) _).mono ?_
  rintro r w15 ⟨v14, rfl, o14, hb15⟩
  obtain ⟨A14, c14, rfl, -⟩ := own_reads o14
  clear o14
  replace r1 := r1.grow hb15
  go_wp2_with fail
  refine (sall_any _ _ _ (by rfl) (by rfl) _).mono ?_
  rintro r w16 ⟨v15, rfl, o15, hb16⟩
  obtain ⟨A15, c15, rfl, -⟩ := own_reads o15
  clear o15
  replace r1 := r1.grow hb16
  go_wp2_with (first
    | (go_at_call 37; refine (alive14 _).mono ?_; rintro r w20 ⟨rfl, hb20⟩; replace r1 := r1.grow hb20)
    | (go_at_call 45; fail))
  refine (same_one A13 c13 5 10 _ r1).mono ?_
  rintro r w21 ⟨rfl, hb21⟩
  go_wp2_with fail
  go_ret
  exact ⟨rfl, (by repeat (first | exact Below.refl _ _ | assumption | (with_reducible exact Env.below (by assumption)) | (with_reducible refine below_new ?_ _) | (with_reducible refine below_drew ?_) | (with_reducible refine below_drewN ?_ _) | (with_reducible refine below_put ?_ ?_ _; rotate_left 1; (dsimp only; omega)) | (refine below_then ?_ (by assumption))))⟩
end Go.Proofs.Ytkpgigkcnmjbdaa
