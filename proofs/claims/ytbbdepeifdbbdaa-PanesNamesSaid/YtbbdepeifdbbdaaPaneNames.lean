/- The walk of PanesNames: the limits and errors of chapter 19. No condition. -/
import Derived.Test.YtbbdepeifdbbdaaPaneNPlain
namespace Go.Proofs.Ytbbdepeifdbbdaa
open Go.RowKit Go.ChangeShapes Go.WideShapes Go.ChangeAt Go.Deep

set_option maxHeartbeats 16000000 in
set_option maxRecDepth 100000 in
theorem panesNames_walk (w : World) : Calls Try.prog 5 #[] w fun r w' => r = .returned (.bool true) ∧ Below w.heap.size w w' := by
  obtain ⟨M1, hm1, hr1⟩ := make_recs 241 241 rfl (by omega)
  obtain ⟨M2, hm2, hr2⟩ := make_recs 240 240 rfl (by omega)
  have sz := fun a b h1 h2 W => size_any a b h1 h2 W
  have za := fun W => size_any 0 1 (by decide) (by decide) W
  have zb := fun W => size_any 17 1 (by decide) (by decide) W
  have zc := fun W => size_any 3 4 (by decide) (by decide) W
  have zd := fun W => size_any 1073741824 1073741823 (by decide) (by decide) W
  rw [nz_a] at za
  rw [nz_b] at zb
  rw [nz_c] at zc
  rw [nz_d] at zd
  have hrw := fun W => rwindow_any 0 0 0 (by decide) W
  rw [show wchk 0 0 0 = 8 by decide] at hrw
  have ZA := Lib.hid za; have ZB := Lib.hid zb; have ZC := Lib.hid zc; have ZD := Lib.hid zd; have HRW := Lib.hid hrw
  clear sz za zb zc zd hrw
  go_enter Try.func5, Try.ntmps5
  go_wp2_with fail
  go_at_call 33
  refine (ex19_any _).mono ?_
  rintro r w1 ⟨rfl, hb1⟩
  have hl1 := (Loc.nil w1).new [.int .u8 2, .int .i64 10, .int .i64 4] 23
  have hbb1 := below_new hb1 (.cells #[.int .u8 2, .int .i64 10, .int .i64 4] 23)
  clear hb1
  have hF := hl1
  (repeat unfold Loc at hF)
  go_wp2_with fail
  go_at_call 25
  refine (ZA.out _).mono ?_
  rintro r w2 ⟨rfl, hb2⟩
  have hl2 := hl1.below hb2
  have hbb2 := below_then hbb1 hb2
  clear hF hl1 hbb1 hb2
  have hF := hl2
  (repeat unfold Loc at hF)
  go_wp2_with fail
  go_at_call 25
  refine (ZB.out _).mono ?_
  rintro r w3 ⟨rfl, hb3⟩
  have hl3 := hl2.below hb3
  have hbb3 := below_then hbb2 hb3
  clear hF hl2 hbb2 hb3
  have hF := hl3
  (repeat unfold Loc at hF)
  go_wp2_with fail
  go_at_call 25
  refine (ZC.out _).mono ?_
  rintro r w4 ⟨rfl, hb4⟩
  have hl4 := hl3.below hb4
  have hbb4 := below_then hbb3 hb4
  clear hF hl3 hbb3 hb4
  have hF := hl4
  (repeat unfold Loc at hF)
  go_wp2_with fail
  go_at_call 25
  refine (ZD.out _).mono ?_
  rintro r w5 ⟨rfl, hb5⟩
  have hl5 := hl4.below hb5
  have hbb5 := below_then hbb4 hb5
  clear hF hl4 hbb4 hb5
  have hF := hl5
  (repeat unfold Loc at hF)
  go_wp2_with fail
  go_at_call 27
  refine (parts_any 0 0 0 0 0 (by decide) _).mono ?_
  rintro r w6 h
  obtain ⟨A6, c6, rfl, m6, -, -, -, hb6⟩ := partsR_of (m := 0) np_e rfl h
  clear h
  have hl6 := hl5.below hb6
  have hbb6 := below_then hbb5 hb6
  clear hF hl5 hbb5 hb6
  have hF := hl6
  (repeat unfold Loc at hF)
  go_wp2_with fail
  go_at_call 27
  refine (parts_any 1 4 0 0 4 (by decide) _).mono ?_
  rintro r w7 h
  obtain ⟨A7, c7, rfl, m7, -, -, -, hb7⟩ := partsR_of (m := 0) np_f rfl h
  clear h
  have hl7 := hl6.below hb7
  have hbb7 := below_then hbb6 hb7
  clear hF hl6 hbb6 hb7
  have hF := hl7
  (repeat unfold Loc at hF)
  go_wp2_with fail
  go_at_call 27
  refine (parts_any 2 10 4 2 12 (by decide) _).mono ?_
  rintro r w8 h
  obtain ⟨A8, c8, rfl, m8, -, -, -, hb8⟩ := partsR_of (m := 0) np_g rfl h
  clear h
  have hl8 := hl7.below hb8
  have hbb8 := below_then hbb7 hb8
  clear hF hl7 hbb7 hb8
  have hF := hl8
  (repeat unfold Loc at hF)
  go_wp2_with fail
  go_at_call 27
  refine (parts_any 2 10 4 4 13 (by decide) _).mono ?_
  rintro r w9 h
  obtain ⟨A9, c9, rfl, m9, -, -, -, hb9⟩ := partsR_of (m := 0) np_h rfl h
  clear h
  have hl9 := hl8.below hb9
  have hbb9 := below_then hbb8 hb9
  clear hF hl8 hbb8 hb9
  have hF := hl9
  (repeat unfold Loc at hF)
  go_wp2_with fail
  go_at_call 27
  refine (parts_any 2 10 4 1099511627780 1099511627790 (by decide) _).mono ?_
  rintro r w10 h
  obtain ⟨A10, c10, rfl, m10, -, -, -, hb10⟩ := partsR_of (m := 0) np_i rfl h
  clear h
  have hl10 := hl9.below hb10
  have hbb10 := below_then hbb9 hb10
  clear hF hl9 hbb9 hb10
  have hF := hl10
  (repeat unfold Loc at hF)
  go_wp2_with fail
  go_at_call 27
  refine (parts_any 2 4001 4000 0 4001 (by decide) _).mono ?_
  rintro r w11 h
  obtain ⟨A11, c11, rfl, m11, -, -, -, hb11⟩ := partsR_of (m := 0) np_j rfl h
  clear h
  have hl11 := hl10.below hb11
  have hbb11 := below_then hbb10 hb11
  clear hF hl10 hbb10 hb11
  have hF := hl11
  (repeat unfold Loc at hF)
  go_wp2_with fail
  go_at_call 27
  refine (parts_any 2 4000 3999 3999 7999 (by decide) _).mono ?_
  rintro r w12 h
  obtain ⟨A12, c12, rfl, m12, -, -, -, hb12⟩ := partsR_of (m := 4000) np_k (partsL_len _ _ _) h
  clear h
  have hl12 := hl11.below hb12
  have hbb12 := below_then hbb11 hb12
  clear hF hl11 hbb11 hb12
  have hF := hl12
  (repeat unfold Loc at hF)
  go_wp2_with fail
  go_at_call 29
  refine (values_any _ 241 241 (List.replicate 241 rz) 3 4 0 (by decide) _ List.length_replicate (by omega) ((hr1 w12).more (by simp)) (by intro x hx; rw [List.eq_of_mem_replicate hx]; exact ⟨rfl, by decide⟩)).mono ?_
  rintro r w13 h
  obtain ⟨A13, c13, rfl, m13, -, -, -, hb13⟩ := valsR_of (m := 0) nn_l rfl h
  clear h
  replace hb13 := below_then (below_new (Below.refl _ _) _) hb13
  have hl13 := hl12.below hb13
  have hbb13 := below_then hbb12 hb13
  clear hF hl12 hbb12 hb13
  have hF := hl13
  (repeat unfold Loc at hF)
  go_wp2_with fail
  obtain ⟨lE0, hE0, hR0⟩ := Env.abs (w0 := w13) (Below.refl _ _) hl13
  (repeat unfold Loc at hR0)
  clear hF
  refine wp_region_held_drew (S := Env w13 lE0) (by kernel_rfl) (by (first | assumption | exact Env.step (by assumption) (by assumption) | exact Env.old (by assumption) _ | exact Env.drew hE | exact hE | exact Env.drew (by assumption) | exact Env.drew (Env.old (by assumption) _) | ((repeat first | refine Env.far0 ?_ (by assumption) _ | refine Env.far1 ?_ (by assumption) _ | refine Env.farA ?_ (by assumption) _); assumption))) (fun hHeld => ?_)
  refine hTake 0 (by kernel_rfl) (by kernel_rfl) (by kernel_rfl) (by decide) (by assumption) ?_; (intro oi hoi; simp only [List.getElem?_toArray, List.getElem?_cons_zero] at hoi; obtain rfl := Option.some.inj hoi; clear hoi); refine ⟨rfl, ?_⟩; apply Exists.intro; refine ⟨?_, fun _ _ _ h => h, ?_⟩; (intro w hSw; (try dsimp only at hSw); go_simp; (try with_reducible rfl)); (try simp only [Act.put, List.setIfInBounds_toArray, List.set_cons_zero, List.set_cons_succ])
  refine hOnly 1 (by kernel_rfl) (by decide) ?_; (intro oi hoi; simp only [List.getElem?_toArray, List.getElem?_cons_succ, List.getElem?_cons_zero] at hoi; obtain rfl := Option.some.inj hoi; clear hoi); intro K hK; go_simp
  have hEM : Env w13 lE0 (w13.drew.alloc (.cells M1 31)) := Env.old (Env.drew hE0) _
  refine hK.out _ _ hEM (fun hHeld => ?_)
  clear hK K
  (try simp only [Act.put, List.setIfInBounds_toArray, List.set_cons_zero, List.set_cons_succ])
  refine hOnly 2 (by kernel_rfl) (by decide) ?_; (intro oi hoi; simp only [List.getElem?_toArray, List.getElem?_cons_succ, List.getElem?_cons_zero] at hoi; obtain rfl := Option.some.inj hoi; clear hoi); intro K hK; go_simp
  go_at_call 29
  refine (values_any _ 241 241 (List.replicate 241 rz) 2 10 4 (by decide) _ List.length_replicate (by omega) ((hr1 w13.drew).more (by simp)) (by intro x hx; rw [List.eq_of_mem_replicate hx]; exact ⟨rfl, by decide⟩)).mono ?_
  rintro r w14 h
  obtain ⟨A14, c14, rfl, m14, -, -, -, hbx0⟩ := valsR_of (m := 0) nn_m rfl h
  clear h
  have hE0' := Env.step hbx0 hEM
  refine hK.out _ _ hE0' (fun hHeld => ?_)
  clear hK K
  (try simp only [Act.put, List.setIfInBounds_toArray, List.set_cons_zero, List.set_cons_succ])
  refine hTake 3 (by kernel_rfl) (by kernel_rfl) (by kernel_rfl) (by decide) (by assumption) ?_; (intro oi hoi; simp only [List.getElem?_toArray, List.getElem?_cons_succ, List.getElem?_cons_zero] at hoi; obtain rfl := Option.some.inj hoi; clear hoi); refine ⟨rfl, ?_⟩; apply Exists.intro; refine ⟨?_, fun _ _ _ h => h, ?_⟩; (intro w hSw; (try dsimp only at hSw); go_simp; (try with_reducible rfl)); (try simp only [Act.put, List.setIfInBounds_toArray, List.set_cons_zero, List.set_cons_succ]); refine hTake 4 (by kernel_rfl) (by kernel_rfl) (by kernel_rfl) (by decide) (by assumption) ?_; (intro oi hoi; simp only [List.getElem?_toArray, List.getElem?_cons_succ, List.getElem?_cons_zero] at hoi; obtain rfl := Option.some.inj hoi; clear hoi); refine ⟨rfl, ?_⟩; apply Exists.intro; refine ⟨?_, fun _ _ _ h => h, ?_⟩; (intro w hSw; (try dsimp only at hSw); go_simp; (try with_reducible rfl)); (try simp only [Act.put, List.setIfInBounds_toArray, List.set_cons_zero, List.set_cons_succ]); refine hTake 5 (by kernel_rfl) (by kernel_rfl) (by kernel_rfl) (by decide) (by assumption) ?_; (intro oi hoi; simp only [List.getElem?_toArray, List.getElem?_cons_succ, List.getElem?_cons_zero] at hoi; obtain rfl := Option.some.inj hoi; clear hoi); refine ⟨rfl, ?_⟩; apply Exists.intro; refine ⟨?_, fun _ _ _ h => h, ?_⟩; (intro w hSw; (try dsimp only at hSw); go_simp; (try with_reducible rfl)); (try simp only [Act.put, List.setIfInBounds_toArray, List.set_cons_zero, List.set_cons_succ]); refine hTake 6 (by kernel_rfl) (by kernel_rfl) (by kernel_rfl) (by decide) (by assumption) ?_; (intro oi hoi; simp only [List.getElem?_toArray, List.getElem?_cons_succ, List.getElem?_cons_zero] at hoi; obtain rfl := Option.some.inj hoi; clear hoi); refine ⟨rfl, ?_⟩; apply Exists.intro; refine ⟨?_, fun _ _ _ h => h, ?_⟩; (intro w hSw; (try dsimp only at hSw); go_simp; (try with_reducible rfl)); (try simp only [Act.put, List.setIfInBounds_toArray, List.set_cons_zero, List.set_cons_succ]); refine hTake 7 (by kernel_rfl) (by kernel_rfl) (by kernel_rfl) (by decide) (by assumption) ?_; (intro oi hoi; simp only [List.getElem?_toArray, List.getElem?_cons_succ, List.getElem?_cons_zero] at hoi; obtain rfl := Option.some.inj hoi; clear hoi); refine ⟨rfl, ?_⟩; apply Exists.intro; refine ⟨?_, fun _ _ _ h => h, ?_⟩; (intro w hSw; (try dsimp only at hSw); go_simp; (try with_reducible rfl)); (try simp only [Act.put, List.setIfInBounds_toArray, List.set_cons_zero, List.set_cons_succ])
  refine wpAnyH_done (by kernel_rfl) ?_ _
  have hb14 : Below w13.heap.size w13 w14 := hE0'.1
  have hl14 := hl13.below hb14
  have hbb14 := below_then hbb13 hb14
  clear hR0 hE0 hEM hE0' hbx0 hl13 hbb13 hb14 hHeld
  have hF := hl14
  (repeat unfold Loc at hF)
  go_wp2_with fail
  obtain ⟨lE1, hE1, hR1⟩ := Env.abs (w0 := w14) (Below.refl _ _) hl14
  (repeat unfold Loc at hR1)
  clear hF
  refine wp_region_held_drew (S := Env w14 lE1) (by kernel_rfl) (by (first | assumption | exact Env.step (by assumption) (by assumption) | exact Env.old (by assumption) _ | exact Env.drew hE | exact hE | exact Env.drew (by assumption) | exact Env.drew (Env.old (by assumption) _) | ((repeat first | refine Env.far0 ?_ (by assumption) _ | refine Env.far1 ?_ (by assumption) _ | refine Env.farA ?_ (by assumption) _); assumption))) (fun hHeld => ?_)
  refine hTake 0 (by kernel_rfl) (by kernel_rfl) (by kernel_rfl) (by decide) (by assumption) ?_; (intro oi hoi; simp only [List.getElem?_toArray, List.getElem?_cons_zero] at hoi; obtain rfl := Option.some.inj hoi; clear hoi); refine ⟨rfl, ?_⟩; apply Exists.intro; refine ⟨?_, fun _ _ _ h => h, ?_⟩; (intro w hSw; (try dsimp only at hSw); go_simp; (try with_reducible rfl)); (try simp only [Act.put, List.setIfInBounds_toArray, List.set_cons_zero, List.set_cons_succ])
  refine hOnly 1 (by kernel_rfl) (by decide) ?_; (intro oi hoi; simp only [List.getElem?_toArray, List.getElem?_cons_succ, List.getElem?_cons_zero] at hoi; obtain rfl := Option.some.inj hoi; clear hoi); intro K hK; go_simp
  have hEM : Env w14 lE1 (w14.drew.alloc (.cells M2 31)) := Env.old (Env.drew hE1) _
  refine hK.out _ _ hEM (fun hHeld => ?_)
  clear hK K
  (try simp only [Act.put, List.setIfInBounds_toArray, List.set_cons_zero, List.set_cons_succ])
  refine hOnly 2 (by kernel_rfl) (by decide) ?_; (intro oi hoi; simp only [List.getElem?_toArray, List.getElem?_cons_succ, List.getElem?_cons_zero] at hoi; obtain rfl := Option.some.inj hoi; clear hoi); intro K hK; go_simp
  go_at_call 29
  refine (values_any _ 240 240 (List.replicate 240 rz) 2 10 4 (by decide) _ List.length_replicate (by omega) ((hr2 w14.drew).more (by simp)) (by intro x hx; rw [List.eq_of_mem_replicate hx]; exact ⟨rfl, by decide⟩)).mono ?_
  rintro r w15 h
  obtain ⟨A15, c15, rfl, m15, -, -, rV, hbx1⟩ := valsR_of (m := 3) nn_o rfl h
  clear h
  have hE1' := Env.step hbx1 hEM
  refine hK.out _ _ hE1' (fun hHeld => ?_)
  clear hK K
  (try simp only [Act.put, List.setIfInBounds_toArray, List.set_cons_zero, List.set_cons_succ])
  refine hTake 3 (by kernel_rfl) (by kernel_rfl) (by kernel_rfl) (by decide) (by assumption) ?_; (intro oi hoi; simp only [List.getElem?_toArray, List.getElem?_cons_succ, List.getElem?_cons_zero] at hoi; obtain rfl := Option.some.inj hoi; clear hoi); refine ⟨rfl, ?_⟩; apply Exists.intro; refine ⟨?_, fun _ _ _ h => h, ?_⟩; (intro w hSw; (try dsimp only at hSw); go_simp; (try with_reducible rfl)); (try simp only [Act.put, List.setIfInBounds_toArray, List.set_cons_zero, List.set_cons_succ]); refine hTake 4 (by kernel_rfl) (by kernel_rfl) (by kernel_rfl) (by decide) (by assumption) ?_; (intro oi hoi; simp only [List.getElem?_toArray, List.getElem?_cons_succ, List.getElem?_cons_zero] at hoi; obtain rfl := Option.some.inj hoi; clear hoi); refine ⟨rfl, ?_⟩; apply Exists.intro; refine ⟨?_, fun _ _ _ h => h, ?_⟩; (intro w hSw; (try dsimp only at hSw); go_simp; (try with_reducible rfl)); (try simp only [Act.put, List.setIfInBounds_toArray, List.set_cons_zero, List.set_cons_succ]); refine hTake 5 (by kernel_rfl) (by kernel_rfl) (by kernel_rfl) (by decide) (by assumption) ?_; (intro oi hoi; simp only [List.getElem?_toArray, List.getElem?_cons_succ, List.getElem?_cons_zero] at hoi; obtain rfl := Option.some.inj hoi; clear hoi); refine ⟨rfl, ?_⟩; apply Exists.intro; refine ⟨?_, fun _ _ _ h => h, ?_⟩; (intro w hSw; (try dsimp only at hSw); go_simp; (try with_reducible rfl)); (try simp only [Act.put, List.setIfInBounds_toArray, List.set_cons_zero, List.set_cons_succ]); refine hTake 6 (by kernel_rfl) (by kernel_rfl) (by kernel_rfl) (by decide) (by assumption) ?_; (intro oi hoi; simp only [List.getElem?_toArray, List.getElem?_cons_succ, List.getElem?_cons_zero] at hoi; obtain rfl := Option.some.inj hoi; clear hoi); refine ⟨rfl, ?_⟩; apply Exists.intro; refine ⟨?_, fun _ _ _ h => h, ?_⟩; (intro w hSw; (try dsimp only at hSw); go_simp; (try with_reducible rfl)); (try simp only [Act.put, List.setIfInBounds_toArray, List.set_cons_zero, List.set_cons_succ]); refine hTake 7 (by kernel_rfl) (by kernel_rfl) (by kernel_rfl) (by decide) (by assumption) ?_; (intro oi hoi; simp only [List.getElem?_toArray, List.getElem?_cons_succ, List.getElem?_cons_zero] at hoi; obtain rfl := Option.some.inj hoi; clear hoi); refine ⟨rfl, ?_⟩; apply Exists.intro; refine ⟨?_, fun _ _ _ h => h, ?_⟩; (intro w hSw; (try dsimp only at hSw); go_simp; (try with_reducible rfl)); (try simp only [Act.put, List.setIfInBounds_toArray, List.set_cons_zero, List.set_cons_succ])
  refine wpAnyH_done (by kernel_rfl) ?_ _
  have hb15 : Below w14.heap.size w14 w15 := hE1'.1
  have hl15 := hl14.below hb15
  have hbb15 := below_then hbb14 hb15
  clear hR1 hE1 hEM hE1' hbx1 hl14 hbb14 hb15 hHeld
  have hF := hl15
  (repeat unfold Loc at hF)
  go_wp2_with fail
  go_at_call 29
  refine (values_any _ 1 1 [⟨0, 1099511627777, 0, 0⟩] 2 10 4 (by decide) _ rfl (by omega) ((rd_recs w15 [⟨0, 1099511627777, 0, 0⟩] 31).more (by simp)) (by intro x hx; simp at hx; subst hx; exact ⟨rfl, by decide⟩)).mono ?_
  rintro r w16 h
  obtain ⟨A16, c16, rfl, m16, -, -, -, hb16⟩ := valsR_of (m := 0) nn_p rfl h
  clear h
  replace hb16 := below_then (below_new (Below.refl _ _) _) hb16
  have rV1 := rd_grown rV hb16
  clear rV
  have hl16 := hl15.below hb16
  have hbb16 := below_then hbb15 hb16
  clear hF hl15 hbb15 hb16
  have hF := hl16
  (repeat unfold Loc at hF)
  go_wp2_with fail
  go_at_call 29
  refine (values_any _ 1 1 [⟨0, -1099511627776, 0, 0⟩] 2 10 4 (by decide) _ rfl (by omega) ((rd_recs w16 [⟨0, -1099511627776, 0, 0⟩] 31).more (by simp)) (by intro x hx; simp at hx; subst hx; exact ⟨rfl, by decide⟩)).mono ?_
  rintro r w17 h
  obtain ⟨A17, c17, rfl, m17, -, -, -, hb17⟩ := valsR_of (m := 3) nn_q rfl h
  clear h
  replace hb17 := below_then (below_new (Below.refl _ _) _) hb17
  have rV2 := rd_grown rV1 hb17
  clear rV1
  have hl17 := hl16.below hb17
  have hbb17 := below_then hbb16 hb17
  clear hF hl16 hbb16 hb17
  have hF := hl17
  (repeat unfold Loc at hF)
  go_wp2_with fail
  go_at_call 34
  refine (alive19 _).mono ?_
  rintro r w18 ⟨rfl, hb18⟩
  have rV3 := rd_grown rV2 hb18
  clear rV2
  have hl18 := hl17.below hb18
  have hbb18 := below_then hbb17 hb18
  clear hF hl17 hbb17 hb18
  have hF := hl18
  (repeat unfold Loc at hF)
  go_wp2_with fail
  go_at_call 17
  refine (HRW.out _).mono ?_
  rintro r w19 ⟨rfl, hb19⟩
  have rV4 := rd_grown rV3 hb19
  clear rV3
  have hl19 := hl18.below hb19
  have hbb19 := below_then hbb18 hb19
  clear hF hl18 hbb18 hb19
  have hF := hl19
  (repeat unfold Loc at hF)
  obtain ⟨b, off, hA, -, -, -, -, f3, -⟩ := en_cells rV4 (k := 0) (x := ⟨0, -8, 2, 240, 0, 0, 0, 0, 0, 0, 0⟩) rfl
  subst hA
  simp only [Nat.zero_mul, Nat.add_zero] at f3
  clear rV4
  go_wp2
  go_ret
  exact ⟨rfl, hbb19⟩
end Go.Proofs.Ytbbdepeifdbbdaa
