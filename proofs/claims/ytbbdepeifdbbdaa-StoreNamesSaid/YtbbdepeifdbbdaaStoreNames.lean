/- The walk of StoreNames: the limits and errors of a store. No condition. -/
import Derived.Test.YtbbdepeifdbbdaaStoreNPlain
namespace Go.Proofs.Ytbbdepeifdbbdaa
open Go.RowKit Go.ChangeShapes Go.WideShapes Go.ChangeAt Go.Deep

set_option maxHeartbeats 32000000 in
set_option maxRecDepth 100000 in
theorem storeNames_walk (w : World) : Calls Try.prog 10 #[] w fun r w' => r = .returned (.bool true) ∧ Below w.heap.size w w' := by
  obtain ⟨i0, hi0, hz0, hz1, hz2⟩ := info_parts en_info
  go_enter Try.func10, Try.ntmps10
  have hl2 : Loc ((w.alloc (.cells #[.int .u8 1, .int .i64 10, .int .i64 0] 23)).alloc (.cells #[.int .i64 1, .int .i64 0, .int .i64 10, .int .i64 1, .int .i64 0, .int .i64 0, .int .i64 0, .int .i64 0, .int .i64 0, .int .i64 0, .int .i64 0] 43)) [(w.heap.size + 1, [.int .i64 1, .int .i64 0, .int .i64 10, .int .i64 1, .int .i64 0, .int .i64 0, .int .i64 0, .int .i64 0, .int .i64 0, .int .i64 0, .int .i64 0]), (w.heap.size, [.int .u8 1, .int .i64 10, .int .i64 0])] := by
    have h := ((Loc.nil w).new [.int .u8 1, .int .i64 10, .int .i64 0] 23).new [.int .i64 1, .int .i64 0, .int .i64 10, .int .i64 1, .int .i64 0, .int .i64 0, .int .i64 0, .int .i64 0, .int .i64 0, .int .i64 0, .int .i64 0] 43
    rw [World.size_alloc] at h
    exact h
  have hb2 : Below w.heap.size w ((w.alloc (.cells #[.int .u8 1, .int .i64 10, .int .i64 0] 23)).alloc (.cells #[.int .i64 1, .int .i64 0, .int .i64 10, .int .i64 1, .int .i64 0, .int .i64 0, .int .i64 0, .int .i64 0, .int .i64 0, .int .i64 0, .int .i64 0] 43)) := (by repeat (first | with_reducible exact Below.refl _ _ | with_reducible assumption | (with_reducible exact Env.below (by assumption)) | (with_reducible refine below_new ?_ _) | (with_reducible refine below_drew ?_) | (with_reducible refine below_drewN ?_ _) | (with_reducible refine below_put ?_ ?_ _; rotate_left 1; (dsimp only; omega)) | (with_reducible refine below_then ?_ (by assumption))))
  go_wp2_with fail
  go_loopw [3] (fun iv wr => ∃ (k : Nat), iv = .int .i64 k ∧ k ≤ 8 ∧ Loc wr [(w.heap.size + 1, [.int .i64 1, .int .i64 0, .int .i64 10, .int .i64 1, .int .i64 0, .int .i64 0, .int .i64 0, .int .i64 0, .int .i64 0, .int .i64 0, .int .i64 0]), (w.heap.size, [.int .u8 1, .int .i64 10, .int .i64 0])] ∧ Below w.heap.size w wr) (fun iv _ => 8 - (intOf iv).toNat)
  case atStart => exact ⟨0, rfl, by omega, hl2, hb2⟩
  case round =>
    clear hl2 hb2
    obtain ⟨k, rfl, hk, hl, hb⟩ := hrel
    have hF := hl
    (repeat unfold Loc at hF)
    by_cases hlt : k < 8
    · have hwsz : w.heap.size + 1 < wr.heap.size := hl.1
      rcases (show k = 0 ∨ k = 1 ∨ k = 2 ∨ k = 3 ∨ k = 4 ∨ k = 5 ∨ k = 6 ∨ k = 7 by omega) with rfl | rfl | rfl | rfl | rfl | rfl | rfl | rfl
      · go_wp2_with fail
        have hg2 : Loc ((wr.alloc (.cells #[.int .i64 1, .int .i64 0, .int .i64 0, .int .i64 1, .int .i64 0, .int .i64 0, .int .i64 0, .int .i64 0, .int .i64 0, .int .i64 0, .int .i64 0] 43)).alloc (.cells #[.int .i64 1, .int .i64 0, .int .i64 0, .int .i64 1, .int .i64 0, .int .i64 0, .int .i64 0, .int .i64 0, .int .i64 0, .int .i64 0, .int .i64 0] 43)) [(wr.heap.size + 1, ([nX0] : List En).flatMap enenc)] := by have h := (Loc.nil (wr.alloc (.cells #[.int .i64 1, .int .i64 0, .int .i64 0, .int .i64 1, .int .i64 0, .int .i64 0, .int .i64 0, .int .i64 0, .int .i64 0, .int .i64 0, .int .i64 0] 43))).new [.int .i64 1, .int .i64 0, .int .i64 0, .int .i64 1, .int .i64 0, .int .i64 0, .int .i64 0, .int .i64 0, .int .i64 0, .int .i64 0, .int .i64 0] 43; rw [World.size_alloc] at h; exact h
        have hb5 : Below wr.heap.size wr ((wr.alloc (.cells #[.int .i64 1, .int .i64 0, .int .i64 0, .int .i64 1, .int .i64 0, .int .i64 0, .int .i64 0, .int .i64 0, .int .i64 0, .int .i64 0, .int .i64 0] 43)).alloc (.cells #[.int .i64 1, .int .i64 0, .int .i64 0, .int .i64 1, .int .i64 0, .int .i64 0, .int .i64 0, .int .i64 0, .int .i64 0, .int .i64 0, .int .i64 0] 43)) := (by repeat (first | with_reducible exact Below.refl _ _ | with_reducible assumption | (with_reducible exact Env.below (by assumption)) | (with_reducible refine below_new ?_ _) | (with_reducible refine below_drew ?_) | (with_reducible refine below_drewN ?_ _) | (with_reducible refine below_put ?_ ?_ _; rotate_left 1; (dsimp only; omega)) | (with_reducible refine below_then ?_ (by assumption))))
        have rdx := rd_loc enenc_len hg2
        obtain ⟨W5, hW5⟩ : ∃ W5, W5 = ((wr.alloc (.cells #[.int .i64 1, .int .i64 0, .int .i64 0, .int .i64 1, .int .i64 0, .int .i64 0, .int .i64 0, .int .i64 0, .int .i64 0, .int .i64 0, .int .i64 0] 43)).alloc (.cells #[.int .i64 1, .int .i64 0, .int .i64 0, .int .i64 1, .int .i64 0, .int .i64 0, .int .i64 0, .int .i64 0, .int .i64 0, .int .i64 0, .int .i64 0] 43)) := ⟨_, rfl⟩
        rw [← hW5] at hb5 rdx ⊢
        clear hW5 hg2
        go_wp2_with fail
        go_at_call 19
        refine (add_lit17 (addE_bad nb0 0 0 0 0 0 0 5) (by decide) (some ⟨wr.heap.size + 1, 0, none⟩) 1 1 0 W5 rfl rfl (fun h => by cases h) (by decide) rdx).mono ?_
        rintro r w6 ⟨A6, c6, rfl, -, -, -, hb6⟩
        go_wp2_with fail
        go_at_call 22
        refine (fire_lit17 (fireE_bad nb0 0) (some ⟨wr.heap.size + 1, 0, none⟩) 1 1 0 0 w6 rfl rfl rfl (by decide) (rd_grown rdx hb6)).mono ?_
        rintro r x7 ⟨A7, e7, A8, e8, rfl, ha7⟩
        go_wp2_with fail
        go_at_call 43
        refine (chk_lit17 nb0 (some ⟨wr.heap.size + 1, 0, none⟩) 1 1 x7 rfl (by decide) (rd_grown rdx (below_then hb6 ha7))).mono ?_
        rintro r w8 ⟨rfl, hb8⟩
        have hb58 := below_then hb5 (below_then hb6 (below_then ha7 hb8))
        go_wp2
        go_roundw
        case rel => exact ⟨1, by rfl, by omega, hl.below hb58, below_then hb hb58⟩
        case measure => simp [intOf]
      · go_wp2_with fail
        have hg2 : Loc ((wr.alloc (.cells #[.int .i64 1, .int .i64 0, .int .i64 10, .int .i64 0, .int .i64 0, .int .i64 0, .int .i64 0, .int .i64 0, .int .i64 0, .int .i64 0, .int .i64 0] 43)).alloc (.cells #[.int .i64 1, .int .i64 0, .int .i64 10, .int .i64 0, .int .i64 0, .int .i64 0, .int .i64 0, .int .i64 0, .int .i64 0, .int .i64 0, .int .i64 0] 43)) [(wr.heap.size + 1, ([nX1] : List En).flatMap enenc)] := by have h := (Loc.nil (wr.alloc (.cells #[.int .i64 1, .int .i64 0, .int .i64 10, .int .i64 0, .int .i64 0, .int .i64 0, .int .i64 0, .int .i64 0, .int .i64 0, .int .i64 0, .int .i64 0] 43))).new [.int .i64 1, .int .i64 0, .int .i64 10, .int .i64 0, .int .i64 0, .int .i64 0, .int .i64 0, .int .i64 0, .int .i64 0, .int .i64 0, .int .i64 0] 43; rw [World.size_alloc] at h; exact h
        have hb5 : Below wr.heap.size wr ((wr.alloc (.cells #[.int .i64 1, .int .i64 0, .int .i64 10, .int .i64 0, .int .i64 0, .int .i64 0, .int .i64 0, .int .i64 0, .int .i64 0, .int .i64 0, .int .i64 0] 43)).alloc (.cells #[.int .i64 1, .int .i64 0, .int .i64 10, .int .i64 0, .int .i64 0, .int .i64 0, .int .i64 0, .int .i64 0, .int .i64 0, .int .i64 0, .int .i64 0] 43)) := (by repeat (first | with_reducible exact Below.refl _ _ | with_reducible assumption | (with_reducible exact Env.below (by assumption)) | (with_reducible refine below_new ?_ _) | (with_reducible refine below_drew ?_) | (with_reducible refine below_drewN ?_ _) | (with_reducible refine below_put ?_ ?_ _; rotate_left 1; (dsimp only; omega)) | (with_reducible refine below_then ?_ (by assumption))))
        have rdx := rd_loc enenc_len hg2
        obtain ⟨W5, hW5⟩ : ∃ W5, W5 = ((wr.alloc (.cells #[.int .i64 1, .int .i64 0, .int .i64 10, .int .i64 0, .int .i64 0, .int .i64 0, .int .i64 0, .int .i64 0, .int .i64 0, .int .i64 0, .int .i64 0] 43)).alloc (.cells #[.int .i64 1, .int .i64 0, .int .i64 10, .int .i64 0, .int .i64 0, .int .i64 0, .int .i64 0, .int .i64 0, .int .i64 0, .int .i64 0, .int .i64 0] 43)) := ⟨_, rfl⟩
        rw [← hW5] at hb5 rdx ⊢
        clear hW5 hg2
        go_wp2_with fail
        go_at_call 19
        refine (add_lit17 (addE_bad nb1 0 0 0 0 0 0 5) (by decide) (some ⟨wr.heap.size + 1, 0, none⟩) 1 1 0 W5 rfl rfl (fun h => by cases h) (by decide) rdx).mono ?_
        rintro r w6 ⟨A6, c6, rfl, -, -, -, hb6⟩
        go_wp2_with fail
        go_at_call 22
        refine (fire_lit17 (fireE_bad nb1 0) (some ⟨wr.heap.size + 1, 0, none⟩) 1 1 0 0 w6 rfl rfl rfl (by decide) (rd_grown rdx hb6)).mono ?_
        rintro r x7 ⟨A7, e7, A8, e8, rfl, ha7⟩
        go_wp2_with fail
        go_at_call 43
        refine (chk_lit17 nb1 (some ⟨wr.heap.size + 1, 0, none⟩) 1 1 x7 rfl (by decide) (rd_grown rdx (below_then hb6 ha7))).mono ?_
        rintro r w8 ⟨rfl, hb8⟩
        have hb58 := below_then hb5 (below_then hb6 (below_then ha7 hb8))
        go_wp2
        go_roundw
        case rel => exact ⟨2, by rfl, by omega, hl.below hb58, below_then hb hb58⟩
        case measure => simp [intOf]
      · go_wp2_with fail
        have hg2 : Loc ((wr.alloc (.cells #[.int .i64 1, .int .i64 0, .int .i64 10, .int .i64 1, .int .i64 0, .int .i64 0, .int .i64 0, .int .i64 0, .int .i64 1, .int .i64 0, .int .i64 0] 43)).alloc (.cells #[.int .i64 1, .int .i64 0, .int .i64 10, .int .i64 1, .int .i64 0, .int .i64 0, .int .i64 0, .int .i64 0, .int .i64 1, .int .i64 0, .int .i64 0] 43)) [(wr.heap.size + 1, ([nX2] : List En).flatMap enenc)] := by have h := (Loc.nil (wr.alloc (.cells #[.int .i64 1, .int .i64 0, .int .i64 10, .int .i64 1, .int .i64 0, .int .i64 0, .int .i64 0, .int .i64 0, .int .i64 1, .int .i64 0, .int .i64 0] 43))).new [.int .i64 1, .int .i64 0, .int .i64 10, .int .i64 1, .int .i64 0, .int .i64 0, .int .i64 0, .int .i64 0, .int .i64 1, .int .i64 0, .int .i64 0] 43; rw [World.size_alloc] at h; exact h
        have hb5 : Below wr.heap.size wr ((wr.alloc (.cells #[.int .i64 1, .int .i64 0, .int .i64 10, .int .i64 1, .int .i64 0, .int .i64 0, .int .i64 0, .int .i64 0, .int .i64 1, .int .i64 0, .int .i64 0] 43)).alloc (.cells #[.int .i64 1, .int .i64 0, .int .i64 10, .int .i64 1, .int .i64 0, .int .i64 0, .int .i64 0, .int .i64 0, .int .i64 1, .int .i64 0, .int .i64 0] 43)) := (by repeat (first | with_reducible exact Below.refl _ _ | with_reducible assumption | (with_reducible exact Env.below (by assumption)) | (with_reducible refine below_new ?_ _) | (with_reducible refine below_drew ?_) | (with_reducible refine below_drewN ?_ _) | (with_reducible refine below_put ?_ ?_ _; rotate_left 1; (dsimp only; omega)) | (with_reducible refine below_then ?_ (by assumption))))
        have rdx := rd_loc enenc_len hg2
        obtain ⟨W5, hW5⟩ : ∃ W5, W5 = ((wr.alloc (.cells #[.int .i64 1, .int .i64 0, .int .i64 10, .int .i64 1, .int .i64 0, .int .i64 0, .int .i64 0, .int .i64 0, .int .i64 1, .int .i64 0, .int .i64 0] 43)).alloc (.cells #[.int .i64 1, .int .i64 0, .int .i64 10, .int .i64 1, .int .i64 0, .int .i64 0, .int .i64 0, .int .i64 0, .int .i64 1, .int .i64 0, .int .i64 0] 43)) := ⟨_, rfl⟩
        rw [← hW5] at hb5 rdx ⊢
        clear hW5 hg2
        go_wp2_with fail
        go_at_call 19
        refine (add_lit17 (addE_bad nb2 0 0 0 0 0 0 5) (by decide) (some ⟨wr.heap.size + 1, 0, none⟩) 1 1 0 W5 rfl rfl (fun h => by cases h) (by decide) rdx).mono ?_
        rintro r w6 ⟨A6, c6, rfl, -, -, -, hb6⟩
        go_wp2_with fail
        go_at_call 22
        refine (fire_lit17 (fireE_bad nb2 0) (some ⟨wr.heap.size + 1, 0, none⟩) 1 1 0 0 w6 rfl rfl rfl (by decide) (rd_grown rdx hb6)).mono ?_
        rintro r x7 ⟨A7, e7, A8, e8, rfl, ha7⟩
        go_wp2_with fail
        go_at_call 43
        refine (chk_lit17 nb2 (some ⟨wr.heap.size + 1, 0, none⟩) 1 1 x7 rfl (by decide) (rd_grown rdx (below_then hb6 ha7))).mono ?_
        rintro r w8 ⟨rfl, hb8⟩
        have hb58 := below_then hb5 (below_then hb6 (below_then ha7 hb8))
        go_wp2
        go_roundw
        case rel => exact ⟨3, by rfl, by omega, hl.below hb58, below_then hb hb58⟩
        case measure => simp [intOf]
      · go_wp2_with fail
        have hg2 : Loc ((wr.alloc (.cells #[.int .i64 1, .int .i64 0, .int .i64 1100585369601, .int .i64 1, .int .i64 0, .int .i64 0, .int .i64 0, .int .i64 0, .int .i64 0, .int .i64 0, .int .i64 0] 43)).alloc (.cells #[.int .i64 1, .int .i64 0, .int .i64 1100585369601, .int .i64 1, .int .i64 0, .int .i64 0, .int .i64 0, .int .i64 0, .int .i64 0, .int .i64 0, .int .i64 0] 43)) [(wr.heap.size + 1, ([nX3] : List En).flatMap enenc)] := by have h := (Loc.nil (wr.alloc (.cells #[.int .i64 1, .int .i64 0, .int .i64 1100585369601, .int .i64 1, .int .i64 0, .int .i64 0, .int .i64 0, .int .i64 0, .int .i64 0, .int .i64 0, .int .i64 0] 43))).new [.int .i64 1, .int .i64 0, .int .i64 1100585369601, .int .i64 1, .int .i64 0, .int .i64 0, .int .i64 0, .int .i64 0, .int .i64 0, .int .i64 0, .int .i64 0] 43; rw [World.size_alloc] at h; exact h
        have hb5 : Below wr.heap.size wr ((wr.alloc (.cells #[.int .i64 1, .int .i64 0, .int .i64 1100585369601, .int .i64 1, .int .i64 0, .int .i64 0, .int .i64 0, .int .i64 0, .int .i64 0, .int .i64 0, .int .i64 0] 43)).alloc (.cells #[.int .i64 1, .int .i64 0, .int .i64 1100585369601, .int .i64 1, .int .i64 0, .int .i64 0, .int .i64 0, .int .i64 0, .int .i64 0, .int .i64 0, .int .i64 0] 43)) := (by repeat (first | with_reducible exact Below.refl _ _ | with_reducible assumption | (with_reducible exact Env.below (by assumption)) | (with_reducible refine below_new ?_ _) | (with_reducible refine below_drew ?_) | (with_reducible refine below_drewN ?_ _) | (with_reducible refine below_put ?_ ?_ _; rotate_left 1; (dsimp only; omega)) | (with_reducible refine below_then ?_ (by assumption))))
        have rdx := rd_loc enenc_len hg2
        obtain ⟨W5, hW5⟩ : ∃ W5, W5 = ((wr.alloc (.cells #[.int .i64 1, .int .i64 0, .int .i64 1100585369601, .int .i64 1, .int .i64 0, .int .i64 0, .int .i64 0, .int .i64 0, .int .i64 0, .int .i64 0, .int .i64 0] 43)).alloc (.cells #[.int .i64 1, .int .i64 0, .int .i64 1100585369601, .int .i64 1, .int .i64 0, .int .i64 0, .int .i64 0, .int .i64 0, .int .i64 0, .int .i64 0, .int .i64 0] 43)) := ⟨_, rfl⟩
        rw [← hW5] at hb5 rdx ⊢
        clear hW5 hg2
        go_wp2_with fail
        go_at_call 19
        refine (add_lit17 (addE_bad nb3 0 0 0 0 0 0 5) (by decide) (some ⟨wr.heap.size + 1, 0, none⟩) 1 1 0 W5 rfl rfl (fun h => by cases h) (by decide) rdx).mono ?_
        rintro r w6 ⟨A6, c6, rfl, -, -, -, hb6⟩
        go_wp2_with fail
        go_at_call 22
        refine (fire_lit17 (fireE_bad nb3 0) (some ⟨wr.heap.size + 1, 0, none⟩) 1 1 0 0 w6 rfl rfl rfl (by decide) (rd_grown rdx hb6)).mono ?_
        rintro r x7 ⟨A7, e7, A8, e8, rfl, ha7⟩
        go_wp2_with fail
        go_at_call 43
        refine (chk_lit17 nb3 (some ⟨wr.heap.size + 1, 0, none⟩) 1 1 x7 rfl (by decide) (rd_grown rdx (below_then hb6 ha7))).mono ?_
        rintro r w8 ⟨rfl, hb8⟩
        have hb58 := below_then hb5 (below_then hb6 (below_then ha7 hb8))
        go_wp2
        go_roundw
        case rel => exact ⟨4, by rfl, by omega, hl.below hb58, below_then hb hb58⟩
        case measure => simp [intOf]
      · go_wp2_with fail
        have hg2 : Loc ((wr.alloc (.cells #[.int .i64 1, .int .i64 (-1100585369601), .int .i64 10, .int .i64 1, .int .i64 0, .int .i64 0, .int .i64 0, .int .i64 0, .int .i64 0, .int .i64 0, .int .i64 0] 43)).alloc (.cells #[.int .i64 1, .int .i64 (-1100585369601), .int .i64 10, .int .i64 1, .int .i64 0, .int .i64 0, .int .i64 0, .int .i64 0, .int .i64 0, .int .i64 0, .int .i64 0] 43)) [(wr.heap.size + 1, ([nX4] : List En).flatMap enenc)] := by have h := (Loc.nil (wr.alloc (.cells #[.int .i64 1, .int .i64 (-1100585369601), .int .i64 10, .int .i64 1, .int .i64 0, .int .i64 0, .int .i64 0, .int .i64 0, .int .i64 0, .int .i64 0, .int .i64 0] 43))).new [.int .i64 1, .int .i64 (-1100585369601), .int .i64 10, .int .i64 1, .int .i64 0, .int .i64 0, .int .i64 0, .int .i64 0, .int .i64 0, .int .i64 0, .int .i64 0] 43; rw [World.size_alloc] at h; exact h
        have hb5 : Below wr.heap.size wr ((wr.alloc (.cells #[.int .i64 1, .int .i64 (-1100585369601), .int .i64 10, .int .i64 1, .int .i64 0, .int .i64 0, .int .i64 0, .int .i64 0, .int .i64 0, .int .i64 0, .int .i64 0] 43)).alloc (.cells #[.int .i64 1, .int .i64 (-1100585369601), .int .i64 10, .int .i64 1, .int .i64 0, .int .i64 0, .int .i64 0, .int .i64 0, .int .i64 0, .int .i64 0, .int .i64 0] 43)) := (by repeat (first | with_reducible exact Below.refl _ _ | with_reducible assumption | (with_reducible exact Env.below (by assumption)) | (with_reducible refine below_new ?_ _) | (with_reducible refine below_drew ?_) | (with_reducible refine below_drewN ?_ _) | (with_reducible refine below_put ?_ ?_ _; rotate_left 1; (dsimp only; omega)) | (with_reducible refine below_then ?_ (by assumption))))
        have rdx := rd_loc enenc_len hg2
        obtain ⟨W5, hW5⟩ : ∃ W5, W5 = ((wr.alloc (.cells #[.int .i64 1, .int .i64 (-1100585369601), .int .i64 10, .int .i64 1, .int .i64 0, .int .i64 0, .int .i64 0, .int .i64 0, .int .i64 0, .int .i64 0, .int .i64 0] 43)).alloc (.cells #[.int .i64 1, .int .i64 (-1100585369601), .int .i64 10, .int .i64 1, .int .i64 0, .int .i64 0, .int .i64 0, .int .i64 0, .int .i64 0, .int .i64 0, .int .i64 0] 43)) := ⟨_, rfl⟩
        rw [← hW5] at hb5 rdx ⊢
        clear hW5 hg2
        go_wp2_with fail
        go_at_call 19
        refine (add_lit17 (addE_bad nb4 0 0 0 0 0 0 5) (by decide) (some ⟨wr.heap.size + 1, 0, none⟩) 1 1 0 W5 rfl rfl (fun h => by cases h) (by decide) rdx).mono ?_
        rintro r w6 ⟨A6, c6, rfl, -, -, -, hb6⟩
        go_wp2_with fail
        go_at_call 22
        refine (fire_lit17 (fireE_bad nb4 0) (some ⟨wr.heap.size + 1, 0, none⟩) 1 1 0 0 w6 rfl rfl rfl (by decide) (rd_grown rdx hb6)).mono ?_
        rintro r x7 ⟨A7, e7, A8, e8, rfl, ha7⟩
        go_wp2_with fail
        go_at_call 43
        refine (chk_lit17 nb4 (some ⟨wr.heap.size + 1, 0, none⟩) 1 1 x7 rfl (by decide) (rd_grown rdx (below_then hb6 ha7))).mono ?_
        rintro r w8 ⟨rfl, hb8⟩
        have hb58 := below_then hb5 (below_then hb6 (below_then ha7 hb8))
        go_wp2
        go_roundw
        case rel => exact ⟨5, by rfl, by omega, hl.below hb58, below_then hb hb58⟩
        case measure => simp [intOf]
      · have own2 := Own.made enenc_len (wr.alloc (.cells #[.int .i64 0, .int .i64 0, .int .i64 10, .int .i64 1, .int .i64 0, .int .i64 0, .int .i64 0, .int .i64 0, .int .i64 0, .int .i64 0, .int .i64 0] 43)) (wr.heap.size + 1) 43 [nOne] (wr.heap.size + 1) (by simp) (Nat.le_refl _) (by decide)
        have hx2 : Loc ((wr.alloc (.cells #[.int .i64 0, .int .i64 0, .int .i64 10, .int .i64 1, .int .i64 0, .int .i64 0, .int .i64 0, .int .i64 0, .int .i64 0, .int .i64 0, .int .i64 0] 43)).alloc (.cells #[.int .i64 1, .int .i64 0, .int .i64 10, .int .i64 1, .int .i64 0, .int .i64 0, .int .i64 0, .int .i64 0, .int .i64 0, .int .i64 0, .int .i64 0] 43)) [(wr.heap.size, [.int .i64 0, .int .i64 0, .int .i64 10, .int .i64 1, .int .i64 0, .int .i64 0, .int .i64 0, .int .i64 0, .int .i64 0, .int .i64 0, .int .i64 0])] := ((Loc.nil wr).new [.int .i64 0, .int .i64 0, .int .i64 10, .int .i64 1, .int .i64 0, .int .i64 0, .int .i64 0, .int .i64 0, .int .i64 0, .int .i64 0, .int .i64 0] 43).old (.cells #[.int .i64 1, .int .i64 0, .int .i64 10, .int .i64 1, .int .i64 0, .int .i64 0, .int .i64 0, .int .i64 0, .int .i64 0, .int .i64 0, .int .i64 0] 43)
        have hb4 : Below wr.heap.size wr ((wr.alloc (.cells #[.int .i64 0, .int .i64 0, .int .i64 10, .int .i64 1, .int .i64 0, .int .i64 0, .int .i64 0, .int .i64 0, .int .i64 0, .int .i64 0, .int .i64 0] 43)).alloc (.cells #[.int .i64 1, .int .i64 0, .int .i64 10, .int .i64 1, .int .i64 0, .int .i64 0, .int .i64 0, .int .i64 0, .int .i64 0, .int .i64 0, .int .i64 0] 43)) := (by repeat (first | with_reducible exact Below.refl _ _ | with_reducible assumption | (with_reducible exact Env.below (by assumption)) | (with_reducible refine below_new ?_ _) | (with_reducible refine below_drew ?_) | (with_reducible refine below_drewN ?_ _) | (with_reducible refine below_put ?_ ?_ _; rotate_left 1; (dsimp only; omega)) | (with_reducible refine below_then ?_ (by assumption))))
        have hz4 : ((wr.alloc (.cells #[.int .i64 0, .int .i64 0, .int .i64 10, .int .i64 1, .int .i64 0, .int .i64 0, .int .i64 0, .int .i64 0, .int .i64 0, .int .i64 0, .int .i64 0] 43)).alloc (.cells #[.int .i64 1, .int .i64 0, .int .i64 10, .int .i64 1, .int .i64 0, .int .i64 0, .int .i64 0, .int .i64 0, .int .i64 0, .int .i64 0, .int .i64 0] 43)).heap.size = wr.heap.size + 2 := by simp
        go_wp2_with (at_builtin; refine wpList_append_fs rfl (.tmp 78) (.tmp 80) 27 rfl (wr.heap.size + 1) 43 i0 (.agg #[.int .i64 0, .int .i64 0, .int .i64 0, .int .i64 0, .int .i64 0, .int .i64 0, .int .i64 0, .int .i64 0, .int .i64 0, .int .i64 0, .int .i64 0]) 11 88 Try.underlying27 hi0 hz0 hz1 hz2 rfl (by decide) enenc enenc_len (.slice (some ⟨wr.heap.size + 1, 0, none⟩) 1 1) [nOne] nOne rfl (own2.alloc (.cells (enenc nOne).toArray 43)) ⟨wr.heap.size + 2, 0, none⟩ 1 (by first | rfl | simp) (en_new ((wr.alloc (.cells #[.int .i64 0, .int .i64 0, .int .i64 10, .int .i64 1, .int .i64 0, .int .i64 0, .int .i64 0, .int .i64 0, .int .i64 0, .int .i64 0, .int .i64 0] 43)).alloc (.cells #[.int .i64 1, .int .i64 0, .int .i64 10, .int .i64 1, .int .i64 0, .int .i64 0, .int .i64 0, .int .i64 0, .int .i64 0, .int .i64 0, .int .i64 0] 43)) nOne 43 (wr.heap.size + 2) hz4.symm) (enenc_one [nOne]) (by decide) (by decide) (by rw [World.size_alloc, hz4]; omega) ?_; intro v7 w7 own7 hgr7 hsf; obtain ⟨g7, c7, rfl, hc7, hg7⟩ := own_some own7 (by intro e; rw [e] at own7; have := own7.form; obtain ⟨A0, c0, h1, -⟩ := this; injection h1 with _ h2 _; exact absurd h2 (by simp)); have hx7 : Loc w7 [(wr.heap.size, [.int .i64 0, .int .i64 0, .int .i64 10, .int .i64 1, .int .i64 0, .int .i64 0, .int .i64 0, .int .i64 0, .int .i64 0, .int .i64 0, .int .i64 0])] := Loc.grown hgr7 (fun q hq => by simp at hq; subst hq; intro e; have e2 : some wr.heap.size = some (wr.heap.size + 1) := e; injection e2 with e2; omega) (hx2.old _); have hF7 := hx7; (repeat unfold Loc at hF7); have hb7 : Below wr.heap.size wr w7 := (below_new hb4 (.cells (enenc nOne).toArray 43)).grown hgr7 (by rw [World.size_alloc, hz4]; omega) (fun j hj => by have h2 : some (wr.heap.size + 1) = some j := hj; injection h2 with h2; omega); have hl7 := hl.below hb7; have hF8 := hl7; (repeat unfold Loc at hF8); obtain ⟨rest, hgl⟩ := own_loc own7; have hg7l : Loc w7 [(g7, .int .i64 1 :: .int .i64 0 :: .int .i64 10 :: .int .i64 1 :: .int .i64 0 :: .int .i64 0 :: .int .i64 0 :: .int .i64 0 :: .int .i64 0 :: .int .i64 0 :: .int .i64 0 :: .int .i64 1 :: .int .i64 0 :: .int .i64 10 :: .int .i64 1 :: .int .i64 0 :: .int .i64 0 :: .int .i64 0 :: .int .i64 0 :: .int .i64 0 :: .int .i64 0 :: .int .i64 0 :: rest)] := hgl; have hF9 := hg7l; (repeat unfold Loc at hF9); have hne7 : ¬ g7 = wr.heap.size := (by have := (World.ownsRow.lt own7 g7 rfl).1; omega); have hne8 : ¬ g7 = w.heap.size := (by have := (World.ownsRow.lt own7 g7 rfl).1; omega); have hne9 : ¬ g7 = w.heap.size + 1 := (by have := (World.ownsRow.lt own7 g7 rfl).1; omega))
        go_region
        have hgw : wr.heap.size ≤ g7 := by have := (World.ownsRow.lt own7 g7 rfl).1; omega
        have s8 := Own.set enenc_len own7 rfl 1 (by decide) nX5
        have s9 := Own.set enenc_len s8.1 rfl 0 (by decide) nOne
        have s10 := Own.set enenc_len s9.1 rfl 1 (by decide) nX5
        have hgk : ∀ j, some g7 = some j → wr.heap.size ≤ j := fun j hj => by injection hj with hj; omega
        have hb8 := hb7.grown s8.2 hb7.size hgk
        have hb9 := hb8.grown s9.2 hb8.size hgk
        have hb10 := below_drew (hb9.grown s10.2 hb9.size hgk)
        go_wp2_with fail
        obtain ⟨W5, hW5⟩ : ∃ W5, W5 = (((((((((((((((((((((((((((((((((w7.setCell ⟨g7, 11, none⟩ (.int .i64 0)).setCell ⟨g7, 12, none⟩ (.int .i64 0)).setCell ⟨g7, 13, none⟩ (.int .i64 10)).setCell ⟨g7, 14, none⟩ (.int .i64 1)).setCell ⟨g7, 15, none⟩ (.int .i64 0)).setCell ⟨g7, 16, none⟩ (.int .i64 0)).setCell ⟨g7, 17, none⟩ (.int .i64 0)).setCell ⟨g7, 18, none⟩ (.int .i64 0)).setCell ⟨g7, 19, none⟩ (.int .i64 0)).setCell ⟨g7, 20, none⟩ (.int .i64 0)).setCell ⟨g7, 21, none⟩ (.int .i64 0)).setCell ⟨g7, 0, none⟩ (.int .i64 1)).setCell ⟨g7, 1, none⟩ (.int .i64 0)).setCell ⟨g7, 2, none⟩ (.int .i64 10)).setCell ⟨g7, 3, none⟩ (.int .i64 1)).setCell ⟨g7, 4, none⟩ (.int .i64 0)).setCell ⟨g7, 5, none⟩ (.int .i64 0)).setCell ⟨g7, 6, none⟩ (.int .i64 0)).setCell ⟨g7, 7, none⟩ (.int .i64 0)).setCell ⟨g7, 8, none⟩ (.int .i64 0)).setCell ⟨g7, 9, none⟩ (.int .i64 0)).setCell ⟨g7, 10, none⟩ (.int .i64 0)).setCell ⟨g7, 11, none⟩ (.int .i64 0)).setCell ⟨g7, 12, none⟩ (.int .i64 0)).setCell ⟨g7, 13, none⟩ (.int .i64 10)).setCell ⟨g7, 14, none⟩ (.int .i64 1)).setCell ⟨g7, 15, none⟩ (.int .i64 0)).setCell ⟨g7, 16, none⟩ (.int .i64 0)).setCell ⟨g7, 17, none⟩ (.int .i64 0)).setCell ⟨g7, 18, none⟩ (.int .i64 0)).setCell ⟨g7, 19, none⟩ (.int .i64 0)).setCell ⟨g7, 20, none⟩ (.int .i64 0)).setCell ⟨g7, 21, none⟩ (.int .i64 0)).drew := ⟨_, rfl⟩
        have hb5 : Below wr.heap.size wr W5 := by rw [hW5]; exact hb10
        have rdx : Rd enenc 11 W5 W5.heap.size (some ⟨g7, 0, none⟩) [nOne, nX5] := by rw [hW5]; exact Own.rd enenc_len (own_drew s10.1)
        rw [← hW5]
        clear hW5 hg7l hF9 hF7 hF8 hgl own7 hgr7 hsf s8 s9 s10 hb8 hb9 hb10
        go_wp2_with fail
        go_at_call 19
        refine (add_lit17 (addE_bad nb5 0 0 0 0 0 0 5) (by decide) (some ⟨g7, 0, none⟩) c7 2 0 W5 rfl rfl (fun h => by cases h) (by decide) rdx).mono ?_
        rintro r w6 ⟨A6, c6, rfl, -, -, -, hb6⟩
        go_wp2_with fail
        go_at_call 22
        refine (fire_lit17 (fireE_bad nb5 0) (some ⟨g7, 0, none⟩) c7 2 0 0 w6 rfl rfl rfl (by decide) (rd_grown rdx hb6)).mono ?_
        rintro r x7 ⟨A7, e7, A8, e8, rfl, ha7⟩
        go_wp2_with fail
        go_at_call 43
        refine (chk_lit17 nb5 (some ⟨g7, 0, none⟩) c7 2 x7 rfl (by decide) (rd_grown rdx (below_then hb6 ha7))).mono ?_
        rintro r w8 ⟨rfl, hb8⟩
        have hb58 := below_then hb5 (below_then hb6 (below_then ha7 hb8))
        go_wp2
        go_roundw
        case rel => exact ⟨6, by rfl, by omega, hl.below hb58, below_then hb hb58⟩
        case measure => simp [intOf]
      · have own2 := Own.made enenc_len (wr.alloc (.cells #[.int .i64 1, .int .i64 0, .int .i64 10, .int .i64 1, .int .i64 0, .int .i64 0, .int .i64 0, .int .i64 0, .int .i64 0, .int .i64 0, .int .i64 0] 43)) (wr.heap.size + 1) 43 [nOne] (wr.heap.size + 1) (by simp) (Nat.le_refl _) (by decide)
        have hx2 : Loc ((wr.alloc (.cells #[.int .i64 1, .int .i64 0, .int .i64 10, .int .i64 1, .int .i64 0, .int .i64 0, .int .i64 0, .int .i64 0, .int .i64 0, .int .i64 0, .int .i64 0] 43)).alloc (.cells #[.int .i64 1, .int .i64 0, .int .i64 10, .int .i64 1, .int .i64 0, .int .i64 0, .int .i64 0, .int .i64 0, .int .i64 0, .int .i64 0, .int .i64 0] 43)) [(wr.heap.size, [.int .i64 1, .int .i64 0, .int .i64 10, .int .i64 1, .int .i64 0, .int .i64 0, .int .i64 0, .int .i64 0, .int .i64 0, .int .i64 0, .int .i64 0])] := ((Loc.nil wr).new [.int .i64 1, .int .i64 0, .int .i64 10, .int .i64 1, .int .i64 0, .int .i64 0, .int .i64 0, .int .i64 0, .int .i64 0, .int .i64 0, .int .i64 0] 43).old (.cells #[.int .i64 1, .int .i64 0, .int .i64 10, .int .i64 1, .int .i64 0, .int .i64 0, .int .i64 0, .int .i64 0, .int .i64 0, .int .i64 0, .int .i64 0] 43)
        have hb4 : Below wr.heap.size wr ((wr.alloc (.cells #[.int .i64 1, .int .i64 0, .int .i64 10, .int .i64 1, .int .i64 0, .int .i64 0, .int .i64 0, .int .i64 0, .int .i64 0, .int .i64 0, .int .i64 0] 43)).alloc (.cells #[.int .i64 1, .int .i64 0, .int .i64 10, .int .i64 1, .int .i64 0, .int .i64 0, .int .i64 0, .int .i64 0, .int .i64 0, .int .i64 0, .int .i64 0] 43)) := (by repeat (first | with_reducible exact Below.refl _ _ | with_reducible assumption | (with_reducible exact Env.below (by assumption)) | (with_reducible refine below_new ?_ _) | (with_reducible refine below_drew ?_) | (with_reducible refine below_drewN ?_ _) | (with_reducible refine below_put ?_ ?_ _; rotate_left 1; (dsimp only; omega)) | (with_reducible refine below_then ?_ (by assumption))))
        have hz4 : ((wr.alloc (.cells #[.int .i64 1, .int .i64 0, .int .i64 10, .int .i64 1, .int .i64 0, .int .i64 0, .int .i64 0, .int .i64 0, .int .i64 0, .int .i64 0, .int .i64 0] 43)).alloc (.cells #[.int .i64 1, .int .i64 0, .int .i64 10, .int .i64 1, .int .i64 0, .int .i64 0, .int .i64 0, .int .i64 0, .int .i64 0, .int .i64 0, .int .i64 0] 43)).heap.size = wr.heap.size + 2 := by simp
        go_wp2_with (at_builtin; refine wpList_append_fs rfl (.tmp 84) (.tmp 86) 27 rfl (wr.heap.size + 1) 43 i0 (.agg #[.int .i64 0, .int .i64 0, .int .i64 0, .int .i64 0, .int .i64 0, .int .i64 0, .int .i64 0, .int .i64 0, .int .i64 0, .int .i64 0, .int .i64 0]) 11 88 Try.underlying27 hi0 hz0 hz1 hz2 rfl (by decide) enenc enenc_len (.slice (some ⟨wr.heap.size + 1, 0, none⟩) 1 1) [nOne] nOne rfl (own2.alloc (.cells (enenc nOne).toArray 43)) ⟨wr.heap.size + 2, 0, none⟩ 1 (by first | rfl | simp) (en_new ((wr.alloc (.cells #[.int .i64 1, .int .i64 0, .int .i64 10, .int .i64 1, .int .i64 0, .int .i64 0, .int .i64 0, .int .i64 0, .int .i64 0, .int .i64 0, .int .i64 0] 43)).alloc (.cells #[.int .i64 1, .int .i64 0, .int .i64 10, .int .i64 1, .int .i64 0, .int .i64 0, .int .i64 0, .int .i64 0, .int .i64 0, .int .i64 0, .int .i64 0] 43)) nOne 43 (wr.heap.size + 2) hz4.symm) (enenc_one [nOne]) (by decide) (by decide) (by rw [World.size_alloc, hz4]; omega) ?_; intro v7 w7 own7 hgr7 hsf; obtain ⟨g7, c7, rfl, hc7, hg7⟩ := own_some own7 (by intro e; rw [e] at own7; have := own7.form; obtain ⟨A0, c0, h1, -⟩ := this; injection h1 with _ h2 _; exact absurd h2 (by simp)); have hx7 : Loc w7 [(wr.heap.size, [.int .i64 1, .int .i64 0, .int .i64 10, .int .i64 1, .int .i64 0, .int .i64 0, .int .i64 0, .int .i64 0, .int .i64 0, .int .i64 0, .int .i64 0])] := Loc.grown hgr7 (fun q hq => by simp at hq; subst hq; intro e; have e2 : some wr.heap.size = some (wr.heap.size + 1) := e; injection e2 with e2; omega) (hx2.old _); have hF7 := hx7; (repeat unfold Loc at hF7); have hb7 : Below wr.heap.size wr w7 := (below_new hb4 (.cells (enenc nOne).toArray 43)).grown hgr7 (by rw [World.size_alloc, hz4]; omega) (fun j hj => by have h2 : some (wr.heap.size + 1) = some j := hj; injection h2 with h2; omega); have hl7 := hl.below hb7; have hF8 := hl7; (repeat unfold Loc at hF8); obtain ⟨rest, hgl⟩ := own_loc own7; have hg7l : Loc w7 [(g7, .int .i64 1 :: .int .i64 0 :: .int .i64 10 :: .int .i64 1 :: .int .i64 0 :: .int .i64 0 :: .int .i64 0 :: .int .i64 0 :: .int .i64 0 :: .int .i64 0 :: .int .i64 0 :: .int .i64 1 :: .int .i64 0 :: .int .i64 10 :: .int .i64 1 :: .int .i64 0 :: .int .i64 0 :: .int .i64 0 :: .int .i64 0 :: .int .i64 0 :: .int .i64 0 :: .int .i64 0 :: rest)] := hgl; have hF9 := hg7l; (repeat unfold Loc at hF9); have hne7 : ¬ g7 = wr.heap.size := (by have := (World.ownsRow.lt own7 g7 rfl).1; omega); have hne8 : ¬ g7 = w.heap.size := (by have := (World.ownsRow.lt own7 g7 rfl).1; omega); have hne9 : ¬ g7 = w.heap.size + 1 := (by have := (World.ownsRow.lt own7 g7 rfl).1; omega))
        go_region
        have hgw : wr.heap.size ≤ g7 := by have := (World.ownsRow.lt own7 g7 rfl).1; omega
        have s8 := Own.set enenc_len own7 rfl 1 (by decide) nOne
        have s9 := Own.set enenc_len s8.1 rfl 0 (by decide) nOne
        have s10 := Own.set enenc_len s9.1 rfl 1 (by decide) nOne
        have hgk : ∀ j, some g7 = some j → wr.heap.size ≤ j := fun j hj => by injection hj with hj; omega
        have hb8 := hb7.grown s8.2 hb7.size hgk
        have hb9 := hb8.grown s9.2 hb8.size hgk
        have hb10 := below_drew (hb9.grown s10.2 hb9.size hgk)
        obtain ⟨W8, hW8⟩ : ∃ W8, W8 = (((((((((((((((((((((((((((((((((w7.setCell ⟨g7, 11, none⟩ (.int .i64 1)).setCell ⟨g7, 12, none⟩ (.int .i64 0)).setCell ⟨g7, 13, none⟩ (.int .i64 10)).setCell ⟨g7, 14, none⟩ (.int .i64 1)).setCell ⟨g7, 15, none⟩ (.int .i64 0)).setCell ⟨g7, 16, none⟩ (.int .i64 0)).setCell ⟨g7, 17, none⟩ (.int .i64 0)).setCell ⟨g7, 18, none⟩ (.int .i64 0)).setCell ⟨g7, 19, none⟩ (.int .i64 0)).setCell ⟨g7, 20, none⟩ (.int .i64 0)).setCell ⟨g7, 21, none⟩ (.int .i64 0)).setCell ⟨g7, 0, none⟩ (.int .i64 1)).setCell ⟨g7, 1, none⟩ (.int .i64 0)).setCell ⟨g7, 2, none⟩ (.int .i64 10)).setCell ⟨g7, 3, none⟩ (.int .i64 1)).setCell ⟨g7, 4, none⟩ (.int .i64 0)).setCell ⟨g7, 5, none⟩ (.int .i64 0)).setCell ⟨g7, 6, none⟩ (.int .i64 0)).setCell ⟨g7, 7, none⟩ (.int .i64 0)).setCell ⟨g7, 8, none⟩ (.int .i64 0)).setCell ⟨g7, 9, none⟩ (.int .i64 0)).setCell ⟨g7, 10, none⟩ (.int .i64 0)).setCell ⟨g7, 11, none⟩ (.int .i64 1)).setCell ⟨g7, 12, none⟩ (.int .i64 0)).setCell ⟨g7, 13, none⟩ (.int .i64 10)).setCell ⟨g7, 14, none⟩ (.int .i64 1)).setCell ⟨g7, 15, none⟩ (.int .i64 0)).setCell ⟨g7, 16, none⟩ (.int .i64 0)).setCell ⟨g7, 17, none⟩ (.int .i64 0)).setCell ⟨g7, 18, none⟩ (.int .i64 0)).setCell ⟨g7, 19, none⟩ (.int .i64 0)).setCell ⟨g7, 20, none⟩ (.int .i64 0)).setCell ⟨g7, 21, none⟩ (.int .i64 0)).drew := ⟨_, rfl⟩
        have hbW : Below wr.heap.size wr W8 := by rw [hW8]; exact hb10
        have o8 : Own enenc 11 W8 (wr.heap.size + 1) 43 (.slice (some ⟨g7, 0, none⟩) 2 c7) [nOne, nOne] := by rw [hW8]; exact own_drew s10.1
        rw [← hW8]
        obtain ⟨rest8, hgl8⟩ := own_loc o8
        have hg8l : Loc W8 [(g7, .int .i64 1 :: .int .i64 0 :: .int .i64 10 :: .int .i64 1 :: .int .i64 0 :: .int .i64 0 :: .int .i64 0 :: .int .i64 0 :: .int .i64 0 :: .int .i64 0 :: .int .i64 0 :: .int .i64 1 :: .int .i64 0 :: .int .i64 10 :: .int .i64 1 :: .int .i64 0 :: .int .i64 0 :: .int .i64 0 :: .int .i64 0 :: .int .i64 0 :: .int .i64 0 :: .int .i64 0 :: rest8)] := hgl8
        clear hW8 hF7 hF8 hF9 hg7l hgl s8 s9 s10 hb8 hb9 hb10 own7 hgr7 hsf hx7 hl7 hb7 hx2 own2 hb4 hz4 hF
        have hF1 := hg8l
        (repeat unfold Loc at hF1)
        have hF2 := hl.below hbW
        (repeat unfold Loc at hF2)
        go_wp2_with fail
        have s11 := Own.set enenc_len o8 rfl 1 (by decide) nOne
        obtain ⟨W5, hW5⟩ : ∃ W5, W5 = (((((((((((W8.setCell ⟨g7, 11, none⟩ (.int .i64 1)).setCell ⟨g7, 12, none⟩ (.int .i64 0)).setCell ⟨g7, 13, none⟩ (.int .i64 10)).setCell ⟨g7, 14, none⟩ (.int .i64 1)).setCell ⟨g7, 15, none⟩ (.int .i64 0)).setCell ⟨g7, 16, none⟩ (.int .i64 0)).setCell ⟨g7, 17, none⟩ (.int .i64 0)).setCell ⟨g7, 18, none⟩ (.int .i64 0)).setCell ⟨g7, 19, none⟩ (.int .i64 0)).setCell ⟨g7, 20, none⟩ (.int .i64 0)).setCell ⟨g7, 21, none⟩ (.int .i64 0)) := ⟨_, rfl⟩
        have hb5 : Below wr.heap.size wr W5 := by rw [hW5]; exact hbW.grown s11.2 hbW.size hgk
        have rdx : Rd enenc 11 W5 W5.heap.size (some ⟨g7, 0, none⟩) [nOne, nOne] := by rw [hW5]; exact Own.rd enenc_len s11.1
        rw [← hW5]
        clear hW5 hF1 hF2 hgl8 hg8l s11 o8
        go_wp2_with fail
        go_at_call 19
        refine (add_lit17 (addE_bad nb6 0 0 0 0 0 0 5) (by decide) (some ⟨g7, 0, none⟩) c7 2 0 W5 rfl rfl (fun h => by cases h) (by decide) rdx).mono ?_
        rintro r w6 ⟨A6, c6, rfl, -, -, -, hb6⟩
        go_wp2_with fail
        go_at_call 22
        refine (fire_lit17 (fireE_bad nb6 0) (some ⟨g7, 0, none⟩) c7 2 0 0 w6 rfl rfl rfl (by decide) (rd_grown rdx hb6)).mono ?_
        rintro r x7 ⟨A7, e7, A8, e8, rfl, ha7⟩
        go_wp2_with fail
        go_at_call 43
        refine (chk_lit17 nb6 (some ⟨g7, 0, none⟩) c7 2 x7 rfl (by decide) (rd_grown rdx (below_then hb6 ha7))).mono ?_
        rintro r w8 ⟨rfl, hb8⟩
        have hb58 := below_then hb5 (below_then hb6 (below_then ha7 hb8))
        go_wp2
        go_roundw
        case rel => exact ⟨7, by rfl, by omega, hl.below hb58, below_then hb hb58⟩
        case measure => simp [intOf]
      · have own2 := Own.made enenc_len (wr.alloc (.cells #[.int .i64 1, .int .i64 (-5), .int .i64 10, .int .i64 1, .int .i64 0, .int .i64 0, .int .i64 0, .int .i64 0, .int .i64 0, .int .i64 0, .int .i64 0] 43)) (wr.heap.size + 1) 43 [nOne] (wr.heap.size + 1) (by simp) (Nat.le_refl _) (by decide)
        have hx2 : Loc ((wr.alloc (.cells #[.int .i64 1, .int .i64 (-5), .int .i64 10, .int .i64 1, .int .i64 0, .int .i64 0, .int .i64 0, .int .i64 0, .int .i64 0, .int .i64 0, .int .i64 0] 43)).alloc (.cells #[.int .i64 1, .int .i64 0, .int .i64 10, .int .i64 1, .int .i64 0, .int .i64 0, .int .i64 0, .int .i64 0, .int .i64 0, .int .i64 0, .int .i64 0] 43)) [(wr.heap.size, [.int .i64 1, .int .i64 (-5), .int .i64 10, .int .i64 1, .int .i64 0, .int .i64 0, .int .i64 0, .int .i64 0, .int .i64 0, .int .i64 0, .int .i64 0])] := ((Loc.nil wr).new [.int .i64 1, .int .i64 (-5), .int .i64 10, .int .i64 1, .int .i64 0, .int .i64 0, .int .i64 0, .int .i64 0, .int .i64 0, .int .i64 0, .int .i64 0] 43).old (.cells #[.int .i64 1, .int .i64 0, .int .i64 10, .int .i64 1, .int .i64 0, .int .i64 0, .int .i64 0, .int .i64 0, .int .i64 0, .int .i64 0, .int .i64 0] 43)
        have hb4 : Below wr.heap.size wr ((wr.alloc (.cells #[.int .i64 1, .int .i64 (-5), .int .i64 10, .int .i64 1, .int .i64 0, .int .i64 0, .int .i64 0, .int .i64 0, .int .i64 0, .int .i64 0, .int .i64 0] 43)).alloc (.cells #[.int .i64 1, .int .i64 0, .int .i64 10, .int .i64 1, .int .i64 0, .int .i64 0, .int .i64 0, .int .i64 0, .int .i64 0, .int .i64 0, .int .i64 0] 43)) := (by repeat (first | with_reducible exact Below.refl _ _ | with_reducible assumption | (with_reducible exact Env.below (by assumption)) | (with_reducible refine below_new ?_ _) | (with_reducible refine below_drew ?_) | (with_reducible refine below_drewN ?_ _) | (with_reducible refine below_put ?_ ?_ _; rotate_left 1; (dsimp only; omega)) | (with_reducible refine below_then ?_ (by assumption))))
        have hz4 : ((wr.alloc (.cells #[.int .i64 1, .int .i64 (-5), .int .i64 10, .int .i64 1, .int .i64 0, .int .i64 0, .int .i64 0, .int .i64 0, .int .i64 0, .int .i64 0, .int .i64 0] 43)).alloc (.cells #[.int .i64 1, .int .i64 0, .int .i64 10, .int .i64 1, .int .i64 0, .int .i64 0, .int .i64 0, .int .i64 0, .int .i64 0, .int .i64 0, .int .i64 0] 43)).heap.size = wr.heap.size + 2 := by simp
        go_wp2_with (at_builtin; refine wpList_append_fs rfl (.tmp 49) (.tmp 51) 27 rfl (wr.heap.size + 1) 43 i0 (.agg #[.int .i64 0, .int .i64 0, .int .i64 0, .int .i64 0, .int .i64 0, .int .i64 0, .int .i64 0, .int .i64 0, .int .i64 0, .int .i64 0, .int .i64 0]) 11 88 Try.underlying27 hi0 hz0 hz1 hz2 rfl (by decide) enenc enenc_len (.slice (some ⟨wr.heap.size + 1, 0, none⟩) 1 1) [nOne] nOne rfl (own2.alloc (.cells (enenc nOne).toArray 43)) ⟨wr.heap.size + 2, 0, none⟩ 1 (by first | rfl | simp) (en_new ((wr.alloc (.cells #[.int .i64 1, .int .i64 (-5), .int .i64 10, .int .i64 1, .int .i64 0, .int .i64 0, .int .i64 0, .int .i64 0, .int .i64 0, .int .i64 0, .int .i64 0] 43)).alloc (.cells #[.int .i64 1, .int .i64 0, .int .i64 10, .int .i64 1, .int .i64 0, .int .i64 0, .int .i64 0, .int .i64 0, .int .i64 0, .int .i64 0, .int .i64 0] 43)) nOne 43 (wr.heap.size + 2) hz4.symm) (enenc_one [nOne]) (by decide) (by decide) (by rw [World.size_alloc, hz4]; omega) ?_; intro v7 w7 own7 hgr7 hsf; obtain ⟨g7, c7, rfl, hc7, hg7⟩ := own_some own7 (by intro e; rw [e] at own7; have := own7.form; obtain ⟨A0, c0, h1, -⟩ := this; injection h1 with _ h2 _; exact absurd h2 (by simp)); have hx7 : Loc w7 [(wr.heap.size, [.int .i64 1, .int .i64 (-5), .int .i64 10, .int .i64 1, .int .i64 0, .int .i64 0, .int .i64 0, .int .i64 0, .int .i64 0, .int .i64 0, .int .i64 0])] := Loc.grown hgr7 (fun q hq => by simp at hq; subst hq; intro e; have e2 : some wr.heap.size = some (wr.heap.size + 1) := e; injection e2 with e2; omega) (hx2.old _); have hF7 := hx7; (repeat unfold Loc at hF7); have hb7 : Below wr.heap.size wr w7 := (below_new hb4 (.cells (enenc nOne).toArray 43)).grown hgr7 (by rw [World.size_alloc, hz4]; omega) (fun j hj => by have h2 : some (wr.heap.size + 1) = some j := hj; injection h2 with h2; omega); have hl7 := hl.below hb7; have hF8 := hl7; (repeat unfold Loc at hF8); obtain ⟨rest, hgl⟩ := own_loc own7; have hg7l : Loc w7 [(g7, .int .i64 1 :: .int .i64 0 :: .int .i64 10 :: .int .i64 1 :: .int .i64 0 :: .int .i64 0 :: .int .i64 0 :: .int .i64 0 :: .int .i64 0 :: .int .i64 0 :: .int .i64 0 :: .int .i64 1 :: .int .i64 0 :: .int .i64 10 :: .int .i64 1 :: .int .i64 0 :: .int .i64 0 :: .int .i64 0 :: .int .i64 0 :: .int .i64 0 :: .int .i64 0 :: .int .i64 0 :: rest)] := hgl; have hF9 := hg7l; (repeat unfold Loc at hF9); have hne7 : ¬ g7 = wr.heap.size := (by have := (World.ownsRow.lt own7 g7 rfl).1; omega); have hne8 : ¬ g7 = w.heap.size := (by have := (World.ownsRow.lt own7 g7 rfl).1; omega); have hne9 : ¬ g7 = w.heap.size + 1 := (by have := (World.ownsRow.lt own7 g7 rfl).1; omega))
        go_region
        have hgw : wr.heap.size ≤ g7 := by have := (World.ownsRow.lt own7 g7 rfl).1; omega
        have s8 := Own.set enenc_len own7 rfl 1 (by decide) nX7
        have s9 := Own.set enenc_len s8.1 rfl 0 (by decide) nOne
        have s10 := Own.set enenc_len s9.1 rfl 1 (by decide) nX7
        have hgk : ∀ j, some g7 = some j → wr.heap.size ≤ j := fun j hj => by injection hj with hj; omega
        have hb8 := hb7.grown s8.2 hb7.size hgk
        have hb9 := hb8.grown s9.2 hb8.size hgk
        have hb10 := below_drew (hb9.grown s10.2 hb9.size hgk)
        go_wp2_with fail
        obtain ⟨W5, hW5⟩ : ∃ W5, W5 = (((((((((((((((((((((((((((((((((w7.setCell ⟨g7, 11, none⟩ (.int .i64 1)).setCell ⟨g7, 12, none⟩ (.int .i64 (-5))).setCell ⟨g7, 13, none⟩ (.int .i64 10)).setCell ⟨g7, 14, none⟩ (.int .i64 1)).setCell ⟨g7, 15, none⟩ (.int .i64 0)).setCell ⟨g7, 16, none⟩ (.int .i64 0)).setCell ⟨g7, 17, none⟩ (.int .i64 0)).setCell ⟨g7, 18, none⟩ (.int .i64 0)).setCell ⟨g7, 19, none⟩ (.int .i64 0)).setCell ⟨g7, 20, none⟩ (.int .i64 0)).setCell ⟨g7, 21, none⟩ (.int .i64 0)).setCell ⟨g7, 0, none⟩ (.int .i64 1)).setCell ⟨g7, 1, none⟩ (.int .i64 0)).setCell ⟨g7, 2, none⟩ (.int .i64 10)).setCell ⟨g7, 3, none⟩ (.int .i64 1)).setCell ⟨g7, 4, none⟩ (.int .i64 0)).setCell ⟨g7, 5, none⟩ (.int .i64 0)).setCell ⟨g7, 6, none⟩ (.int .i64 0)).setCell ⟨g7, 7, none⟩ (.int .i64 0)).setCell ⟨g7, 8, none⟩ (.int .i64 0)).setCell ⟨g7, 9, none⟩ (.int .i64 0)).setCell ⟨g7, 10, none⟩ (.int .i64 0)).setCell ⟨g7, 11, none⟩ (.int .i64 1)).setCell ⟨g7, 12, none⟩ (.int .i64 (-5))).setCell ⟨g7, 13, none⟩ (.int .i64 10)).setCell ⟨g7, 14, none⟩ (.int .i64 1)).setCell ⟨g7, 15, none⟩ (.int .i64 0)).setCell ⟨g7, 16, none⟩ (.int .i64 0)).setCell ⟨g7, 17, none⟩ (.int .i64 0)).setCell ⟨g7, 18, none⟩ (.int .i64 0)).setCell ⟨g7, 19, none⟩ (.int .i64 0)).setCell ⟨g7, 20, none⟩ (.int .i64 0)).setCell ⟨g7, 21, none⟩ (.int .i64 0)).drew := ⟨_, rfl⟩
        have hb5 : Below wr.heap.size wr W5 := by rw [hW5]; exact hb10
        have rdx : Rd enenc 11 W5 W5.heap.size (some ⟨g7, 0, none⟩) [nOne, nX7] := by rw [hW5]; exact Own.rd enenc_len (own_drew s10.1)
        rw [← hW5]
        clear hW5 hg7l hF9 hF7 hF8 hgl own7 hgr7 hsf s8 s9 s10 hb8 hb9 hb10
        go_wp2_with fail
        go_at_call 19
        refine (add_lit17 (addE_bad nb7 0 0 0 0 0 0 5) (by decide) (some ⟨g7, 0, none⟩) c7 2 0 W5 rfl rfl (fun h => by cases h) (by decide) rdx).mono ?_
        rintro r w6 ⟨A6, c6, rfl, -, -, -, hb6⟩
        go_wp2_with fail
        go_at_call 22
        refine (fire_lit17 (fireE_bad nb7 0) (some ⟨g7, 0, none⟩) c7 2 0 0 w6 rfl rfl rfl (by decide) (rd_grown rdx hb6)).mono ?_
        rintro r x7 ⟨A7, e7, A8, e8, rfl, ha7⟩
        go_wp2_with fail
        go_at_call 43
        refine (chk_lit17 nb7 (some ⟨g7, 0, none⟩) c7 2 x7 rfl (by decide) (rd_grown rdx (below_then hb6 ha7))).mono ?_
        rintro r w8 ⟨rfl, hb8⟩
        have hb58 := below_then hb5 (below_then hb6 (below_then ha7 hb8))
        go_wp2
        go_roundw
        case rel => exact ⟨8, by rfl, by omega, hl.below hb58, below_then hb hb58⟩
        case measure => simp [intOf]
    · obtain rfl : k = 8 := by omega
      obtain ⟨w9, hw9⟩ : ∃ w9, w9 = wr := ⟨_, rfl⟩
      subst hw9
      have hlF := hl.new [.int .i64 1, .int .i64 0, .int .i64 10, .int .i64 1073741824, .int .i64 0, .int .i64 0, .int .i64 0, .int .i64 0, .int .i64 0, .int .i64 0, .int .i64 0] 43
      have hbF := below_new hb (.cells #[.int .i64 1, .int .i64 0, .int .i64 10, .int .i64 1073741824, .int .i64 0, .int .i64 0, .int .i64 0, .int .i64 0, .int .i64 0, .int .i64 0, .int .i64 0] 43)
      clear hlt hk
      go_wp2_with fail
      go_at_call 19
      have rdF1 : Rd enenc 11 ((w9.alloc (.cells #[.int .i64 1, .int .i64 0, .int .i64 10, .int .i64 1073741824, .int .i64 0, .int .i64 0, .int .i64 0, .int .i64 0, .int .i64 0, .int .i64 0, .int .i64 0] 43)).alloc (.cells #[.int .i64 1, .int .i64 0, .int .i64 10, .int .i64 1073741824, .int .i64 0, .int .i64 0, .int .i64 0, .int .i64 0, .int .i64 0, .int .i64 0, .int .i64 0] 43)) ((w9.alloc (.cells #[.int .i64 1, .int .i64 0, .int .i64 10, .int .i64 1073741824, .int .i64 0, .int .i64 0, .int .i64 0, .int .i64 0, .int .i64 0, .int .i64 0, .int .i64 0] 43)).alloc (.cells #[.int .i64 1, .int .i64 0, .int .i64 10, .int .i64 1073741824, .int .i64 0, .int .i64 0, .int .i64 0, .int .i64 0, .int .i64 0, .int .i64 0, .int .i64 0] 43)).heap.size (some ⟨w9.heap.size + 1, 0, none⟩) [nFull] := by have h := (Loc.nil (w9.alloc (.cells #[.int .i64 1, .int .i64 0, .int .i64 10, .int .i64 1073741824, .int .i64 0, .int .i64 0, .int .i64 0, .int .i64 0, .int .i64 0, .int .i64 0, .int .i64 0] 43))).new [.int .i64 1, .int .i64 0, .int .i64 10, .int .i64 1073741824, .int .i64 0, .int .i64 0, .int .i64 0, .int .i64 0, .int .i64 0, .int .i64 0, .int .i64 0] 43; rw [World.size_alloc] at h; exact rd_loc enenc_len h
      refine (add_lit17 na_a (by decide) _ _ 1 0 _ rfl rfl (fun h => by cases h) (by decide) rdF1).mono ?_
      rintro r y1 ⟨A1, c1, rfl, -, -, -, hb1⟩
      have hb01 := below_then (below_new hbF (.cells #[.int .i64 1, .int .i64 0, .int .i64 10, .int .i64 1073741824, .int .i64 0, .int .i64 0, .int .i64 0, .int .i64 0, .int .i64 0, .int .i64 0, .int .i64 0] 43)) hb1
      have hl1 := (hlF.old (.cells #[.int .i64 1, .int .i64 0, .int .i64 10, .int .i64 1073741824, .int .i64 0, .int .i64 0, .int .i64 0, .int .i64 0, .int .i64 0, .int .i64 0, .int .i64 0] 43)).below hb1
      clear hF
      have hF := hl1
      (repeat unfold Loc at hF)
      go_wp2_with fail
      go_at_call 19
      refine (add_lit17 na_b (by decide) _ _ 1 1 _ rfl rfl (fun h => by cases h) (by decide) (rd_loc (l := [nFull]) enenc_len ((Loc.nil y1).new [.int .i64 1, .int .i64 0, .int .i64 10, .int .i64 1073741824, .int .i64 0, .int .i64 0, .int .i64 0, .int .i64 0, .int .i64 0, .int .i64 0, .int .i64 0] 43))).mono ?_
      rintro r y2 ⟨A2, c2, rfl, m2, z2, r2, hb2⟩
      have hb02 := below_then (below_new hb01 (.cells #[.int .i64 1, .int .i64 0, .int .i64 10, .int .i64 1073741824, .int .i64 0, .int .i64 0, .int .i64 0, .int .i64 0, .int .i64 0, .int .i64 0, .int .i64 0] 43)) hb2
      have hl2 := (hl1.old (.cells #[.int .i64 1, .int .i64 0, .int .i64 10, .int .i64 1073741824, .int .i64 0, .int .i64 0, .int .i64 0, .int .i64 0, .int .i64 0, .int .i64 0, .int .i64 0] 43)).below hb2
      clear hF
      have hF := hl2
      (repeat unfold Loc at hF)
      go_wp2_with fail
      go_at_call 19
      refine (add_lit17 na_c (by decide) none 0 0 0 y2 rfl rfl (fun _ => rfl) (by decide) Rd.nil).mono ?_
      rintro r y3 ⟨A3, c3, rfl, -, -, -, hb3⟩
      have hl3 := hl2.below hb3
      clear hF
      have hF := hl3
      (repeat unfold Loc at hF)
      go_wp2_with fail
      go_at_call 19
      refine (add_lit17 na_d (by decide) none 0 0 0 y3 rfl rfl (fun _ => rfl) (by decide) Rd.nil).mono ?_
      rintro r y4 ⟨A4, c4, rfl, -, -, -, hb4⟩
      have hl4 := hl3.below hb4
      clear hF
      have hF := hl4
      (repeat unfold Loc at hF)
      go_wp2_with fail
      go_at_call 19
      refine (add_lit17 na_e (by decide) none 0 0 0 y4 rfl rfl (fun _ => rfl) (by decide) Rd.nil).mono ?_
      rintro r y5 ⟨A5, c5, rfl, -, -, -, hb5⟩
      have hl5 := hl4.below hb5
      clear hF
      have hF := hl5
      (repeat unfold Loc at hF)
      go_wp2_with fail
      go_at_call 19
      refine (add_lit17 na_f (by decide) none 0 0 0 y5 rfl rfl (fun _ => rfl) (by decide) Rd.nil).mono ?_
      rintro r y6 ⟨A6, c6, rfl, -, -, -, hb6⟩
      have hl6 := hl5.below hb6
      have hb26 := below_then hb3 (below_then hb4 (below_then hb5 hb6))
      clear hF hl1 hl2 hl3 hl4 hl5 hlF hbF hb01 hb1 hb2 hb3 hb4 hb5 hb6 hl hb
      go_wp2_with fail
      obtain ⟨lE, hE, hR⟩ := Env.abs (w0 := y6) (Below.refl _ _) hl6
      (repeat unfold Loc at hR)
      refine wp_region_held_drew (S := Env y6 lE) (by kernel_rfl) (by (first | assumption | exact Env.step (by assumption) (by assumption) | exact Env.old (by assumption) _ | exact Env.drew hE | exact hE | exact Env.drew (by assumption) | exact Env.drew (Env.old (by assumption) _) | ((repeat first | refine Env.far0 ?_ (by assumption) _ | refine Env.far1 ?_ (by assumption) _ | refine Env.farA ?_ (by assumption) _); assumption))) (fun hHeld => ?_)
      refine hTake 1 (by kernel_rfl) (by kernel_rfl) (by kernel_rfl) (by decide) (by assumption) ?_; (intro oi hoi; simp only [List.getElem?_toArray, List.getElem?_cons_succ, List.getElem?_cons_zero] at hoi; obtain rfl := Option.some.inj hoi; clear hoi); refine ⟨rfl, ?_⟩; apply Exists.intro; refine ⟨?_, fun _ _ _ h => h, ?_⟩; (intro w hSw; (try dsimp only at hSw); go_simp; (try with_reducible rfl)); (try simp only [Act.put, List.setIfInBounds_toArray, List.set_cons_zero, List.set_cons_succ]); refine hTake 2 (by kernel_rfl) (by kernel_rfl) (by kernel_rfl) (by decide) (by assumption) ?_; (intro oi hoi; simp only [List.getElem?_toArray, List.getElem?_cons_succ, List.getElem?_cons_zero] at hoi; obtain rfl := Option.some.inj hoi; clear hoi); refine ⟨rfl, ?_⟩; apply Exists.intro; refine ⟨?_, fun _ _ _ h => h, ?_⟩; (intro w hSw; (try dsimp only at hSw); go_simp; (try with_reducible rfl)); (try simp only [Act.put, List.setIfInBounds_toArray, List.set_cons_zero, List.set_cons_succ])
      refine hOnly 0 (by kernel_rfl) (by decide) ?_; (intro oi hoi; simp only [List.getElem?_toArray, List.getElem?_cons_zero] at hoi; obtain rfl := Option.some.inj hoi; clear hoi); intro K hK; go_simp
      have hmk := run_make (P := Try.prog) y6.drew 27 43 i0 (.agg #[.int .i64 0, .int .i64 0, .int .i64 0, .int .i64 0, .int .i64 0, .int .i64 0, .int .i64 0, .int .i64 0, .int .i64 0, .int .i64 0, .int .i64 0]) Try.underlying27 hi0 hz0 .i64 .i64 4001 4001 (by omega) (by omega) (by rw [hz2]; decide) (by decide)
      rw [hz1, show (4001 : Int).toNat = 4001 from rfl] at hmk
      rw [hmk]
      have rdM := rd_made0 y6.drew 43 4001
      have hEM : Env y6 lE (y6.drew.alloc (.cells (madeCells #[.int .i64 0, .int .i64 0, .int .i64 0, .int .i64 0, .int .i64 0, .int .i64 0, .int .i64 0, .int .i64 0, .int .i64 0, .int .i64 0, .int .i64 0] (4001 * 11)) 43)) := Env.old (Env.drew hE) _
      generalize hM : (madeCells #[.int .i64 0, .int .i64 0, .int .i64 0, .int .i64 0, .int .i64 0, .int .i64 0, .int .i64 0, .int .i64 0, .int .i64 0, .int .i64 0, .int .i64 0] (4001 * 11)) = M at rdM hEM
      have hM2 : madeCells (Value.cells (.agg #[.int .i64 0, .int .i64 0, .int .i64 0, .int .i64 0, .int .i64 0, .int .i64 0, .int .i64 0, .int .i64 0, .int .i64 0, .int .i64 0, .int .i64 0])) (4001 * 11) = M := hM
      rw [hM2]
      clear hM hM2 hmk
      go_simp
      refine hK.out _ _ hEM (fun hHeld => ?_)
      clear hK K
      (try simp only [Act.put, List.setIfInBounds_toArray, List.set_cons_zero, List.set_cons_succ])
      refine hOnly 3 (by kernel_rfl) (by decide) ?_; (intro oi hoi; simp only [List.getElem?_toArray, List.getElem?_cons_succ, List.getElem?_cons_zero] at hoi; obtain rfl := Option.some.inj hoi; clear hoi); intro K hK; go_simp
      go_at_call 19
      refine (add_lit17 na_g (by decide) (some ⟨y6.heap.size, 0, none⟩) 4001 4001 0 _ (by rw [List.length_replicate]) rfl (fun h => by cases h) (by decide) (rdM.more (by simp))).mono ?_
      rintro r y7 ⟨A7, c7, rfl, -, -, -, hb7⟩
      have hE7 := Env.step hb7 hEM
      refine hK.out _ _ hE7 (fun hHeld7 => ?_)
      clear hK K
      (try simp only [Act.put, List.setIfInBounds_toArray, List.set_cons_zero, List.set_cons_succ])
      refine hTake 4 (by kernel_rfl) (by kernel_rfl) (by kernel_rfl) (by decide) (by assumption) ?_; (intro oi hoi; simp only [List.getElem?_toArray, List.getElem?_cons_succ, List.getElem?_cons_zero] at hoi; obtain rfl := Option.some.inj hoi; clear hoi); refine ⟨rfl, ?_⟩; apply Exists.intro; refine ⟨?_, fun _ _ _ h => h, ?_⟩; (intro w hSw; (try dsimp only at hSw); go_simp; (try with_reducible rfl)); (try simp only [Act.put, List.setIfInBounds_toArray, List.set_cons_zero, List.set_cons_succ]); refine hTake 5 (by kernel_rfl) (by kernel_rfl) (by kernel_rfl) (by decide) (by assumption) ?_; (intro oi hoi; simp only [List.getElem?_toArray, List.getElem?_cons_succ, List.getElem?_cons_zero] at hoi; obtain rfl := Option.some.inj hoi; clear hoi); refine ⟨rfl, ?_⟩; apply Exists.intro; refine ⟨?_, fun _ _ _ h => h, ?_⟩; (intro w hSw; (try dsimp only at hSw); go_simp; (try with_reducible rfl)); (try simp only [Act.put, List.setIfInBounds_toArray, List.set_cons_zero, List.set_cons_succ]); refine hTake 6 (by kernel_rfl) (by kernel_rfl) (by kernel_rfl) (by decide) (by assumption) ?_; (intro oi hoi; simp only [List.getElem?_toArray, List.getElem?_cons_succ, List.getElem?_cons_zero] at hoi; obtain rfl := Option.some.inj hoi; clear hoi); refine ⟨rfl, ?_⟩; apply Exists.intro; refine ⟨?_, fun _ _ _ h => h, ?_⟩; (intro w hSw; (try dsimp only at hSw); go_simp; (try with_reducible rfl)); (try simp only [Act.put, List.setIfInBounds_toArray, List.set_cons_zero, List.set_cons_succ]); refine hTake 7 (by kernel_rfl) (by kernel_rfl) (by kernel_rfl) (by decide) (by assumption) ?_; (intro oi hoi; simp only [List.getElem?_toArray, List.getElem?_cons_succ, List.getElem?_cons_zero] at hoi; obtain rfl := Option.some.inj hoi; clear hoi); refine ⟨rfl, ?_⟩; apply Exists.intro; refine ⟨?_, fun _ _ _ h => h, ?_⟩; (intro w hSw; (try dsimp only at hSw); go_simp; (try with_reducible rfl)); (try simp only [Act.put, List.setIfInBounds_toArray, List.set_cons_zero, List.set_cons_succ]); refine hTake 8 (by kernel_rfl) (by kernel_rfl) (by kernel_rfl) (by decide) (by assumption) ?_; (intro oi hoi; simp only [List.getElem?_toArray, List.getElem?_cons_succ, List.getElem?_cons_zero] at hoi; obtain rfl := Option.some.inj hoi; clear hoi); refine ⟨rfl, ?_⟩; apply Exists.intro; refine ⟨?_, fun _ _ _ h => h, ?_⟩; (intro w hSw; (try dsimp only at hSw); go_simp; (try with_reducible rfl)); (try simp only [Act.put, List.setIfInBounds_toArray, List.set_cons_zero, List.set_cons_succ])
      refine wpAnyH_done (by kernel_rfl) ?_ _
      have hb27 := below_then hb26 hE7.1
      have hl7 := hl6.below hE7.1
      clear hR hE hEM hE7 hb7 hHeld hHeld7 rdM hl6 hb26
      (try clear hF)
      have hF := hl7
      (repeat unfold Loc at hF)
      go_wp2_with fail
      go_at_call 19
      refine (add_lit17 na_h (by decide) none 0 0 1 y7 rfl rfl (fun _ => rfl) (by decide) Rd.nil).mono ?_
      rintro r y8 ⟨A8, c8, rfl, -, -, -, hb8⟩
      have hb28 := below_then hb27 hb8
      clear hF
      go_wp2_with fail
      go_at_call 22
      refine (fire_lit17 nf_i A2 c2 1 1 0 y8 rfl rfl rfl (by decide) (rd_grown r2 hb28)).mono ?_
      rintro r y9 ⟨A9, c9, B9, d9, rfl, hb9⟩
      go_wp2_with fail
      go_at_call 22
      refine (fire_lit17 nf_j A2 c2 1 0 1 y9 rfl rfl rfl (by decide) (rd_grown r2 (below_then hb28 hb9))).mono ?_
      rintro r y10 ⟨A10, c10, B10, d10, rfl, hb10⟩
      go_wp2_with fail
      go_at_call 45
      refine (alive17 _).mono ?_
      rintro r y11 ⟨rfl, hb11⟩
      have hb211 := below_then hb28 (below_then hb9 (below_then hb10 hb11))
      obtain ⟨b2, off2, rfl, hbb2, x0, x1, x2, x3, x4, x5, x6, x7, -⟩ := en_cells (rd_grown r2 hb211) (k := 0) (x := nOth) rfl
      simp only [nOth, Nat.zero_mul, Nat.add_zero] at x7
      have hw0 : (Lit.int .i64 0).wf = true := by decide
      have hwin := fun W => rwindow_any 0 0 0 hw0 W
      rw [show wchk 0 0 0 = 8 from by decide] at hwin
      have HWIN := Lib.hid hwin
      clear hwin
      go_wp2_with fail
      go_at_call 17
      refine (HWIN.out _).mono ?_
      rintro r y12 ⟨rfl, hb12⟩
      go_wp2
      go_ret
      exact ⟨rfl, below_then hb02 (below_then hb211 hb12)⟩
end Go.Proofs.Ytbbdepeifdbbdaa
