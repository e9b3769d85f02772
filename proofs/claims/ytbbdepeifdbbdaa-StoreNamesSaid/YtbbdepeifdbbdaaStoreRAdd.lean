/- The contract of the reference's Add (chapter 17). Condition: stores of at most 2^40 entries; a window and a value within their types. -/
import Derived.Test.YtbbdepeifdbbdaaStoreGivenR
import Derived.Test.YtbbdepeifdbbdaaStoreRCheck
import Derived.Test.YtbbdepeifdbbdaaKitB
namespace Go.Proofs.Ytbbdepeifdbbdaa
open Go.RowKit

theorem given_any (A : Option Addr) (c n : Nat) (l : List En) (wk ws we rk rt rv side : Int) (w : World) (hrv : (Lit.int .i64 rv).wf = true) (hln : l.length = n) (hz : A = none → c = 0) (hn : n ≤ 1099511627700) (hr : Rd enenc 11 w w.heap.size A l)
    (hss : SS l) (hl : ∀ y ∈ l, enw y) (ht : tot1 l ≤ 2305843009213690000 ∧ tot2 l ≤ 2305843009213690000) (hwok : wok wk ws we) (hs : side = 0 ∨ side = 1) (t1 : -1099511627776 ≤ rt) (t2 : rt ≤ 1099511627776) :
    Calls Try.prog 72 #[.slice A n c, .agg #[.int .u8 wk, .int .i64 ws, .int .i64 we], .agg #[.int .i64 rk, .int .i64 rt, .int .i64 rv], .int .i64 side] w (GivenP l wk ws we rk rt rv side w) := by
  by_cases hk : wk = 3
  · subst hk
    rcases hs with rfl | rfl
    · exact givenS0 A c n l ws we rk rt rv w hrv hln hz (by omega) hr hss hl ht hwok t1 t2
    · exact givenS1 A c n l ws we rk rt rv w hrv hln hz (by omega) hr hss hl ht hwok t1 t2
  · rcases hs with rfl | rfl
    · exact givenW0 A c n l wk ws we rk rt rv w hrv hln hz hn hr hss hl ht hwok hk t1 t2
    · exact givenW1 A c n l wk ws we rk rt rv w hrv hln hz hn hr hss hl ht hwok hk t1 t2
set_option maxHeartbeats 16000000 in
set_option maxRecDepth 100000 in
theorem radd_any (A : Option Addr) (c n : Nat) (l : List En) (wk ws we rk rt rv side : Int) (hwe : (Lit.int .i64 we).wf = true) (hrv : (Lit.int .i64 rv).wf = true) (w : World) (hln : l.length = n) (hz : A = none → c = 0) (hn : n ≤ 1099511627700) (hr : Rd enenc 11 w w.heap.size A l) :
    Calls Try.prog 41 #[.slice A n c, .agg #[.int .u8 wk, .int .i64 ws, .int .i64 we], .agg #[.int .i64 rk, .int .i64 rt, .int .i64 rv], .int .i64 side] w (AddP l wk ws we rk rt rv side w) := by
  have hL : Loc w [] := trivial
  obtain ⟨E, hE0⟩ : ∃ E, E = enchk l := ⟨_, rfl⟩
  have hck := fun W (h : Rd enenc 11 W W.heap.size A l) => rstorecheck_any A c n l W hln (by omega) h
  rw [← hE0] at hck
  have HCK := Lib.hid hck; have HE0 := Lib.hid hE0
  have hwin := fun W => rwindow_any wk ws we hwe W
  obtain ⟨D, hD⟩ : ∃ D, D = wchk wk ws we := ⟨_, rfl⟩
  rw [← hD] at hwin
  have HWIN := Lib.hid hwin; have HD := Lib.hid hD
  obtain ⟨C, hC⟩ : ∃ C, C = tchk rt 1 := ⟨_, rfl⟩
  have htc := fun W => rcheck_any rt 1 W
  rw [← hC] at htc
  have HTC := Lib.hid htc
  clear hck hE0 hwin hD htc
  by_cases h1 : E = 0
  · by_cases h2 : D = 0
    · have hwok : wok wk ws we := by
        have := HD.out
        unfold wchk at this
        by_cases h : wok wk ws we
        · exact h
        · rw [if_neg h] at this; omega
      by_cases h3 : side < 0 ∨ 1 < side
      · have hres : addE l wk ws we rk rt rv side = ([], 2) := by unfold addE; rw [if_neg (by rw [← HE0.out]; simp [h1]), if_neg (by simp [hwok]), if_pos h3]
        have HRES := Lib.hid hres
        subst h1 h2
        rcases h3 with h3 | h3
        all_goals
          clear hres hwok hC
          go_enter Try.func41, Try.ntmps41
          go_wp2_with fail
          go_at_call 44
          refine (HCK.out _ (rd_grown hr (by repeat (first | with_reducible exact Below.refl _ _ | with_reducible assumption | (with_reducible exact Env.below (by assumption)) | (with_reducible refine below_new ?_ _) | (with_reducible refine below_drew ?_) | (with_reducible refine below_drewN ?_ _) | (with_reducible refine below_put ?_ ?_ _; rotate_left 1; (dsimp only; omega)) | (with_reducible refine below_then ?_ (by assumption)))))).mono ?_
          rintro r w1 ⟨rfl, hb1⟩
          replace hL := (by with_reducible first | exact hL.below hb1 | exact (hL.new _ _).below hb1 | exact ((hL.new _ _).new _ _).below hb1 | exact (((hL.new _ _).new _ _).new _ _).below hb1 | exact ((((hL.new _ _).new _ _).new _ _).new _ _).below hb1); (repeat rw [World.size_alloc] at hL); have hF := hL; (repeat unfold Loc at hF)
          go_wp2_with fail
          go_at_call 17
          refine (HWIN.out _).mono ?_
          rintro r w2 ⟨rfl, hb2⟩
          clear hF
          replace hL := (by with_reducible first | exact hL.below hb2 | exact (hL.new _ _).below hb2 | exact ((hL.new _ _).new _ _).below hb2 | exact (((hL.new _ _).new _ _).new _ _).below hb2 | exact ((((hL.new _ _).new _ _).new _ _).new _ _).below hb2); (repeat rw [World.size_alloc] at hL); have hF := hL; (repeat unfold Loc at hF)
          go_wp2
          all_goals (go_ret2; exact AddP.no HRES.out (by repeat (first | with_reducible exact Below.refl _ _ | with_reducible assumption | (with_reducible exact Env.below (by assumption)) | (with_reducible refine below_new ?_ _) | (with_reducible refine below_drew ?_) | (with_reducible refine below_drewN ?_ _) | (with_reducible refine below_put ?_ ?_ _; rotate_left 1; (dsimp only; omega)) | (with_reducible refine below_then ?_ (by assumption)))))
      · by_cases h4 : rt < -1099511627776 ∨ 1099511627776 < rt
        · have hres : addE l wk ws we rk rt rv side = ([], 16) := by unfold addE; rw [if_neg (by rw [← HE0.out]; simp [h1]), if_neg (by simp [hwok]), if_neg h3, if_pos h4]
          have HRES := Lib.hid hres
          have hC16 : C = 16 := by rw [hC]; unfold tchk; rw [if_neg (by omega), if_pos h4]
          have s1 : ¬ side < 0 := by omega
          have s2 : ¬ 1 < side := by omega
          have s1' : decide (side < 0) = false := by simp; omega
          have s2' : decide (1 < side) = false := by simp; omega
          clear hC
          subst h1 h2 hC16
          clear hres h3 hwok h4
          go_enter Try.func41, Try.ntmps41
          go_wp2_with fail
          go_at_call 44
          refine (HCK.out _ (rd_grown hr (by repeat (first | with_reducible exact Below.refl _ _ | with_reducible assumption | (with_reducible exact Env.below (by assumption)) | (with_reducible refine below_new ?_ _) | (with_reducible refine below_drew ?_) | (with_reducible refine below_drewN ?_ _) | (with_reducible refine below_put ?_ ?_ _; rotate_left 1; (dsimp only; omega)) | (with_reducible refine below_then ?_ (by assumption)))))).mono ?_
          rintro r w1 ⟨rfl, hb1⟩
          replace hL := (by with_reducible first | exact hL.below hb1 | exact (hL.new _ _).below hb1 | exact ((hL.new _ _).new _ _).below hb1 | exact (((hL.new _ _).new _ _).new _ _).below hb1 | exact ((((hL.new _ _).new _ _).new _ _).new _ _).below hb1); (repeat rw [World.size_alloc] at hL); have hF := hL; (repeat unfold Loc at hF)
          go_wp2_with fail
          go_at_call 17
          refine (HWIN.out _).mono ?_
          rintro r w2 ⟨rfl, hb2⟩
          clear hF
          replace hL := (by with_reducible first | exact hL.below hb2 | exact (hL.new _ _).below hb2 | exact ((hL.new _ _).new _ _).below hb2 | exact (((hL.new _ _).new _ _).new _ _).below hb2 | exact ((((hL.new _ _).new _ _).new _ _).new _ _).below hb2); (repeat rw [World.size_alloc] at hL); have hF := hL; (repeat unfold Loc at hF)
          go_wp2_with fail
          go_at_call 18
          refine (HTC.out _).mono ?_
          rintro r w3 ⟨rfl, rfl⟩
          go_wp2
          all_goals (go_ret2; exact AddP.no HRES.out (by repeat (first | with_reducible exact Below.refl _ _ | with_reducible assumption | (with_reducible exact Env.below (by assumption)) | (with_reducible refine below_new ?_ _) | (with_reducible refine below_drew ?_) | (with_reducible refine below_drewN ?_ _) | (with_reducible refine below_put ?_ ?_ _; rotate_left 1; (dsimp only; omega)) | (with_reducible refine below_then ?_ (by assumption)))))
        · obtain ⟨v1, v2, v3, v4, v5⟩ := valid_tot (HE0.out.symm.trans h1)
          have t1 : -1099511627776 ≤ rt := by omega
          have t2 : rt ≤ 1099511627776 := by omega
          have hres : addE l wk ws we rk rt rv side = (if (givE l wk ws we rk rt rv side).2 = true then ((givE l wk ws we rk rt rv side).1, 0) else ([], 4)) := by unfold addE; rw [if_neg (by rw [← HE0.out]; simp [h1]), if_neg (by simp [hwok]), if_neg h3, if_neg h4]
          have hC0 : C = 0 := by rw [hC]; unfold tchk; rw [if_neg (by omega), if_neg (by omega)]
          have hg := fun W (h : Rd enenc 11 W W.heap.size A l) => given_any A c n l wk ws we rk rt rv side W hrv hln hz (by omega) h v2 v1 ⟨by omega, by omega⟩ hwok (by omega) t1 t2
          unfold GivenP at hg
          obtain ⟨F, hF0⟩ : ∃ F, F = (givE l wk ws we rk rt rv side).2 := ⟨_, rfl⟩
          obtain ⟨L', hL'⟩ : ∃ L', L' = (givE l wk ws we rk rt rv side).1 := ⟨_, rfl⟩
          rw [← hF0, ← hL'] at hres
          rw [← hF0, ← hL'] at hg
          have HG := Lib.hid hg
          have s1 : ¬ side < 0 := by omega
          have s2 : ¬ 1 < side := by omega
          have s1' : decide (side < 0) = false := by simp; omega
          have s2' : decide (1 < side) = false := by simp; omega
          clear hC
          subst h1 h2 hC0
          clear h3 hwok h4 hg hF0 hL' v1 v2 v3 v4 v5
          cases F with
          | false =>
            rw [if_neg (by simp)] at hres
            have HRES := Lib.hid hres
            clear hres
            go_enter Try.func41, Try.ntmps41
            go_wp2_with fail
            go_at_call 44
            refine (HCK.out _ (rd_grown hr (by repeat (first | with_reducible exact Below.refl _ _ | with_reducible assumption | (with_reducible exact Env.below (by assumption)) | (with_reducible refine below_new ?_ _) | (with_reducible refine below_drew ?_) | (with_reducible refine below_drewN ?_ _) | (with_reducible refine below_put ?_ ?_ _; rotate_left 1; (dsimp only; omega)) | (with_reducible refine below_then ?_ (by assumption)))))).mono ?_
            rintro r w1 ⟨rfl, hb1⟩
            replace hL := (by with_reducible first | exact hL.below hb1 | exact (hL.new _ _).below hb1 | exact ((hL.new _ _).new _ _).below hb1 | exact (((hL.new _ _).new _ _).new _ _).below hb1 | exact ((((hL.new _ _).new _ _).new _ _).new _ _).below hb1); (repeat rw [World.size_alloc] at hL); have hF := hL; (repeat unfold Loc at hF)
            go_wp2_with fail
            go_at_call 17
            refine (HWIN.out _).mono ?_
            rintro r w2 ⟨rfl, hb2⟩
            clear hF
            replace hL := (by with_reducible first | exact hL.below hb2 | exact (hL.new _ _).below hb2 | exact ((hL.new _ _).new _ _).below hb2 | exact (((hL.new _ _).new _ _).new _ _).below hb2 | exact ((((hL.new _ _).new _ _).new _ _).new _ _).below hb2); (repeat rw [World.size_alloc] at hL); have hF := hL; (repeat unfold Loc at hF)
            go_wp2_with fail
            go_at_call 18
            refine (HTC.out _).mono ?_
            rintro r w3 ⟨rfl, rfl⟩
            go_wp2_with fail
            go_at_call 72
            refine (HG.out _ (rd_grown hr (by repeat (first | with_reducible exact Below.refl _ _ | with_reducible assumption | (with_reducible exact Env.below (by assumption)) | (with_reducible refine below_new ?_ _) | (with_reducible refine below_drew ?_) | (with_reducible refine below_drewN ?_ _) | (with_reducible refine below_put ?_ ?_ _; rotate_left 1; (dsimp only; omega)) | (with_reducible refine below_then ?_ (by assumption)))))).mono ?_
            rintro r w4 ⟨v4, rfl, own4, hb4⟩
            go_wp2
            go_ret2
            exact AddP.no HRES.out (by repeat (first | with_reducible exact Below.refl _ _ | with_reducible assumption | (with_reducible exact Env.below (by assumption)) | (with_reducible refine below_new ?_ _) | (with_reducible refine below_drew ?_) | (with_reducible refine below_drewN ?_ _) | (with_reducible refine below_put ?_ ?_ _; rotate_left 1; (dsimp only; omega)) | (with_reducible refine below_then ?_ (by assumption))))
          | true =>
            rw [if_pos rfl] at hres
            have HRES := Lib.hid hres
            clear hres
            go_enter Try.func41, Try.ntmps41
            go_wp2_with fail
            go_at_call 44
            refine (HCK.out _ (rd_grown hr (by repeat (first | with_reducible exact Below.refl _ _ | with_reducible assumption | (with_reducible exact Env.below (by assumption)) | (with_reducible refine below_new ?_ _) | (with_reducible refine below_drew ?_) | (with_reducible refine below_drewN ?_ _) | (with_reducible refine below_put ?_ ?_ _; rotate_left 1; (dsimp only; omega)) | (with_reducible refine below_then ?_ (by assumption)))))).mono ?_
            rintro r w1 ⟨rfl, hb1⟩
            replace hL := (by with_reducible first | exact hL.below hb1 | exact (hL.new _ _).below hb1 | exact ((hL.new _ _).new _ _).below hb1 | exact (((hL.new _ _).new _ _).new _ _).below hb1 | exact ((((hL.new _ _).new _ _).new _ _).new _ _).below hb1); (repeat rw [World.size_alloc] at hL); have hF := hL; (repeat unfold Loc at hF)
            go_wp2_with fail
            go_at_call 17
            refine (HWIN.out _).mono ?_
            rintro r w2 ⟨rfl, hb2⟩
            clear hF
            replace hL := (by with_reducible first | exact hL.below hb2 | exact (hL.new _ _).below hb2 | exact ((hL.new _ _).new _ _).below hb2 | exact (((hL.new _ _).new _ _).new _ _).below hb2 | exact ((((hL.new _ _).new _ _).new _ _).new _ _).below hb2); (repeat rw [World.size_alloc] at hL); have hF := hL; (repeat unfold Loc at hF)
            go_wp2_with fail
            go_at_call 18
            refine (HTC.out _).mono ?_
            rintro r w3 ⟨rfl, rfl⟩
            go_wp2_with fail
            go_at_call 72
            have hbg : Below w.heap.size w w2 := (by repeat (first | with_reducible exact Below.refl _ _ | with_reducible assumption | (with_reducible exact Env.below (by assumption)) | (with_reducible refine below_new ?_ _) | (with_reducible refine below_drew ?_) | (with_reducible refine below_drewN ?_ _) | (with_reducible refine below_put ?_ ?_ _; rotate_left 1; (dsimp only; omega)) | (with_reducible refine below_then ?_ (by assumption))))
            refine (HG.out _ (rd_grown hr hbg)).mono ?_
            rintro r w4 ⟨v4, rfl, own4, hb4⟩
            go_wp2
            go_ret2
            exact AddP.yes HRES.out (own4.mono hbg.size) (by repeat (first | with_reducible exact Below.refl _ _ | with_reducible assumption | (with_reducible exact Env.below (by assumption)) | (with_reducible refine below_new ?_ _) | (with_reducible refine below_drew ?_) | (with_reducible refine below_drewN ?_ _) | (with_reducible refine below_put ?_ ?_ _; rotate_left 1; (dsimp only; omega)) | (with_reducible refine below_then ?_ (by assumption))))
    · have hwok : ¬ wok wk ws we := by
        intro h
        have := HD.out
        unfold wchk at this
        rw [if_pos h] at this
        omega
      have hD8 : D = 8 := by rw [HD.out]; unfold wchk; rw [if_neg hwok]
      have hres : addE l wk ws we rk rt rv side = ([], 8) := by unfold addE; rw [if_neg (by rw [← HE0.out]; simp [h1]), if_pos hwok]
      have HRES := Lib.hid hres
      subst h1 hD8
      clear hres hwok h2 hC
      go_enter Try.func41, Try.ntmps41
      go_wp2_with fail
      go_at_call 44
      refine (HCK.out _ (rd_grown hr (by repeat (first | with_reducible exact Below.refl _ _ | with_reducible assumption | (with_reducible exact Env.below (by assumption)) | (with_reducible refine below_new ?_ _) | (with_reducible refine below_drew ?_) | (with_reducible refine below_drewN ?_ _) | (with_reducible refine below_put ?_ ?_ _; rotate_left 1; (dsimp only; omega)) | (with_reducible refine below_then ?_ (by assumption)))))).mono ?_
      rintro r w1 ⟨rfl, hb1⟩
      replace hL := (by with_reducible first | exact hL.below hb1 | exact (hL.new _ _).below hb1 | exact ((hL.new _ _).new _ _).below hb1 | exact (((hL.new _ _).new _ _).new _ _).below hb1 | exact ((((hL.new _ _).new _ _).new _ _).new _ _).below hb1); (repeat rw [World.size_alloc] at hL); have hF := hL; (repeat unfold Loc at hF)
      go_wp2_with fail
      go_at_call 17
      refine (HWIN.out _).mono ?_
      rintro r w2 ⟨rfl, hb2⟩
      clear hF
      replace hL := (by with_reducible first | exact hL.below hb2 | exact (hL.new _ _).below hb2 | exact ((hL.new _ _).new _ _).below hb2 | exact (((hL.new _ _).new _ _).new _ _).below hb2 | exact ((((hL.new _ _).new _ _).new _ _).new _ _).below hb2); (repeat rw [World.size_alloc] at hL); have hF := hL; (repeat unfold Loc at hF)
      go_wp2
      go_ret2
      exact AddP.no HRES.out (by repeat (first | with_reducible exact Below.refl _ _ | with_reducible assumption | (with_reducible exact Env.below (by assumption)) | (with_reducible refine below_new ?_ _) | (with_reducible refine below_drew ?_) | (with_reducible refine below_drewN ?_ _) | (with_reducible refine below_put ?_ ?_ _; rotate_left 1; (dsimp only; omega)) | (with_reducible refine below_then ?_ (by assumption))))
  · have hres : addE l wk ws we rk rt rv side = ([], E) := by unfold addE; rw [← HE0.out, if_pos h1]
    have HRES := Lib.hid hres
    have d0 : (E != 0) = true := by simp [h1]
    clear hres h1 hC
    go_enter Try.func41, Try.ntmps41
    go_wp2_with fail
    go_at_call 44
    refine (HCK.out _ (rd_grown hr (by repeat (first | with_reducible exact Below.refl _ _ | with_reducible assumption | (with_reducible exact Env.below (by assumption)) | (with_reducible refine below_new ?_ _) | (with_reducible refine below_drew ?_) | (with_reducible refine below_drewN ?_ _) | (with_reducible refine below_put ?_ ?_ _; rotate_left 1; (dsimp only; omega)) | (with_reducible refine below_then ?_ (by assumption)))))).mono ?_
    rintro r w1 ⟨rfl, hb1⟩
    replace hL := (by with_reducible first | exact hL.below hb1 | exact (hL.new _ _).below hb1 | exact ((hL.new _ _).new _ _).below hb1 | exact (((hL.new _ _).new _ _).new _ _).below hb1 | exact ((((hL.new _ _).new _ _).new _ _).new _ _).below hb1); (repeat rw [World.size_alloc] at hL); have hF := hL; (repeat unfold Loc at hF)
    go_wp2
    go_ret2
    exact AddP.no HRES.out (by repeat (first | with_reducible exact Below.refl _ _ | with_reducible assumption | (with_reducible exact Env.below (by assumption)) | (with_reducible refine below_new ?_ _) | (with_reducible refine below_drew ?_) | (with_reducible refine below_drewN ?_ _) | (with_reducible refine below_put ?_ ?_ _; rotate_left 1; (dsimp only; omega)) | (with_reducible refine below_then ?_ (by assumption))))
end Go.Proofs.Ytbbdepeifdbbdaa
