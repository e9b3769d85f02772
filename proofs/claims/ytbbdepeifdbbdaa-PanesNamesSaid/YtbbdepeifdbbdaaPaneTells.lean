/- The walk of PanesTells: the program's and the reference's Size, Parts and Values return the same. No condition. -/
import Derived.Test.YtbbdepeifdbbdaaPaneLaw
namespace Go.Proofs.Ytbbdepeifdbbdaa
open Go.RowKit Go.ChangeShapes Go.WideShapes Go.ChangeAt Go.Deep

theorem pparts_len {k ws we a b : Int} : (pparts k ws we a b).1.length ≤ 4000 := by
  unfold pparts
  split
  · simp
  · split
    · simp
    · split
      · simp
      · rw [partsL_len]; omega
theorem pvals_len {k ws we : Int} {l : List Pt} (hd : ∀ p ∈ l, p.d = 0) : (pvals k ws we l).1.length ≤ 3840 := by
  unfold pvals
  split
  · simp
  · rename_i h1
    split
    · simp
    · rename_i h2
      split
      · rename_i h3
        rw [List.all_eq_true] at h3
        obtain ⟨hw, rfl⟩ := slchk_zero.1 (Decidable.not_not.1 h1)
        have hP : ∀ p ∈ l, okP p := fun p hp => ⟨by have := h3 p hp; unfold timeB at this; simpa using this, .inl (hd p hp)⟩
        obtain ⟨a, a1, a2, a3, a4, a5⟩ := all_inv hw l.length l rfl (by omega) hP
        have := sumW_16 hw l
        rw [a1]
        show a.length ≤ 3840
        omega
      · simp
theorem psame_yes (A A' : Option Addr) (c c' n : Nat) (l : List (Int × Int)) (w : World) (hn : l.length = n) (hb : n ≤ 4611686018427387904) (hl : Rd senc 2 w w.heap.size A l) (hm : Rd senc 2 w w.heap.size A' l) :
    Calls Try.prog 31 #[.slice A n c, .slice A' n c'] w fun e w' => e = .returned (.bool true) ∧ Below w.heap.size w w' := by
  subst hn
  have h := same_any A A' c c' l l w hl hm hb
  have e : spansEq l l = true := by unfold spansEq; simp
  rw [e] at h
  exact h
theorem esame_yes (A A' : Option Addr) (c c' n : Nat) (l : List En) (w : World) (hn : l.length = n) (hb : n ≤ 4611686018427387904) (hl : Rd enenc 11 w w.heap.size A l) (hm : Rd enenc 11 w w.heap.size A' l) :
    Calls Try.prog 32 #[.slice A n c, .slice A' n c'] w fun e w' => e = .returned (.bool true) ∧ Below w.heap.size w w' := by
  have h := rsameE_any A A' c c' n n l l w hl hm hn hn hb
  have e : entsEq l l = true := by unfold entsEq; simp
  rw [e] at h
  exact h
set_option maxHeartbeats 16000000 in
set_option maxRecDepth 100000 in
theorem panesTells_walk {w : World} (size : Int) (w0 : (Lit.int .i64 size).wf = true) (every : Int) (w1 : (Lit.int .i64 every).wf = true) (wk : Int) (_wwk : (Lit.int .u8 wk).wf = true) (ws : Int) (_wws : (Lit.int .i64 ws).wf = true) (we : Int) (wwe : (Lit.int .i64 we).wf = true)
    (sa : Int) (_wsa : (Lit.int .i64 sa).wf = true) (sb : Int) (_wsb : (Lit.int .i64 sb).wf = true)
    (A : Option Addr) (c : Nat) (l : List Pt) (_lc : l.length ≤ c) (_lm : c ≤ maxLen) (lw : ∀ x ∈ l, rctok x) (lr : Rd rcenc 3 w w.heap.size A l) (_ln : A = none → c = 0) :
    Calls Try.prog 4 #[.int .i64 size, .int .i64 every, .agg #[.int .u8 wk, .int .i64 ws, .int .i64 we], .agg #[.int .i64 sa, .int .i64 sb], .slice A l.length c] w fun r w' => r = .returned (.bool true) ∧ Below w.heap.size w w' := by
  obtain ⟨n, hn⟩ : ∃ n, l.length = n := ⟨_, rfl⟩
  rw [hn]
  have hl0 : Loc ((w.alloc (.cells #[.int .u8 wk, .int .i64 ws, .int .i64 we] 23)).alloc (.cells #[.int .i64 sa, .int .i64 sb] 38)) [(w.heap.size + 1, [.int .i64 sa, .int .i64 sb]), (w.heap.size, [.int .u8 wk, .int .i64 ws, .int .i64 we])] := by
    have h := ((Loc.nil w).new [.int .u8 wk, .int .i64 ws, .int .i64 we] 23).new [.int .i64 sa, .int .i64 sb] 38
    rw [World.size_alloc] at h
    exact h
  have hb0 : Below w.heap.size w ((w.alloc (.cells #[.int .u8 wk, .int .i64 ws, .int .i64 we] 23)).alloc (.cells #[.int .i64 sa, .int .i64 sb] 38)) := (by repeat (first | with_reducible exact Below.refl _ _ | with_reducible assumption | (with_reducible exact Env.below (by assumption)) | (with_reducible refine below_new ?_ _) | (with_reducible refine below_drew ?_) | (with_reducible refine below_drewN ?_ _) | (with_reducible refine below_put ?_ ?_ _; rotate_left 1; (dsimp only; omega)) | (with_reducible refine below_then ?_ (by assumption))))
  by_cases h1 : (60 < n ∧ n < 240) ∨ 250 < n
  · rcases h1 with ⟨h2, h3⟩ | h2
    · have d1 : decide ((60 : Int) < (n : Int)) = true := by simp; omega
      have d1' : decide (60 < n) = true := by simp; omega
      have d2 : decide ((n : Int) < 240) = true := by simp; omega
      have d2' : decide (n < 240) = true := by simp; omega
      clear hn
      go_enter Try.func4, Try.ntmps4
      go_wp2
      go_ret
      exact ⟨rfl, hb0⟩
    · have d1 : decide ((60 : Int) < (n : Int)) = true := by simp; omega
      have d1' : decide (60 < n) = true := by simp; omega
      have d2 : decide ((n : Int) < 240) = false := by simp; omega
      have d2' : decide (n < 240) = false := by simp; omega
      have d3 : decide ((250 : Int) < (n : Int)) = true := by simp; omega
      have d3' : decide (250 < n) = true := by simp; omega
      clear hn
      go_enter Try.func4, Try.ntmps4
      go_wp2
      go_ret
      exact ⟨rfl, hb0⟩
  · have d3 : decide ((250 : Int) < (n : Int)) = false := by simp; omega
    have d3' : decide (250 < n) = false := by simp; omega
    have hn2 : n ≤ 250 := by omega
    have hsz := fun W => size_any size every w0 w1 W
    have hrsz := fun W => rsize_any size every w0 w1 W
    obtain ⟨⟨z1, z2⟩, hP⟩ : ∃ P, P = psize size every := ⟨_, rfl⟩
    rw [← hP] at hsz hrsz
    obtain ⟨⟨pl, pe⟩, hPP⟩ : ∃ P, P = pparts wk ws we sa sb := ⟨_, rfl⟩
    obtain ⟨⟨vl, ve⟩, hVV⟩ : ∃ P, P = pvals wk ws we l := ⟨_, rfl⟩
    have hplen : pl.length ≤ 4000 := by have := pparts_len (k := wk) (ws := ws) (we := we) (a := sa) (b := sb); rw [← hPP] at this; exact this
    have hvlen : vl.length ≤ 3840 := by have := pvals_len (k := wk) (ws := ws) (we := we) (fun p hp => (lw p hp).1); rw [← hVV] at this; exact this
    obtain ⟨pn, hpn⟩ : ∃ pn, pl.length = pn := ⟨_, rfl⟩
    obtain ⟨vn, hvn⟩ : ∃ vn, vl.length = vn := ⟨_, rfl⟩
    rw [hpn] at hplen
    rw [hvn] at hvlen
    have HSZ := Lib.hid hsz; have HRSZ := Lib.hid hrsz; have HPP := Lib.hid hPP; have HVV := Lib.hid hVV; have HPN := Lib.hid hpn; have HVN := Lib.hid hvn; have HN := Lib.hid hn; have HLW := Lib.hid lw
    clear hsz hrsz hPP hVV hpn hvn hn lw hP
    by_cases h2 : 60 < n
    · have d1 : decide ((60 : Int) < (n : Int)) = true := by simp; omega
      have d1' : decide (60 < n) = true := by simp; omega
      have d2 : decide ((n : Int) < 240) = false := by simp; omega
      have d2' : decide (n < 240) = false := by simp; omega
      go_enter Try.func4, Try.ntmps4
      have hbb0 := hb0
      have hF := hl0
      (repeat unfold Loc at hF)
      go_wp2_with fail
      go_at_call 25
      refine (HSZ.out _).mono ?_
      rintro r w1 ⟨rfl, hb1⟩
      have hl1 := hl0.below hb1
      have hbb1 := below_then hbb0 hb1
      clear hF hl0
      have hF := hl1
      (repeat unfold Loc at hF)
      go_wp2_with fail
      go_at_call 26
      refine (HRSZ.out _).mono ?_
      rintro r w2 ⟨rfl, hb2⟩
      have hl2 := hl1.below hb2
      have hbb2 := below_then hbb1 hb2
      clear hF hl1
      have hF := hl2
      (repeat unfold Loc at hF)
      go_wp2_with fail
      go_at_call 27
      refine (parts_any wk ws we sa sb wwe _).mono ?_
      rintro r w3 h3
      obtain ⟨A3, c3, rfl, m3, cm3, z3, r3, hb3⟩ := partsR_of HPP.out.symm HPN.out h3
      clear h3
      have hl3 := hl2.below hb3
      have hbb3 := below_then hbb2 hb3
      clear hF hl2
      have hF := hl3
      (repeat unfold Loc at hF)
      go_wp2_with fail
      go_at_call 28
      refine (rparts_any wk ws we sa sb wwe _).mono ?_
      rintro r w4 h4
      obtain ⟨A4, c4, rfl, m4, cm4, z4, r4, hb4⟩ := partsR_of HPP.out.symm HPN.out h4
      clear h4
      have hl4 := hl3.below hb4
      have hbb4 := below_then hbb3 hb4
      clear hF hl3
      have hF := hl4
      (repeat unfold Loc at hF)
      go_wp2_with fail
      go_at_call 29
      refine (values_any A c n l wk ws we wwe _ HN.out (by omega) (rd_grown lr hbb4) HLW.out).mono ?_
      rintro r w5 h5
      obtain ⟨A5, c5, rfl, m5, cm5, z5, r5, hb5⟩ := valsR_of HVV.out.symm HVN.out h5
      clear h5
      have hl5 := hl4.below hb5
      have hbb5 := below_then hbb4 hb5
      clear hF hl4
      have hF := hl5
      (repeat unfold Loc at hF)
      go_wp2_with fail
      go_at_call 30
      refine (rvals_any A c n l wk ws we wwe _ HN.out (by omega) (rd_grown lr hbb5) HLW.out).mono ?_
      rintro r w6 h6
      obtain ⟨A6, c6, rfl, m6, cm6, z6, r6, hb6⟩ := valsR_of HVV.out.symm HVN.out h6
      clear h6
      have hl6 := hl5.below hb6
      have hbb6 := below_then hbb5 hb6
      clear hF hl5
      have hF := hl6
      (repeat unfold Loc at hF)
      have p3 := rd_grown r3 (below_then hb4 (below_then hb5 hb6))
      have p4 := rd_grown r4 (below_then hb5 hb6)
      have p5 := rd_grown r5 hb6
      clear hb1 hb2 hb3 hb4 hb5 hb6 hbb0 hbb1 hbb2 hbb3 hbb4 hbb5 r3 r4 r5
      go_wp2_with fail
      go_at_call 31
      refine (psame_yes A3 A4 c3 c4 pn pl _ HPN.out (by omega) p3 p4).mono ?_
      rintro r w7 ⟨rfl, hb7⟩
      go_wp2_with fail
      go_at_call 32
      refine (esame_yes A5 A6 c5 c6 vn vl _ HVN.out (by omega) (rd_grown p5 hb7) (rd_grown r6 hb7)).mono ?_
      rintro r w8 ⟨rfl, hb8⟩
      go_wp2
      go_ret
      exact ⟨rfl, below_then (below_then hbb6 hb7) hb8⟩
    · have d1 : decide ((60 : Int) < (n : Int)) = false := by simp; omega
      have d1' : decide (60 < n) = false := by simp; omega
      go_enter Try.func4, Try.ntmps4
      have hbb0 := hb0
      have hF := hl0
      (repeat unfold Loc at hF)
      go_wp2_with fail
      go_at_call 25
      refine (HSZ.out _).mono ?_
      rintro r w1 ⟨rfl, hb1⟩
      have hl1 := hl0.below hb1
      have hbb1 := below_then hbb0 hb1
      clear hF hl0
      have hF := hl1
      (repeat unfold Loc at hF)
      go_wp2_with fail
      go_at_call 26
      refine (HRSZ.out _).mono ?_
      rintro r w2 ⟨rfl, hb2⟩
      have hl2 := hl1.below hb2
      have hbb2 := below_then hbb1 hb2
      clear hF hl1
      have hF := hl2
      (repeat unfold Loc at hF)
      go_wp2_with fail
      go_at_call 27
      refine (parts_any wk ws we sa sb wwe _).mono ?_
      rintro r w3 h3
      obtain ⟨A3, c3, rfl, m3, cm3, z3, r3, hb3⟩ := partsR_of HPP.out.symm HPN.out h3
      clear h3
      have hl3 := hl2.below hb3
      have hbb3 := below_then hbb2 hb3
      clear hF hl2
      have hF := hl3
      (repeat unfold Loc at hF)
      go_wp2_with fail
      go_at_call 28
      refine (rparts_any wk ws we sa sb wwe _).mono ?_
      rintro r w4 h4
      obtain ⟨A4, c4, rfl, m4, cm4, z4, r4, hb4⟩ := partsR_of HPP.out.symm HPN.out h4
      clear h4
      have hl4 := hl3.below hb4
      have hbb4 := below_then hbb3 hb4
      clear hF hl3
      have hF := hl4
      (repeat unfold Loc at hF)
      go_wp2_with fail
      go_at_call 29
      refine (values_any A c n l wk ws we wwe _ HN.out (by omega) (rd_grown lr hbb4) HLW.out).mono ?_
      rintro r w5 h5
      obtain ⟨A5, c5, rfl, m5, cm5, z5, r5, hb5⟩ := valsR_of HVV.out.symm HVN.out h5
      clear h5
      have hl5 := hl4.below hb5
      have hbb5 := below_then hbb4 hb5
      clear hF hl4
      have hF := hl5
      (repeat unfold Loc at hF)
      go_wp2_with fail
      go_at_call 30
      refine (rvals_any A c n l wk ws we wwe _ HN.out (by omega) (rd_grown lr hbb5) HLW.out).mono ?_
      rintro r w6 h6
      obtain ⟨A6, c6, rfl, m6, cm6, z6, r6, hb6⟩ := valsR_of HVV.out.symm HVN.out h6
      clear h6
      have hl6 := hl5.below hb6
      have hbb6 := below_then hbb5 hb6
      clear hF hl5
      have hF := hl6
      (repeat unfold Loc at hF)
      have p3 := rd_grown r3 (below_then hb4 (below_then hb5 hb6))
      have p4 := rd_grown r4 (below_then hb5 hb6)
      have p5 := rd_grown r5 hb6
      clear hb1 hb2 hb3 hb4 hb5 hb6 hbb0 hbb1 hbb2 hbb3 hbb4 hbb5 r3 r4 r5
      go_wp2_with fail
      go_at_call 31
      refine (psame_yes A3 A4 c3 c4 pn pl _ HPN.out (by omega) p3 p4).mono ?_
      rintro r w7 ⟨rfl, hb7⟩
      go_wp2_with fail
      go_at_call 32
      refine (esame_yes A5 A6 c5 c6 vn vl _ HVN.out (by omega) (rd_grown p5 hb7) (rd_grown r6 hb7)).mono ?_
      rintro r w8 ⟨rfl, hb8⟩
      go_wp2
      go_ret
      exact ⟨rfl, below_then (below_then hbb6 hb7) hb8⟩
end Go.Proofs.Ytbbdepeifdbbdaa
