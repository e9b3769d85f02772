/- The reference's Rows, Late, Same, and the walk of SinkSorts (chapter 34). No condition. -/
import Derived.Test.YtffehibdeogjeaaSinkRef
import Derived.Test.YtffehibdeogjeaaSinkLate
namespace Go.Proofs.Ytffehibdeogjeaa
open Go.RowKit

/-- What sorting returns. -/
def wsrt (l : List Rw) : List Rw × Int := if 4000 < l.length then ([], 4) else (sortL wlt w0 l, 0)
def rsrt (l : List Rc) : List Rc × Int := if 4000 < l.length then ([], 4) else (sortL rlt r0 l, 0)
def wsme (l m : List Rw) : Bool × Int := if 4000 < l.length ∨ 4000 < m.length then (false, 4) else (sameW l m, 0)
theorem wsrt_len (l : List Rw) : (wsrt l).1.length ≤ 4000 := by
  unfold wsrt
  split
  · simp
  · simp only; rw [sortL_length wsto]; omega
theorem rsrt_len (l : List Rc) : (rsrt l).1.length ≤ 4000 := by
  unfold rsrt
  split
  · simp
  · simp only; rw [sortL_length rsto]; omega
theorem rows_is (A : Option Addr) (c n : Nat) (l : List Rw) (w : World) (hln : l.length = n) (hz : A = none → c = 0) (hn : n ≤ 5000) (hr : Rd wenc 5 w w.heap.size A l) :
    Calls Try.prog 48 #[.slice A n c] w fun e w' => ∃ v, e = .returned (.tuple #[v, .int .i64 (wsrt l).2]) ∧ Own wenc 5 w' w.heap.size 72 v (wsrt l).1 ∧ Below w.heap.size w w' := by
  subst hln
  have h := rows_any A c l.length l w rfl hz (by omega) hr
  by_cases h4 : 4000 < l.length
  · rw [if_pos h4, if_pos h4] at h
    rw [show wsrt l = ([], 4) by unfold wsrt; rw [if_pos h4]]
    exact h
  · rw [if_neg h4, if_neg h4] at h
    rw [show wsrt l = (sortL wlt w0 l, 0) by unfold wsrt; rw [if_neg h4]]
    exact h
theorem late_is (A : Option Addr) (c n : Nat) (l : List Rc) (w : World) (hln : l.length = n) (hz : A = none → c = 0) (hn : n ≤ 5000) (hr : Rd renc 3 w w.heap.size A l) :
    Calls Try.prog 47 #[.slice A n c] w fun e w' => ∃ v, e = .returned (.tuple #[v, .int .i64 (rsrt l).2]) ∧ Own renc 3 w' w.heap.size 69 v (rsrt l).1 ∧ Below w.heap.size w w' := by
  subst hln
  have h := late_any A c l.length l w rfl hz (by omega) hr
  by_cases h4 : 4000 < l.length
  · rw [if_pos h4, if_pos h4] at h
    rw [show rsrt l = ([], 4) by unfold rsrt; rw [if_pos h4]]
    exact h
  · rw [if_neg h4, if_neg h4] at h
    rw [show rsrt l = (sortL rlt r0 l, 0) by unfold rsrt; rw [if_neg h4]]
    exact h
theorem same_is (A A' : Option Addr) (c c' n n' : Nat) (l m : List Rw) (w : World) (hln : l.length = n) (hlm : m.length = n') (hz : A = none → c = 0) (hz' : A' = none → c' = 0) (hn : n ≤ 5000) (hn' : n' ≤ 5000) (hr : Rd wenc 5 w w.heap.size A l) (hr' : Rd wenc 5 w w.heap.size A' m) :
    Calls Try.prog 49 #[.slice A n c, .slice A' n' c'] w fun e w' => e = .returned (.tuple #[.bool (wsme l m).1, .int .i64 (wsme l m).2]) ∧ Below w.heap.size w w' := by
  subst hln hlm
  have h := sinksame_any A A' c c' l.length m.length l m w rfl rfl hz hz' (by omega) (by omega) hr hr'
  by_cases h4 : 4000 < l.length ∨ 4000 < m.length
  · rw [if_pos h4, if_pos h4] at h
    rw [show wsme l m = (false, 4) by unfold wsme; rw [if_pos h4]]
    exact h
  · rw [if_neg h4, if_neg h4] at h
    rw [show wsme l m = (sameW l m, 0) by unfold wsme; rw [if_neg h4]]
    exact h
set_option maxHeartbeats 2000000 in
set_option maxRecDepth 100000 in
theorem refrows_is (A : Option Addr) (c n : Nat) (l : List Rw) (w : World) (hln : l.length = n) (hn : n ≤ 4010) (hr : Rd wenc 5 w w.heap.size A l) :
    Calls Try.prog 53 #[.slice A n c] w fun e w' => ∃ v, e = .returned (.tuple #[v, .int .i64 (wsrt l).2]) ∧ Own wenc 5 w' w.heap.size 72 v (wsrt l).1 ∧ Below w.heap.size w w' := by
  by_cases h4 : 4000 < n
  · have hs : wsrt l = ([], 4) := by unfold wsrt; rw [if_pos (by omega)]
    have d0 : decide ((4000 : Int) < (n : Int)) = true := by simp; omega
    have d0' : decide (4000 < n) = true := by simp [h4]
    rw [hs]
    clear hs hln h4
    go_enter Try.func53, Try.ntmps53
    go_wp2
    go_ret2
    exact ⟨.slice none 0 0, rfl, Own.nil _ _ _, Below.refl _ _⟩
  · have hs : wsrt l = (sortL wlt w0 l, 0) := by unfold wsrt; rw [if_neg (by omega)]
    have d0 : decide ((4000 : Int) < (n : Int)) = false := by simp; omega
    have d0' : decide (4000 < n) = false := by simp [h4]
    have hso := fun W h => w_refsort A c n l W hln (by omega) h
    rw [hs]
    have H := Lib.hid hso
    clear hs hln h4 hso
    go_enter Try.func53, Try.ntmps53
    go_wp2_with fail
    go_at_call 92
    refine (H.out _ hr).mono ?_
    rintro r w1 ⟨v1, rfl, own1, hb1⟩
    go_wp2
    go_ret2
    exact ⟨_, rfl, own1, hb1⟩
set_option maxHeartbeats 2000000 in
set_option maxRecDepth 100000 in
theorem reflate_is (A : Option Addr) (c n : Nat) (l : List Rc) (w : World) (hln : l.length = n) (hr : Rd renc 3 w w.heap.size A l) :
    Calls Try.prog 54 #[.slice A n c] w fun e w' => ∃ v, e = .returned (.tuple #[v, .int .i64 (rsrt l).2]) ∧ Own renc 3 w' w.heap.size 69 v (rsrt l).1 ∧ Below w.heap.size w w' := by
  by_cases h4 : 4000 < n
  · have hs : rsrt l = ([], 4) := by unfold rsrt; rw [if_pos (by omega)]
    have d0 : decide ((4000 : Int) < (n : Int)) = true := by simp; omega
    have d0' : decide (4000 < n) = true := by simp [h4]
    rw [hs]
    clear hs hln h4
    go_enter Try.func54, Try.ntmps54
    go_wp2
    go_ret2
    exact ⟨.slice none 0 0, rfl, Own.nil _ _ _, Below.refl _ _⟩
  · have hs : rsrt l = (sortL rlt r0 l, 0) := by unfold rsrt; rw [if_neg (by omega)]
    rw [hs]
    exact r_refsort A c n l w hln (by omega) hr
set_option maxHeartbeats 2000000 in
set_option maxRecDepth 100000 in
theorem refsame_is (A A' : Option Addr) (c c' n n' : Nat) (l m : List Rw) (w : World) (hln : l.length = n) (hlm : m.length = n') (hr : Rd wenc 5 w w.heap.size A l) (hr' : Rd wenc 5 w w.heap.size A' m) :
    Calls Try.prog 55 #[.slice A n c, .slice A' n' c'] w fun e w' => e = .returned (.tuple #[.bool (wsme l m).1, .int .i64 (wsme l m).2]) ∧ Below w.heap.size w w' := by
  by_cases h4 : 4000 < n ∨ 4000 < n'
  · have hs : wsme l m = (false, 4) := by unfold wsme; rw [if_pos (by omega)]
    rw [hs]
    clear hs hln hlm
    by_cases h5 : 4000 < n
    · have d0 : decide ((4000 : Int) < (n : Int)) = true := by simp; omega
      have d0' : decide (4000 < n) = true := by simp [h5]
      clear h4 h5
      go_enter Try.func55, Try.ntmps55
      go_wp2
      go_ret2
      exact ⟨rfl, Below.refl _ _⟩
    · have d0 : decide ((4000 : Int) < (n : Int)) = false := by simp; omega
      have d0' : decide (4000 < n) = false := by simp [h5]
      have d1 : decide ((4000 : Int) < (n' : Int)) = true := by simp; omega
      have d1' : decide (4000 < n') = true := by simp; omega
      clear h4 h5
      go_enter Try.func55, Try.ntmps55
      go_wp2
      go_ret2
      exact ⟨rfl, Below.refl _ _⟩
  · have hs : wsme l m = (sameW l m, 0) := by unfold wsme; rw [if_neg (by omega)]
    rw [hs]
    have d0 : decide ((4000 : Int) < (n : Int)) = false := by simp; omega
    have d0' : decide (4000 < n) = false := by simp; omega
    have d1 : decide ((4000 : Int) < (n' : Int)) = false := by simp; omega
    have d1' : decide (4000 < n') = false := by simp; omega
    have h1 := fun W h => w_refsort A c n l W hln (by omega) h
    have h2 := fun W h => w_refsort A' c' n' m W hlm (by omega) h
    have hl1 : (sortL wlt w0 l).length = n := by rw [sortL_length wsto, hln]
    have hl2 : (sortL wlt w0 m).length = n' := by rw [sortL_length wsto, hlm]
    have heq := fun B d B' d' W h h' => rsame_any B B' d d' n n' (sortL wlt w0 l) (sortL wlt w0 m) W h h' hl1 hl2 (by omega)
    obtain ⟨R, hR⟩ : ∃ R, R = sameW l m := ⟨_, rfl⟩
    rw [show listEq (sortL wlt w0 l) (sortL wlt w0 m) = R from hR.symm] at heq
    rw [← hR]
    have H1 := Lib.hid h1; have H2 := Lib.hid h2; have HE := Lib.hid heq; have HL1 := Lib.hid hl1; have HL2 := Lib.hid hl2
    clear hs hln hlm h4 h1 h2 hl1 hl2 heq hR
    go_enter Try.func55, Try.ntmps55
    go_wp2_with fail
    go_at_call 92
    refine (H1.out _ hr).mono ?_
    rintro r w1 ⟨v1, rfl, own1, hb1⟩
    obtain ⟨A1, c1, rfl, -, z1⟩ := own_shape_z own1 HL1.out
    go_wp2_with fail
    go_at_call 92
    refine (H2.out _ (rd_grown hr' (by repeat (first | with_reducible exact Below.refl _ _ | with_reducible assumption | (with_reducible exact Env.below (by assumption)) | (with_reducible refine below_new ?_ _) | (with_reducible refine below_drew ?_) | (with_reducible refine below_drewN ?_ _) | (with_reducible refine below_put ?_ ?_ _; rotate_left 1; (dsimp only; omega)) | (with_reducible refine below_then ?_ (by assumption)))))).mono ?_
    rintro r w2 ⟨v2, rfl, own2, hb2⟩
    obtain ⟨A2, c2, rfl, -, z2⟩ := own_shape_z own2 HL2.out
    go_wp2_with fail
    go_at_call 50
    refine (HE.out _ _ _ _ _ (rd_grown (Own.rd wenc_len own1) (by repeat (first | with_reducible exact Below.refl _ _ | with_reducible assumption | (with_reducible exact Env.below (by assumption)) | (with_reducible refine below_new ?_ _) | (with_reducible refine below_drew ?_) | (with_reducible refine below_drewN ?_ _) | (with_reducible refine below_put ?_ ?_ _; rotate_left 1; (dsimp only; omega)) | (with_reducible refine below_then ?_ (by assumption))))) (Own.rd wenc_len own2)).mono ?_
    rintro r w3 ⟨rfl, hb3⟩
    go_wp2
    go_ret2
    exact ⟨rfl, (by repeat (first | with_reducible exact Below.refl _ _ | with_reducible assumption | (with_reducible exact Env.below (by assumption)) | (with_reducible refine below_new ?_ _) | (with_reducible refine below_drew ?_) | (with_reducible refine below_drewN ?_ _) | (with_reducible refine below_put ?_ ?_ _; rotate_left 1; (dsimp only; omega)) | (with_reducible refine below_then ?_ (by assumption))))⟩
theorem great34_any (n : Int) (w : World) : Calls Try.prog 52 #[.int .i64 n] w fun e w' => e = .returned (.bool (decide (200 < n ∧ n < 3990 ∨ 4010 < n))) ∧ w = w' := by
  go_enter Try.func52, Try.ntmps52
  go_wp2
  all_goals (go_ret; exact ⟨ret_bool (by first | (rw [decide_eq_decide]; omega) | (simp; omega) | grind), rfl⟩)

set_option maxHeartbeats 16000000 in
set_option maxRecDepth 100000 in
theorem sinkSorts_yes (w : World) (A A' B : Option Addr) (c c' d n n' p : Nat) (l m : List Rw) (rs : List Rc) (hn : l.length = n) (hn' : m.length = n') (hp : rs.length = p) (lr : Rd wenc 5 w w.heap.size A l) (mr : Rd wenc 5 w w.heap.size A' m) (rr : Rd renc 3 w w.heap.size B rs)
    (hz : A = none → c = 0) (hz' : A' = none → c' = 0) (hzp : B = none → d = 0) (b1 : decide (200 < (n : Int) ∧ (n : Int) < 3990 ∨ 4010 < (n : Int)) = false) (b2 : decide (200 < (n' : Int) ∧ (n' : Int) < 3990 ∨ 4010 < (n' : Int)) = false) (b3 : decide (200 < (p : Int) ∧ (p : Int) < 3990 ∨ 4010 < (p : Int)) = false) :
    Calls Try.prog 12 #[.slice A n c, .slice A' n' c', .slice B p d] w fun r w' => r = .returned (.bool true) ∧ Below w.heap.size w w' := by
  have m1 := of_decide_eq_false b1
  have m2 := of_decide_eq_false b2
  have m3 := of_decide_eq_false b3
  have k1 : n ≤ 4010 := by omega
  have k2 : n' ≤ 4010 := by omega
  have k3 : p ≤ 4010 := by omega
  have g1 := fun W => great34_any (n : Int) W
  have g2 := fun W => great34_any (n' : Int) W
  have g3 := fun W => great34_any (p : Int) W
  rw [b1] at g1
  rw [b2] at g2
  rw [b3] at g3
  have c1 := fun W h => rows_is A c n l W hn hz (by omega) h
  have c2 := fun C e W h => refrows_is C e n l W hn k1 h
  have c3 := fun W h => late_is B d p rs W hp hzp (by omega) h
  have c4 := fun C e W h => reflate_is C e p rs W hp h
  have c5 := fun W h h' => same_is A A' c c' n n' l m W hn hn' hz hz' (by omega) (by omega) h h'
  have c6 := fun C e W h h' => refsame_is C A' e c' n n' l m W hn hn' h h'
  have l1 := wsrt_len l
  have l2 := rsrt_len rs
  obtain ⟨M, E, hM⟩ : ∃ M E, wsrt l = (M, E) := ⟨_, _, rfl⟩
  obtain ⟨N, F, hN⟩ : ∃ M E, rsrt rs = (M, E) := ⟨_, _, rfl⟩
  obtain ⟨X, Y, hX⟩ : ∃ M E, wsme l m = (M, E) := ⟨_, _, rfl⟩
  rw [hM] at c1 c2 l1
  rw [hN] at c3 c4 l2
  rw [hX] at c5 c6
  obtain ⟨i0, hi0, hz0, hz1, hz2⟩ := info_parts w_info
  obtain ⟨j0, hj0, hy0, hy1, hy2⟩ := info_parts r_info
  have G1 := Lib.hid g1; have G2 := Lib.hid g2; have G3 := Lib.hid g3
  have C1 := Lib.hid c1; have C2 := Lib.hid c2; have C3 := Lib.hid c3; have C4 := Lib.hid c4; have C5 := Lib.hid c5; have C6 := Lib.hid c6
  have HN := Lib.hid hn; have HN' := Lib.hid hn'; have HP := Lib.hid hp; have HZ := Lib.hid hz; have HZP := Lib.hid hzp
  dsimp only at l1 l2
  obtain ⟨q1, hq1⟩ : ∃ q, M.length = q := ⟨_, rfl⟩
  obtain ⟨q2, hq2⟩ : ∃ q, N.length = q := ⟨_, rfl⟩
  rw [hq1] at l1
  rw [hq2] at l2
  have HQ1 := Lib.hid hq1; have HQ2 := Lib.hid hq2
  have dE : (E == E) = true := by simp
  have dF : (F == F) = true := by simp
  have dX : (X == X) = true := by simp
  have dY : (Y == Y) = true := by simp
  clear hq1 hq2
  clear g1 g2 g3 c1 c2 c3 c4 c5 c6 hn hn' hp hz hz' hzp hM hN hX m1 m2 m3 b1 b2 b3
  go_enter Try.func12, Try.ntmps12
  go_wp2_with fail
  go_at_call 52
  refine (G1.out _).mono ?_
  rintro r w1 ⟨rfl, rfl⟩
  go_wp2_with fail
  go_at_call 52
  refine (G2.out _).mono ?_
  rintro r w1 ⟨rfl, rfl⟩
  go_wp2_with fail
  go_at_call 52
  refine (G3.out _).mono ?_
  rintro r w1 ⟨rfl, rfl⟩
  go_wp2_with (first
    | (at_builtin; refine wpList_append_copy rfl (.tmp 34) (.tmp 35) 64 rfl w.heap.size 72 i0 (.agg #[.int .i64 0, .int .i64 0, .int .i64 0, .int .i64 0, .int .i64 0]) 5 40 Try.underlying64 hi0 hz0 hz1 hz2 rfl (by decide) wenc wenc_len w.heap.size 0 l rfl (own_empty (heap_alloc_new w (.cells #[] 72)) (Nat.le_refl _)) A n c rfl HN.out HZ.out (rd_grown lr (by repeat (first | with_reducible exact Below.refl _ _ | with_reducible assumption | (with_reducible exact Env.below (by assumption)) | (with_reducible refine below_new ?_ _) | (with_reducible refine below_drew ?_) | (with_reducible refine below_drewN ?_ _) | (with_reducible refine below_put ?_ ?_ _; rotate_left 1; (dsimp only; omega)) | (with_reducible refine below_then ?_ (by assumption))))) (wenc_one l) (by unfold maxLen; omega) (by omega) (by simp) ?_; intro g2 cap2 w2 own2 hcap2 hg2 hb2)
    | (at_builtin; refine wpList_append_copy rfl (.tmp 37) (.tmp 38) 65 rfl w2.heap.size 69 j0 (.agg #[.int .i64 0, .int .i64 0, .int .i64 0]) 3 24 Try.underlying65 hj0 hy0 hy1 hy2 rfl (by decide) renc renc_len w2.heap.size 0 rs rfl (own_empty (heap_alloc_new w2 (.cells #[] 69)) (Nat.le_refl _)) B p d rfl HP.out HZP.out (rd_grown rr ((below_new ((below_new (Below.refl _ _) _).trans hb2) _))) (renc_one rs) (by unfold maxLen; omega) (by omega) (by simp) ?_; intro g3 cap3 w3 own3 hcap3 hg3 hb3))
  have hb02 : Below w.heap.size w w2 := (below_new (Below.refl _ _) _).trans hb2
  have hb23 : Below w2.heap.size w2 w3 := (below_new (Below.refl _ _) _).trans hb3
  have hb03 := below_then hb02 hb23
  have rdH := rd_grown (Own.rd wenc_len own2) hb23
  have rdO := Own.rd renc_len own3
  have rdL := rd_grown lr hb03
  have rdM := rd_grown mr hb03
  have rdR := rd_grown rr hb03
  clear hb02 hb23 hb2 hb3 own2 own3 lr mr rr hg2 hg3 hcap2 hcap3
  go_at_call 48
  refine (C1.out _ rdL).mono ?_
  rintro r w4 ⟨v4, rfl, own4, hb4⟩
  obtain ⟨A4, e4, rfl, -, z4⟩ := own_shape_z own4 HQ1.out
  go_wp2_with fail
  go_at_call 53
  refine (C2.out _ _ _ (rd_grown rdH (by repeat (first | with_reducible exact Below.refl _ _ | with_reducible assumption | (with_reducible exact Env.below (by assumption)) | (with_reducible refine below_new ?_ _) | (with_reducible refine below_drew ?_) | (with_reducible refine below_drewN ?_ _) | (with_reducible refine below_put ?_ ?_ _; rotate_left 1; (dsimp only; omega)) | (with_reducible refine below_then ?_ (by assumption)))))).mono ?_
  rintro r w5 ⟨v5, rfl, own5, hb5⟩
  obtain ⟨A5, e5, rfl, -, z5⟩ := own_shape_z own5 HQ1.out
  go_wp2_with fail
  go_at_call 47
  refine (C3.out _ (rd_grown rdR (by repeat (first | with_reducible exact Below.refl _ _ | with_reducible assumption | (with_reducible exact Env.below (by assumption)) | (with_reducible refine below_new ?_ _) | (with_reducible refine below_drew ?_) | (with_reducible refine below_drewN ?_ _) | (with_reducible refine below_put ?_ ?_ _; rotate_left 1; (dsimp only; omega)) | (with_reducible refine below_then ?_ (by assumption)))))).mono ?_
  rintro r w6 ⟨v6, rfl, own6, hb6⟩
  obtain ⟨A6, e6, rfl, -, z6⟩ := own_shape_z own6 HQ2.out
  go_wp2_with fail
  go_at_call 54
  refine (C4.out _ _ _ (rd_grown rdO (by repeat (first | with_reducible exact Below.refl _ _ | with_reducible assumption | (with_reducible exact Env.below (by assumption)) | (with_reducible refine below_new ?_ _) | (with_reducible refine below_drew ?_) | (with_reducible refine below_drewN ?_ _) | (with_reducible refine below_put ?_ ?_ _; rotate_left 1; (dsimp only; omega)) | (with_reducible refine below_then ?_ (by assumption)))))).mono ?_
  rintro r w7 ⟨v7, rfl, own7, hb7⟩
  obtain ⟨A7, e7, rfl, -, z7⟩ := own_shape_z own7 HQ2.out
  go_wp2_with fail
  go_at_call 49
  refine (C5.out _ (rd_grown rdL (by repeat (first | with_reducible exact Below.refl _ _ | with_reducible assumption | (with_reducible exact Env.below (by assumption)) | (with_reducible refine below_new ?_ _) | (with_reducible refine below_drew ?_) | (with_reducible refine below_drewN ?_ _) | (with_reducible refine below_put ?_ ?_ _; rotate_left 1; (dsimp only; omega)) | (with_reducible refine below_then ?_ (by assumption))))) (rd_grown rdM (by repeat (first | with_reducible exact Below.refl _ _ | with_reducible assumption | (with_reducible exact Env.below (by assumption)) | (with_reducible refine below_new ?_ _) | (with_reducible refine below_drew ?_) | (with_reducible refine below_drewN ?_ _) | (with_reducible refine below_put ?_ ?_ _; rotate_left 1; (dsimp only; omega)) | (with_reducible refine below_then ?_ (by assumption)))))).mono ?_
  rintro r w8 ⟨rfl, hb8⟩
  go_wp2_with fail
  go_at_call 55
  refine (C6.out _ _ _ (rd_grown rdH (by repeat (first | with_reducible exact Below.refl _ _ | with_reducible assumption | (with_reducible exact Env.below (by assumption)) | (with_reducible refine below_new ?_ _) | (with_reducible refine below_drew ?_) | (with_reducible refine below_drewN ?_ _) | (with_reducible refine below_put ?_ ?_ _; rotate_left 1; (dsimp only; omega)) | (with_reducible refine below_then ?_ (by assumption))))) (rd_grown rdM (by repeat (first | with_reducible exact Below.refl _ _ | with_reducible assumption | (with_reducible exact Env.below (by assumption)) | (with_reducible refine below_new ?_ _) | (with_reducible refine below_drew ?_) | (with_reducible refine below_drewN ?_ _) | (with_reducible refine below_put ?_ ?_ _; rotate_left 1; (dsimp only; omega)) | (with_reducible refine below_then ?_ (by assumption)))))).mono ?_
  rintro r w9 ⟨rfl, hb9⟩
  go_wp2_with fail
  go_at_call 50
  refine (rsame_any _ _ _ _ q1 q1 M M _ (rd_grown (Own.rd wenc_len own4) (by repeat (first | with_reducible exact Below.refl _ _ | with_reducible assumption | (with_reducible exact Env.below (by assumption)) | (with_reducible refine below_new ?_ _) | (with_reducible refine below_drew ?_) | (with_reducible refine below_drewN ?_ _) | (with_reducible refine below_put ?_ ?_ _; rotate_left 1; (dsimp only; omega)) | (with_reducible refine below_then ?_ (by assumption))))) (rd_grown (Own.rd wenc_len own5) (by repeat (first | with_reducible exact Below.refl _ _ | with_reducible assumption | (with_reducible exact Env.below (by assumption)) | (with_reducible refine below_new ?_ _) | (with_reducible refine below_drew ?_) | (with_reducible refine below_drewN ?_ _) | (with_reducible refine below_put ?_ ?_ _; rotate_left 1; (dsimp only; omega)) | (with_reducible refine below_then ?_ (by assumption))))) HQ1.out HQ1.out (by omega)).mono ?_
  rw [show listEq M M = true from decide_eq_true rfl]
  rintro r w10 ⟨rfl, hb10⟩
  go_wp2_with fail
  go_at_call 56
  refine (csame_any _ _ _ _ q2 q2 N N _ (rd_grown (Own.rd renc_len own6) (by repeat (first | with_reducible exact Below.refl _ _ | with_reducible assumption | (with_reducible exact Env.below (by assumption)) | (with_reducible refine below_new ?_ _) | (with_reducible refine below_drew ?_) | (with_reducible refine below_drewN ?_ _) | (with_reducible refine below_put ?_ ?_ _; rotate_left 1; (dsimp only; omega)) | (with_reducible refine below_then ?_ (by assumption))))) (rd_grown (Own.rd renc_len own7) (by repeat (first | with_reducible exact Below.refl _ _ | with_reducible assumption | (with_reducible exact Env.below (by assumption)) | (with_reducible refine below_new ?_ _) | (with_reducible refine below_drew ?_) | (with_reducible refine below_drewN ?_ _) | (with_reducible refine below_put ?_ ?_ _; rotate_left 1; (dsimp only; omega)) | (with_reducible refine below_then ?_ (by assumption))))) HQ2.out HQ2.out (by omega)).mono ?_
  rw [show listEq N N = true from decide_eq_true rfl]
  rintro r w11 ⟨rfl, hb11⟩
  go_wp2_with fail
  go_at_call 50
  refine (rsame_any _ _ _ _ n n l l _ (rd_grown rdL (by repeat (first | with_reducible exact Below.refl _ _ | with_reducible assumption | (with_reducible exact Env.below (by assumption)) | (with_reducible refine below_new ?_ _) | (with_reducible refine below_drew ?_) | (with_reducible refine below_drewN ?_ _) | (with_reducible refine below_put ?_ ?_ _; rotate_left 1; (dsimp only; omega)) | (with_reducible refine below_then ?_ (by assumption))))) (rd_grown rdH (by repeat (first | with_reducible exact Below.refl _ _ | with_reducible assumption | (with_reducible exact Env.below (by assumption)) | (with_reducible refine below_new ?_ _) | (with_reducible refine below_drew ?_) | (with_reducible refine below_drewN ?_ _) | (with_reducible refine below_put ?_ ?_ _; rotate_left 1; (dsimp only; omega)) | (with_reducible refine below_then ?_ (by assumption))))) HN.out HN.out (by omega)).mono ?_
  rw [show listEq l l = true from decide_eq_true rfl]
  rintro r w12 ⟨rfl, hb12⟩
  go_wp2_with fail
  go_at_call 56
  refine (csame_any _ _ _ _ p p rs rs _ (rd_grown rdR (by repeat (first | with_reducible exact Below.refl _ _ | with_reducible assumption | (with_reducible exact Env.below (by assumption)) | (with_reducible refine below_new ?_ _) | (with_reducible refine below_drew ?_) | (with_reducible refine below_drewN ?_ _) | (with_reducible refine below_put ?_ ?_ _; rotate_left 1; (dsimp only; omega)) | (with_reducible refine below_then ?_ (by assumption))))) (rd_grown rdO (by repeat (first | with_reducible exact Below.refl _ _ | with_reducible assumption | (with_reducible exact Env.below (by assumption)) | (with_reducible refine below_new ?_ _) | (with_reducible refine below_drew ?_) | (with_reducible refine below_drewN ?_ _) | (with_reducible refine below_put ?_ ?_ _; rotate_left 1; (dsimp only; omega)) | (with_reducible refine below_then ?_ (by assumption))))) HP.out HP.out (by omega)).mono ?_
  rw [show listEq rs rs = true from decide_eq_true rfl]
  rintro r w13 ⟨rfl, hb13⟩
  go_wp2
  go_ret
  exact ⟨rfl, (by repeat (first | with_reducible exact Below.refl _ _ | with_reducible assumption | (with_reducible exact Env.below (by assumption)) | (with_reducible refine below_new ?_ _) | (with_reducible refine below_drew ?_) | (with_reducible refine below_drewN ?_ _) | (with_reducible refine below_put ?_ ?_ _; rotate_left 1; (dsimp only; omega)) | (with_reducible refine below_then ?_ (by assumption))))⟩

set_option maxHeartbeats 8000000 in
set_option maxRecDepth 100000 in
theorem sinkSorts_walk {w : World} (A : Option Addr) (c : Nat) (l : List Rw) (_lc : l.length ≤ c) (_lm : c ≤ maxLen) (_lw : ∀ x ∈ l, rowok x) (lr : Rd wenc 5 w w.heap.size A l) (ln : A = none → c = 0)
    (A' : Option Addr) (c' : Nat) (m : List Rw) (_mc : m.length ≤ c') (_mm : c' ≤ maxLen) (_mw : ∀ x ∈ m, rowok x) (mr : Rd wenc 5 w w.heap.size A' m) (mn : A' = none → c' = 0)
    (B : Option Addr) (d : Nat) (rs : List Rc) (_rc : rs.length ≤ d) (_rm : d ≤ maxLen) (_rw : ∀ x ∈ rs, recok x) (rr : Rd renc 3 w w.heap.size B rs) (rn : B = none → d = 0) :
    Calls Try.prog 12 #[.slice A l.length c, .slice A' m.length c', .slice B rs.length d] w fun r w' => r = .returned (.bool true) ∧ Below w.heap.size w w' := by
  obtain ⟨n, hn⟩ : ∃ n, l.length = n := ⟨_, rfl⟩
  obtain ⟨n', hn'⟩ : ∃ n, m.length = n := ⟨_, rfl⟩
  obtain ⟨p, hp⟩ : ∃ n, rs.length = n := ⟨_, rfl⟩
  rw [hn] at _lc ⊢
  rw [hn'] at _mc ⊢
  rw [hp] at _rc ⊢
  obtain ⟨b1, hb1⟩ : ∃ b, decide (200 < (n : Int) ∧ (n : Int) < 3990 ∨ 4010 < (n : Int)) = b := ⟨_, rfl⟩
  obtain ⟨b2, hb2⟩ : ∃ b, decide (200 < (n' : Int) ∧ (n' : Int) < 3990 ∨ 4010 < (n' : Int)) = b := ⟨_, rfl⟩
  obtain ⟨b3, hb3⟩ : ∃ b, decide (200 < (p : Int) ∧ (p : Int) < 3990 ∨ 4010 < (p : Int)) = b := ⟨_, rfl⟩
  have g1 := fun W => great34_any (n : Int) W
  have g2 := fun W => great34_any (n' : Int) W
  have g3 := fun W => great34_any (p : Int) W
  rw [hb1] at g1
  rw [hb2] at g2
  rw [hb3] at g3
  have G1 := Lib.hid g1; have G2 := Lib.hid g2; have G3 := Lib.hid g3
  clear g1 g2 g3
  cases b1 with
  | true =>
    clear hb1 hb2 hb3 hn hn' hp
    go_enter Try.func12, Try.ntmps12
    go_wp2_with fail
    go_at_call 52
    refine (G1.out _).mono ?_
    rintro r w1 ⟨rfl, rfl⟩
    go_wp2
    go_ret
    exact ⟨rfl, (by repeat (first | with_reducible exact Below.refl _ _ | with_reducible assumption | (with_reducible exact Env.below (by assumption)) | (with_reducible refine below_new ?_ _) | (with_reducible refine below_drew ?_) | (with_reducible refine below_drewN ?_ _) | (with_reducible refine below_put ?_ ?_ _; rotate_left 1; (dsimp only; omega)) | (with_reducible refine below_then ?_ (by assumption))))⟩
  | false =>
    cases b2 with
    | true =>
      clear hb1 hb2 hb3 hn hn' hp
      go_enter Try.func12, Try.ntmps12
      go_wp2_with fail
      go_at_call 52
      refine (G1.out _).mono ?_
      rintro r w1 ⟨rfl, rfl⟩
      go_wp2_with fail
      go_at_call 52
      refine (G2.out _).mono ?_
      rintro r w1 ⟨rfl, rfl⟩
      go_wp2
      go_ret
      exact ⟨rfl, (by repeat (first | with_reducible exact Below.refl _ _ | with_reducible assumption | (with_reducible exact Env.below (by assumption)) | (with_reducible refine below_new ?_ _) | (with_reducible refine below_drew ?_) | (with_reducible refine below_drewN ?_ _) | (with_reducible refine below_put ?_ ?_ _; rotate_left 1; (dsimp only; omega)) | (with_reducible refine below_then ?_ (by assumption))))⟩
    | false =>
      cases b3 with
      | true =>
        clear hb1 hb2 hb3 hn hn' hp
        go_enter Try.func12, Try.ntmps12
        go_wp2_with fail
        go_at_call 52
        refine (G1.out _).mono ?_
        rintro r w1 ⟨rfl, rfl⟩
        go_wp2_with fail
        go_at_call 52
        refine (G2.out _).mono ?_
        rintro r w1 ⟨rfl, rfl⟩
        go_wp2_with fail
        go_at_call 52
        refine (G3.out _).mono ?_
        rintro r w1 ⟨rfl, rfl⟩
        go_wp2
        go_ret
        exact ⟨rfl, (by repeat (first | with_reducible exact Below.refl _ _ | with_reducible assumption | (with_reducible exact Env.below (by assumption)) | (with_reducible refine below_new ?_ _) | (with_reducible refine below_drew ?_) | (with_reducible refine below_drewN ?_ _) | (with_reducible refine below_put ?_ ?_ _; rotate_left 1; (dsimp only; omega)) | (with_reducible refine below_then ?_ (by assumption))))⟩
      | false => exact sinkSorts_yes w A A' B c c' d n n' p l m rs hn hn' hp lr mr rr ln mn rn hb1 hb2 hb3
end Go.Proofs.Ytffehibdeogjeaa
