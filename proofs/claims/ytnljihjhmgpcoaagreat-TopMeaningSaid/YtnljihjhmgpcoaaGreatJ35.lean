/- Lemmas and contracts for the statement, joined into one text: QyCheck, MeanRow, MeanCounts, RewDefs. The conditions of each stand at its head. -/
import Derived.Test.YtnljihjhmgpcoaaGreatJ33
import Derived.Test.YtnljihjhmgpcoaaGreatJ1
import Derived.Test.YtnljihjhmgpcoaaGreatJ16
import Derived.Laws.EntriesVeiled
import Derived.Test.YtnljihjhmgpcoaaGreatJ11
namespace Go.Proofs.YtnljihjhmgpcoaaGreat
open Go.RowKit Go.ChangeShapes Go.WideShapes Go.ChangeAt Go.Deep
/-- What a query's slices hold. -/
def QRd (w : World) (q : Qy) (A B C : Option Addr) (na ca nb cb nc cc : Nat) : Prop :=
 ((opl q.arg).length = na ∧ (A = none → ca = 0) ∧ na ≤ ca ∧ Rd nenc 5 w w.heap.size A (opl q.arg)) ∧ (q.src.length = nb ∧ (B = none → cb = 0) ∧ nb ≤ cb ∧ Rd ienc 1 w w.heap.size B q.src) ∧
 ((opl q.wh).length = nc ∧ (C = none → cc = 0) ∧ nc ≤ cc ∧ Rd nenc 5 w w.heap.size C (opl q.wh))
theorem QRd.grow {w w' : World} {q : Qy} {A B C : Option Addr} {na ca nb cb nc cc : Nat} (h : QRd w q A B C na ca nb cb nc cc) (hb : Below w.heap.size w w') : QRd w' q A B C na ca nb cb nc cc :=
 ⟨⟨h.1.1, h.1.2.1, h.1.2.2.1, h.1.2.2.2.grow hb⟩, ⟨h.2.1.1, h.2.1.2.1, h.2.1.2.2.1, h.2.1.2.2.2.grow hb⟩, ⟨h.2.2.1, h.2.2.2.1, h.2.2.2.2.1, h.2.2.2.2.2.grow hb⟩⟩
set_option maxHeartbeats 4000000 in
theorem csrc_any (l : List Int) (hl : srcok l) (jo : Bool) (hj : jo = true → l.length = 2) (A : Option Addr) (c n : Nat) (w : World) (hn : l.length = n) (hr : Rd ienc 1 w w.heap.size A l) :
  Calls Tryz.prog 85 #[.slice A n c, .bool jo] w fun r w' => r = .returned (.int .i64 0) ∧ Below w.heap.size w w' := by
 obtain ⟨⟨h1, h4⟩, hin, hnd⟩ := hl
 rw [hn] at h1 h4 hj
 have HI := Lib.hid (inhas_any A c n l w hn h4 hin hr)
 have HD := Lib.hid (fun W (hb : Below w.heap.size w W) => distinct_any A c n l W hn h4 hin hnd (hr.grow hb))
 have d1 : decide ((4 : Int) < (n : Int)) = false := by simp; omega
 have d1' : decide (4 < n) = false := by simp; omega
 have d2 : ((n : Int) == 0) = false := by simp; omega
 have d2' : (n == 0) = false := by simp; omega
 have d3 : decide ((n : Int) < (n : Int)) = false := by simp
 have d3' : decide (n < n) = false := by simp
 clear hn hin hnd hr
 cases jo
 ·clear hj
  go_enter Tryz.func85, Tryz.ntmps85
  go_wp2_with fail
  go_at_call 122
  refine HI.out.mono ?_
  rintro r w2 ⟨rfl, rfl⟩
  go_wp2_with fail
  go_at_call 123
  refine (HD.out _ (Below.refl _ _)).mono ?_
  rintro r w3 ⟨rfl, hb⟩
  go_wp2_with fail
  go_ret
  exact ⟨rfl, hb⟩
 ·obtain rfl : n = 2 := hj rfl
  clear hj
  go_enter Tryz.func85, Tryz.ntmps85
  go_wp2_with fail
  go_at_call 122
  refine HI.out.mono ?_
  rintro r w2 ⟨rfl, rfl⟩
  go_wp2_with fail
  go_at_call 123
  refine (HD.out _ (Below.refl _ _)).mono ?_
  rintro r w3 ⟨rfl, hb⟩
  go_wp2_with fail
  go_ret
  exact ⟨rfl, hb⟩
theorem cwin_any (k s e : Int) (h : wok k s e) (w : World) : Calls Tryz.prog 53 #[.agg #[.int .u8 k, .int .i64 s, .int .i64 e]] w fun r w' => r = .returned (.int .i64 0) ∧ Below w.heap.size w w' := by
 have := window_any k s e (wf_i64 (by unfold wok at h; omega) (by unfold wok at h; omega)) w
 rwa [show wchk k s e = 0 by unfold wchk; rw [if_pos h]] at this
set_option maxHeartbeats 16000000 in
set_option maxRecDepth 100000 in
theorem ccheck_any (q : Qy) (hq : q.good) (A B C : Option Addr) (na ca nb cb nc cc : Nat) (w : World) (h : QRd w q A B C na ca nb cb nc cc) :
  Calls Tryz.prog 48 #[.agg #[.int .u8 q.ag, .slice A na ca, .slice B nb cb, .bool q.jo, .slice C nc cc, .int .u8 q.wk, .int .i64 q.ws, .int .i64 q.we, .bool q.ky, .int .u8 q.la]] w fun r w' => r = .returned (.int .i64 0) ∧ Below w.heap.size w w' := by
 obtain ⟨⟨a1, -, -, a4⟩, ⟨b1, -, -, b4⟩, ⟨c1, -, -, c4⟩⟩ := h
 obtain ⟨hag, hla, hcnt, harg, hwh, hsrc, htwo, hwin, htum⟩ := hq
 obtain ⟨ag, arg, src, jo, wh, wk, ws, we, ky, la⟩ := q
 simp only at a1 a4 b1 b4 c1 c4 hag hla hcnt harg hwh hsrc htwo hwin htum
 dsimp only
 obtain ⟨g1, g2⟩ := hag
 have HS := Lib.hid (fun W (hb : Below w.heap.size w W) => csrc_any src hsrc jo htwo B cb nb W b1 (b4.grow hb))
 have HW := Lib.hid (fun W => cwin_any wk ws we hwin W)
 have hl0 := (Loc.nil w).new [.int .u8 ag, .slice A na ca, .slice B nb cb, .bool jo, .slice C nc cc, .int .u8 wk, .int .i64 ws, .int .i64 we, .bool ky, .int .u8 la] 27
 have hb0 : Below w.heap.size w (w.alloc (.cells #[.int .u8 ag, .slice A na ca, .slice B nb cb, .bool jo, .slice C nc cc, .int .u8 wk, .int .i64 ws, .int .i64 we, .bool ky, .int .u8 la] 27)) := below_new (Below.refl _ _) _
 clear hsrc htwo hwin b1 b4
 have HTU := Lib.hid htum
 clear htum
 cases arg with
 | none =>
  obtain rfl : ag = 1 := hcnt.2 rfl
  obtain rfl : na = 0 := a1.symm
  clear harg a1 a4 hcnt g1 g2
  cases wh with
  | none =>
   obtain rfl : nc = 0 := c1.symm
   clear hwh c1 c4
   rcases hla with rfl | rfl
   all_goals
    cases jo
    all_goals
     try (obtain rfl : wk = 1 := HTU.out rfl)
     have hF := hl0
     (repeat unfold Loc at hF)
     go_enter Tryz.func48, Tryz.ntmps48
     go_wp2_with fail
     go_at_call 85
     refine (HS.out _ hb0).mono ?_
     rintro r x2 ⟨rfl, hc2⟩
     replace hl0 := hl0.below hc2
     replace hb0 := below_then hb0 hc2
     clear hc2 hF
     have hF := hl0
     (repeat unfold Loc at hF)
     go_wp2_with fail
     go_at_call 53
     refine (HW.out _).mono ?_
     rintro r x9 ⟨rfl, hc9⟩
     go_wp2_with fail
     go_ret
     exact ⟨rfl, below_then hb0 hc9⟩
  | some f =>
   have hfl : f.size = nc := by rw [← c1]; exact (flat_len f 0).symm
   have hfp := f.size_pos
   have HC := Lib.hid (fun W (hb : Below w.heap.size w W) => ncheck_any f (hwh f rfl).1 C cc nc W hfl (c4.grow hb))
   have e3 : decide ((0 : Int) < (nc : Int)) = true := by simp; omega
   have e3' : decide (0 < nc) = true := by simp; omega
   clear hwh c1 c4 hfl hfp
   rcases hla with rfl | rfl
   all_goals
    cases jo
    all_goals
     try (obtain rfl : wk = 1 := HTU.out rfl)
     have hF := hl0
     (repeat unfold Loc at hF)
     go_enter Tryz.func48, Tryz.ntmps48
     go_wp2_with fail
     go_at_call 84
     refine (HC.out _ hb0).mono ?_
     rintro r x2 ⟨rfl, hc2⟩
     replace hl0 := hl0.below hc2
     replace hb0 := below_then hb0 hc2
     clear hc2 hF
     have hF := hl0
     (repeat unfold Loc at hF)
     go_wp2_with fail
     go_at_call 85
     refine (HS.out _ hb0).mono ?_
     rintro r x3 ⟨rfl, hc3⟩
     replace hl0 := hl0.below hc3
     replace hb0 := below_then hb0 hc3
     clear hc3 hF
     have hF := hl0
     (repeat unfold Loc at hF)
     go_wp2_with fail
     go_at_call 53
     refine (HW.out _).mono ?_
     rintro r x9 ⟨rfl, hc9⟩
     go_wp2_with fail
     go_ret
     exact ⟨rfl, below_then hb0 hc9⟩
 | some e =>
  have hne : ag ≠ 1 := fun h => by have := hcnt.1 h; cases this
  have hel : e.size = na := by rw [← a1]; exact (flat_len e 0).symm
  have HA := Lib.hid (fun W (hb : Below w.heap.size w W) => ncheck_any e (harg e rfl).1 A ca na W hel (a4.grow hb))
  have e1 : decide (ag < 1) = false := by simp; omega
  have e2 : decide (4 < ag) = false := by simp; omega
  have e4 : (ag != 1) = true := by simp [hne]
  clear harg a1 a4 hcnt g1 g2 hne hel
  cases wh with
  | none =>
   obtain rfl : nc = 0 := c1.symm
   clear hwh c1 c4
   rcases hla with rfl | rfl
   all_goals
    cases jo
    all_goals
     try (obtain rfl : wk = 1 := HTU.out rfl)
     have hF := hl0
     (repeat unfold Loc at hF)
     go_enter Tryz.func48, Tryz.ntmps48
     go_wp2_with fail
     go_at_call 84
     refine (HA.out _ hb0).mono ?_
     rintro r x2 ⟨rfl, hc2⟩
     replace hl0 := hl0.below hc2
     replace hb0 := below_then hb0 hc2
     clear hc2 hF
     have hF := hl0
     (repeat unfold Loc at hF)
     go_wp2_with fail
     go_at_call 85
     refine (HS.out _ hb0).mono ?_
     rintro r x3 ⟨rfl, hc3⟩
     replace hl0 := hl0.below hc3
     replace hb0 := below_then hb0 hc3
     clear hc3 hF
     have hF := hl0
     (repeat unfold Loc at hF)
     go_wp2_with fail
     go_at_call 53
     refine (HW.out _).mono ?_
     rintro r x9 ⟨rfl, hc9⟩
     go_wp2_with fail
     go_ret
     exact ⟨rfl, below_then hb0 hc9⟩
  | some f =>
   have hfl : f.size = nc := by rw [← c1]; exact (flat_len f 0).symm
   have hfp := f.size_pos
   have HC := Lib.hid (fun W (hb : Below w.heap.size w W) => ncheck_any f (hwh f rfl).1 C cc nc W hfl (c4.grow hb))
   have e3 : decide ((0 : Int) < (nc : Int)) = true := by simp; omega
   have e3' : decide (0 < nc) = true := by simp; omega
   clear hwh c1 c4 hfl hfp
   rcases hla with rfl | rfl
   all_goals
    cases jo
    all_goals
     try (obtain rfl : wk = 1 := HTU.out rfl)
     have hF := hl0
     (repeat unfold Loc at hF)
     go_enter Tryz.func48, Tryz.ntmps48
     go_wp2_with fail
     go_at_call 84
     refine (HA.out _ hb0).mono ?_
     rintro r x2 ⟨rfl, hc2⟩
     replace hl0 := hl0.below hc2
     replace hb0 := below_then hb0 hc2
     clear hc2 hF
     have hF := hl0
     (repeat unfold Loc at hF)
     go_wp2_with fail
     go_at_call 84
     refine (HC.out _ hb0).mono ?_
     rintro r x3 ⟨rfl, hc3⟩
     replace hl0 := hl0.below hc3
     replace hb0 := below_then hb0 hc3
     clear hc3 hF
     have hF := hl0
     (repeat unfold Loc at hF)
     go_wp2_with fail
     go_at_call 85
     refine (HS.out _ hb0).mono ?_
     rintro r x4 ⟨rfl, hc4⟩
     replace hl0 := hl0.below hc4
     replace hb0 := below_then hb0 hc4
     clear hc4 hF
     have hF := hl0
     (repeat unfold Loc at hF)
     go_wp2_with fail
     go_at_call 53
     refine (HW.out _).mono ?_
     rintro r x9 ⟨rfl, hc9⟩
     go_wp2_with fail
     go_ret
     exact ⟨rfl, below_then hb0 hc9⟩
/-- What first asks of the argument and of the condition. -/
def wishAt (w : World) (g : Nat) (A C : Option Addr) (na ca nc cc : Nat) : Prop :=
 g < w.heap.size ∧ w.cell? ⟨g, 0, none⟩ = some (.slice A na ca) ∧ w.cell? ⟨g, 1, none⟩ = some (.func (.func 50) #[] #[]) ∧ w.cell? ⟨g, 2, none⟩ = some (.slice C nc cc) ∧ w.cell? ⟨g, 3, none⟩ = some (.func (.func 51) #[] #[])
theorem wishAt.grow {w w' : World} {g : Nat} {A C : Option Addr} {na ca nc cc : Nat} (h : wishAt w g A C na ca nc cc) (hb : Below w.heap.size w w') : wishAt w' g A C na ca nc cc :=
 ⟨Nat.lt_of_lt_of_le h.1 hb.size, (hb.cell (p := ⟨g, 0, none⟩) h.1).trans h.2.1, (hb.cell (p := ⟨g, 1, none⟩) h.1).trans h.2.2.1, (hb.cell (p := ⟨g, 2, none⟩) h.1).trans h.2.2.2.1, (hb.cell (p := ⟨g, 3, none⟩) h.1).trans h.2.2.2.2⟩
set_option maxHeartbeats 16000000 in
set_option maxRecDepth 100000 in
theorem first_any (o p : Option Ex) (ho : ∀ e, o = some e → e.tgood ∧ e.gives = false) (hp : ∀ e, p = some e → e.tgood ∧ e.gives = true) (A C : Option Addr) (na ca nc cc g : Nat) (w : World) (hna : (opl o).length = na) (hnc : (opl p).length = nc)
  (hA : Rd nenc 5 w w.heap.size A (opl o)) (hC : Rd nenc 5 w w.heap.size C (opl p)) (hg : wishAt w g A C na ca nc cc) :
  Calls Tryz.prog 49 #[.slice (some ⟨g, 0, none⟩) 2 2] w fun r w' => r = .returned (.tuple #[.int .i64 0, .int .i64 0]) ∧ Below w.heap.size w w' := by
 cases o with
 | none =>
  obtain rfl : na = 0 := hna.symm
  clear ho hna hA
  cases p with
  | none =>
   obtain rfl : nc = 0 := hnc.symm
   clear hp hnc hC
   have hF := hg
   unfold wishAt at hF
   go_enter Tryz.func49, Tryz.ntmps49
   go_wp2_with fail
   refine wp_loop_rounds 3 ?_
   rw [rounds_succ]
   go_wp2_with fail
   have hb2 : Below w.heap.size w w := Below.refl _ _
   rw [rounds_succ]
   go_wp2_with fail
   rw [rounds_succ]
   go_wp2_with fail
   go_ret2
   exact ⟨rfl, by first | exact below_new hb2 _ | exact below_new (below_new hb2 _) _⟩
  | some f =>
   have hfl : f.size = nc := by rw [← hnc]; exact (flat_len f 0).symm
   have hfp := f.size_pos
   have HC := Lib.hid (fun W (hb : Below w.heap.size w W) => ktru_any f (hp f rfl).1 (hp f rfl).2 C cc nc W hfl (hC.grow hb))
   have e3 : ((nc : Int) == 0) = false := by simp; omega
   have e3' : (nc == 0) = false := by simp; omega
   clear hp hnc hC hfl hfp
   have hF := hg
   unfold wishAt at hF
   go_enter Tryz.func49, Tryz.ntmps49
   go_wp2_with fail
   refine wp_loop_rounds 3 ?_
   rw [rounds_succ]
   go_wp2_with fail
   have hb2 : Below w.heap.size w w := Below.refl _ _
   rw [rounds_succ]
   go_wp2_with fail
   go_at_call 51
   refine (HC.out _ (by first | exact below_new hb2 _ | exact below_new (below_new hb2 _) _)).mono ?_
   rintro r x3 ⟨rfl, hc3⟩
   go_wp2_with fail
   rw [rounds_succ]
   go_wp2_with fail
   go_ret2
   exact ⟨rfl, by first | exact (below_new hb2 _).trans (hc3.mono (by have := hb2.size; simp; omega)) | exact (below_new (below_new hb2 _) _).trans (hc3.mono (by have := hb2.size; simp; omega))⟩
 | some e =>
  have hel : e.size = na := by rw [← hna]; exact (flat_len e 0).symm
  have hep := e.size_pos
  have HA := Lib.hid (fun W (hb : Below w.heap.size w W) => knum_any e (ho e rfl).1 (ho e rfl).2 A ca na W hel (hA.grow hb))
  have e1 : ((na : Int) == 0) = false := by simp; omega
  have e1' : (na == 0) = false := by simp; omega
  clear ho hna hA hel hep
  cases p with
  | none =>
   obtain rfl : nc = 0 := hnc.symm
   clear hp hnc hC
   have hF := hg
   unfold wishAt at hF
   go_enter Tryz.func49, Tryz.ntmps49
   go_wp2_with fail
   refine wp_loop_rounds 3 ?_
   rw [rounds_succ]
   go_wp2_with fail
   go_at_call 50
   refine (HA.out _ (below_new (Below.refl _ _) _)).mono ?_
   rintro r x2 ⟨rfl, hc2⟩
   have hb2 : Below w.heap.size w x2 := (below_new (Below.refl _ _) _).trans (hc2.mono (by simp))
   replace hg := hg.grow hb2
   clear hc2 hF
   have hF := hg
   unfold wishAt at hF
   go_wp2_with fail
   rw [rounds_succ]
   go_wp2_with fail
   rw [rounds_succ]
   go_wp2_with fail
   go_ret2
   exact ⟨rfl, by first | exact below_new hb2 _ | exact below_new (below_new hb2 _) _⟩
  | some f =>
   have hfl : f.size = nc := by rw [← hnc]; exact (flat_len f 0).symm
   have hfp := f.size_pos
   have HC := Lib.hid (fun W (hb : Below w.heap.size w W) => ktru_any f (hp f rfl).1 (hp f rfl).2 C cc nc W hfl (hC.grow hb))
   have e3 : ((nc : Int) == 0) = false := by simp; omega
   have e3' : (nc == 0) = false := by simp; omega
   clear hp hnc hC hfl hfp
   have hF := hg
   unfold wishAt at hF
   go_enter Tryz.func49, Tryz.ntmps49
   go_wp2_with fail
   refine wp_loop_rounds 3 ?_
   rw [rounds_succ]
   go_wp2_with fail
   go_at_call 50
   refine (HA.out _ (below_new (Below.refl _ _) _)).mono ?_
   rintro r x2 ⟨rfl, hc2⟩
   have hb2 : Below w.heap.size w x2 := (below_new (Below.refl _ _) _).trans (hc2.mono (by simp))
   replace hg := hg.grow hb2
   clear hc2 hF
   have hF := hg
   unfold wishAt at hF
   go_wp2_with fail
   rw [rounds_succ]
   go_wp2_with fail
   go_at_call 51
   refine (HC.out _ (by first | exact below_new hb2 _ | exact below_new (below_new hb2 _) _)).mono ?_
   rintro r x3 ⟨rfl, hc3⟩
   go_wp2_with fail
   rw [rounds_succ]
   go_wp2_with fail
   go_ret2
   exact ⟨rfl, by first | exact (below_new hb2 _).trans (hc3.mono (by have := hb2.size; simp; omega)) | exact (below_new (below_new hb2 _) _).trans (hc3.mono (by have := hb2.size; simp; omega))⟩
set_option maxHeartbeats 16000000 in
set_option maxRecDepth 100000 in
theorem qcheck_any (q : Qy) (hq : q.good) (A B C : Option Addr) (na ca nb cb nc cc : Nat) (w : World) (h : QRd w q A B C na ca nb cb nc cc) :
  Calls Tryz.prog 21 #[.agg #[.int .u8 q.ag, .slice A na ca, .slice B nb cb, .bool q.jo, .slice C nc cc, .int .u8 q.wk, .int .i64 q.ws, .int .i64 q.we, .bool q.ky, .int .u8 q.la]] w fun r w' => r = .returned (.tuple #[.int .i64 0, .int .i64 0]) ∧ Below w.heap.size w w' := by
 have hcc := ccheck_any q hq A B C na ca nb cb nc cc
 have hl0 := (Loc.nil w).new [.int .u8 q.ag, .slice A na ca, .slice B nb cb, .bool q.jo, .slice C nc cc, .int .u8 q.wk, .int .i64 q.ws, .int .i64 q.we, .bool q.ky, .int .u8 q.la] 27
 have hb0 : Below w.heap.size w (w.alloc (.cells #[.int .u8 q.ag, .slice A na ca, .slice B nb cb, .bool q.jo, .slice C nc cc, .int .u8 q.wk, .int .i64 q.ws, .int .i64 q.we, .bool q.ky, .int .u8 q.la] 27)) := below_new (Below.refl _ _) _
 have HC := Lib.hid (hcc _ (h.grow hb0))
 have HF := Lib.hid (fun g W (hb : Below w.heap.size w W) => first_any q.arg q.wh (fun e he => ⟨⟨(hq.arg e he).1, (hq.arg e he).2.1⟩, (hq.arg e he).2.2⟩) (fun e he => ⟨⟨(hq.wh e he).1, (hq.wh e he).2.1⟩, (hq.wh e he).2.2⟩) A C na ca nc cc g W h.1.1 h.2.2.1 (h.1.2.2.2.grow hb) (h.2.2.2.2.2.grow hb))
 clear hcc h hq
 have hF := hl0
 (repeat unfold Loc at hF)
 go_enter Tryz.func21, Tryz.ntmps21
 go_wp2_with fail
 go_at_call 48
 refine HC.out.mono ?_
 rintro r x2 ⟨rfl, hc2⟩
 replace hl0 := hl0.below hc2
 replace hb0 := below_then hb0 hc2
 clear hc2 hF
 have hF := hl0
 (repeat unfold Loc at hF)
 go_wp2_with fail
 go_at_call 49
 refine (HF.out x2.heap.size _ (below_new hb0 _) ⟨by simp, by simp, by simp, by simp, by simp⟩).mono ?_
 rintro r x3 ⟨rfl, hc3⟩
 go_wp2_with fail
 go_ret2
 exact ⟨rfl, below_then (below_new hb0 _) hc3⟩
/-- A row: its key, its window, the values. -/
structure Rm where
 k : Int
 s : Int
 e : Int
 a : Int
 b : Int
deriving DecidableEq
def rmenc (x : Rm) : List Value := [.int .i64 x.k, .int .i64 x.s, .int .i64 x.e, .int .i64 x.a, .int .i64 x.b]
theorem rmenc_len (x : Rm) : (rmenc x).length = 5 := rfl
def rowE (jo : Bool) (ag : Int) (x : En) : Option Rm :=
 if x.c1 = 0 then none else if jo = true then (if x.c2 = 0 then none else some ⟨x.k, x.s, x.e, atold ag x.a, atold ag x.b⟩) else some ⟨x.k, x.s, x.e, atold ag x.a, 0⟩
def RowP (o : Option Rm) (w : World) (r : Ending) (w' : World) : Prop :=
 (match o with
 | some x => r = .returned (.tuple #[.agg #[.int .i64 x.k, .int .i64 x.s, .int .i64 x.e, .int .i64 x.a, .int .i64 x.b], .bool true])
 | none => r = .returned (.tuple #[.agg #[.int .i64 0, .int .i64 0, .int .i64 0, .int .i64 0, .int .i64 0], .bool false])) ∧ Below w.heap.size w w'
theorem aval_ok (g : Int) (hg : 1 ≤ g ∧ g ≤ 4) (c s m x : Int) (ha : Acc.ok ⟨c, s, m, x⟩) (w : World) (v er : Int) (hv : (if c = 0 then (0, 6) else (atold g ⟨c, s, m, x⟩, 0)) = (v, er)) :
  Calls Tryz.prog 17 #[.int .u8 g, .agg #[.int .i64 c, .int .i64 s, .int .i64 m, .int .i64 x]] w fun e w' => e = .returned (.tuple #[.int .i64 v, .int .i64 er]) ∧ Below w.heap.size w w' := by
 have h := avalue_any g c s m x w
 have e : avalue g ⟨c, s, m, x⟩ = (v, er) := by unfold avalue; rw [if_neg (by omega), if_neg (by simp [ha])]; exact hv
 rwa [e] at h
set_option maxHeartbeats 16000000 in
set_option maxRecDepth 100000 in
theorem mrow_any (q : Qy) (hag : 1 ≤ q.ag ∧ q.ag ≤ 4) (x : En) (hxa : x.a.ok) (hxb : x.b.ok) (A B C : Option Addr) (na ca nb cb nc cc : Nat) (w : World) :
  Calls Tryz.prog 25 #[.agg #[.int .u8 q.ag, .slice A na ca, .slice B nb cb, .bool q.jo, .slice C nc cc, .int .u8 q.wk, .int .i64 q.ws, .int .i64 q.we, .bool q.ky, .int .u8 q.la], .agg #[.int .i64 x.k, .int .i64 x.s, .int .i64 x.e, .int .i64 x.c1, .int .i64 x.s1, .int .i64 x.m1, .int .i64 x.x1, .int .i64 x.c2, .int .i64 x.s2, .int .i64 x.m2, .int .i64 x.x2]] w (RowP (rowE q.jo q.ag x) w) := by
 obtain ⟨ag, arg, src, jo, wh, wk, ws, we, ky, la⟩ := q
 obtain ⟨k, s, e, c1, s1, m1, x1, c2, s2, m2, x2⟩ := x
 simp only [En.a, En.b] at hxa hxb
 simp only at hag
 simp only [rowE, En.a, En.b]
 have HA := Lib.hid (fun W v er h => aval_ok ag hag c1 s1 m1 x1 hxa W v er h); have HB := Lib.hid (fun W v er h => aval_ok ag hag c2 s2 m2 x2 hxb W v er h)
 clear hxa hxb hag
 cases jo
 ·by_cases h1 : c1 = 0
  ·rw [if_pos h1]
   have hv : (if c1 = 0 then ((0 : Int), (6 : Int)) else (atold ag ⟨c1, s1, m1, x1⟩, 0)) = (0, 6) := by rw [if_pos h1]
   have HV := Lib.hid hv
   clear h1 hv
   have hl := ((((Loc.nil w).new [.int .u8 ag, .slice A na ca, .slice B nb cb, .bool false, .slice C nc cc, .int .u8 wk, .int .i64 ws, .int .i64 we, .bool ky, .int .u8 la] 27).new [.int .i64 k, .int .i64 s, .int .i64 e, .int .i64 c1, .int .i64 s1, .int .i64 m1, .int .i64 x1, .int .i64 c2, .int .i64 s2, .int .i64 m2, .int .i64 x2] 62).new [.int .i64 0, .int .i64 0, .int .i64 0, .int .i64 0, .int .i64 0] 65).new [.int .i64 k, .int .i64 s, .int .i64 e, .int .i64 0, .int .i64 0] 65
   rw [World.size_alloc, World.size_alloc, World.size_alloc] at hl
   have hb : Below w.heap.size w ((((w.alloc (.cells #[.int .u8 ag, .slice A na ca, .slice B nb cb, .bool false, .slice C nc cc, .int .u8 wk, .int .i64 ws, .int .i64 we, .bool ky, .int .u8 la] 27)).alloc (.cells #[.int .i64 k, .int .i64 s, .int .i64 e, .int .i64 c1, .int .i64 s1, .int .i64 m1, .int .i64 x1, .int .i64 c2, .int .i64 s2, .int .i64 m2, .int .i64 x2] 62)).alloc (.cells #[.int .i64 0, .int .i64 0, .int .i64 0, .int .i64 0, .int .i64 0] 65)).alloc (.cells #[.int .i64 k, .int .i64 s, .int .i64 e, .int .i64 0, .int .i64 0] 65)) := below_new (below_new (below_new (below_new (Below.refl _ _) _) _) _) _
   have q1 : ¬ w.heap.size + 1 + 1 = w.heap.size + 1 + 1 + 1 := by omega
   have q2 : ¬ w.heap.size + 1 + 1 + 1 = w.heap.size + 1 + 1 := by omega
   go_enter Tryz.func25, Tryz.ntmps25
   go_wp2_with fail
   refine wp_loop_rounds 3 ?_
   rw [rounds_succ]
   go_wp2_with fail
   obtain ⟨lE, hE, hRR⟩ := Env.abs (w0 := w) hb hl
   have HR0 := Lib.hid hRR
   (repeat unfold Loc at hRR)
   refine hB (Env w lE) fun hHeld => ?_
   refine hT 0 ?_; refine hT 1 ?_; refine hT 2 ?_; refine hT 3 ?_; refine hT 4 ?_; refine hT 5 ?_
   refine hC 6 fun K hK => ?_; go_simp
   go_at_call 17
   refine (HA.out _ _ _ HV.out).mono ?_
   rintro r y5 ⟨rfl, hc5⟩
   have hEhc5 := Env.step hc5 (by assumption); (try (have hqhc5 := kq hc5; (repeat rw [World.size_drew] at hqhc5); (repeat rw [World.size_alloc] at hqhc5); have hrhc5 := hqhc5; (repeat unfold Loc at hrhc5)))
   (refine hKp hK fun hHeld => ?_; clear hK K)
   refine hT 7 ?_; refine hT 8 ?_; refine hT 9 ?_; refine hT 10 ?_; refine hT 11 ?_
   refine hD ?_
   have hl5 := HR0.out _ hHeld
   have hb5 := hHeld.1
   clear hRR hE hl hb HR0
   have hl := hl5
   have hb := hb5
   clear hl5 hb5
   have hF := hl
   (repeat unfold Loc at hF)
   go_wp2_with fail
   refine bodyPost_ret (v := _) (by rw [results_cell_tmp Tryz.results25]; go_simp; rfl) rfl ⟨?_, ?_⟩
   ·rfl
   ·exact bel
  ·rw [if_neg h1]
   obtain ⟨V, hV⟩ : ∃ V, atold ag ⟨c1, s1, m1, x1⟩ = V := ⟨_, rfl⟩
   have hv : (if c1 = 0 then ((0 : Int), (6 : Int)) else (atold ag ⟨c1, s1, m1, x1⟩, 0)) = (V, 0) := by rw [if_neg h1, hV]
   have HV := Lib.hid hv
   simp only [hV]
   clear h1 hv hV
   rw [if_neg (by simp)]
   have hl := ((((Loc.nil w).new [.int .u8 ag, .slice A na ca, .slice B nb cb, .bool false, .slice C nc cc, .int .u8 wk, .int .i64 ws, .int .i64 we, .bool ky, .int .u8 la] 27).new [.int .i64 k, .int .i64 s, .int .i64 e, .int .i64 c1, .int .i64 s1, .int .i64 m1, .int .i64 x1, .int .i64 c2, .int .i64 s2, .int .i64 m2, .int .i64 x2] 62).new [.int .i64 0, .int .i64 0, .int .i64 0, .int .i64 0, .int .i64 0] 65).new [.int .i64 k, .int .i64 s, .int .i64 e, .int .i64 0, .int .i64 0] 65
   rw [World.size_alloc, World.size_alloc, World.size_alloc] at hl
   have hb : Below w.heap.size w ((((w.alloc (.cells #[.int .u8 ag, .slice A na ca, .slice B nb cb, .bool false, .slice C nc cc, .int .u8 wk, .int .i64 ws, .int .i64 we, .bool ky, .int .u8 la] 27)).alloc (.cells #[.int .i64 k, .int .i64 s, .int .i64 e, .int .i64 c1, .int .i64 s1, .int .i64 m1, .int .i64 x1, .int .i64 c2, .int .i64 s2, .int .i64 m2, .int .i64 x2] 62)).alloc (.cells #[.int .i64 0, .int .i64 0, .int .i64 0, .int .i64 0, .int .i64 0] 65)).alloc (.cells #[.int .i64 k, .int .i64 s, .int .i64 e, .int .i64 0, .int .i64 0] 65)) := below_new (below_new (below_new (below_new (Below.refl _ _) _) _) _) _
   have q1 : ¬ w.heap.size + 1 + 1 = w.heap.size + 1 + 1 + 1 := by omega
   have q2 : ¬ w.heap.size + 1 + 1 + 1 = w.heap.size + 1 + 1 := by omega
   go_enter Tryz.func25, Tryz.ntmps25
   go_wp2_with fail
   refine wp_loop_rounds 3 ?_
   rw [rounds_succ]
   go_wp2_with fail
   obtain ⟨lE, hE, hRR⟩ := Env.abs (w0 := w) hb hl
   have HR0 := Lib.hid hRR
   (repeat unfold Loc at hRR)
   refine hB (Env w lE) fun hHeld => ?_
   refine hT 0 ?_; refine hT 1 ?_; refine hT 2 ?_; refine hT 3 ?_; refine hT 4 ?_; refine hT 5 ?_
   refine hC 6 fun K hK => ?_; go_simp
   go_at_call 17
   refine (HA.out _ _ _ HV.out).mono ?_
   rintro r y5 ⟨rfl, hc5⟩
   have hEhc5 := Env.step hc5 (by assumption); (try (have hqhc5 := kq hc5; (repeat rw [World.size_drew] at hqhc5); (repeat rw [World.size_alloc] at hqhc5); have hrhc5 := hqhc5; (repeat unfold Loc at hrhc5)))
   (refine hKp hK fun hHeld => ?_; clear hK K)
   refine hT 7 ?_; refine hT 8 ?_; refine hT 9 ?_; refine hT 10 ?_; refine hT 11 ?_
   refine hD ?_
   have hl5 := HR0.out _ hHeld
   have hb5 := hHeld.1
   clear hRR hE hl hb HR0
   have hl := hl5
   have hb := hb5
   clear hl5 hb5
   have hF := hl
   (repeat unfold Loc at hF)
   go_wp2_with fail
   rw [rounds_succ]
   replace hl := hl.put (by simp; omega) 3 (.int .i64 V) (by simp)
   replace hb := below_put hb (p := ⟨w.heap.size + 1 + 1 + 1, 3, none⟩) (by dsimp only; omega) (.int .i64 V)
   simp only [List.set_cons_succ, List.set_cons_zero] at hl
   obtain ⟨z5, hY⟩ : ∃ Y, Y = y5.setCell ⟨w.heap.size + 1 + 1 + 1, 3, none⟩ (.int .i64 V) := ⟨_, rfl⟩
   rw [← hY] at hl hb ⊢
   clear hY hF
   have hF := hl
   (repeat unfold Loc at hF)
   go_wp2_with fail
   refine bodyPost_ret (v := _) (by rw [results_cell_tmp Tryz.results25]; go_simp; rfl) rfl ⟨?_, ?_⟩
   ·rfl
   ·exact bel
 ·by_cases h1 : c1 = 0
  ·rw [if_pos h1]
   have hv : (if c1 = 0 then ((0 : Int), (6 : Int)) else (atold ag ⟨c1, s1, m1, x1⟩, 0)) = (0, 6) := by rw [if_pos h1]
   have HV := Lib.hid hv
   clear h1 hv
   have hl := ((((Loc.nil w).new [.int .u8 ag, .slice A na ca, .slice B nb cb, .bool true, .slice C nc cc, .int .u8 wk, .int .i64 ws, .int .i64 we, .bool ky, .int .u8 la] 27).new [.int .i64 k, .int .i64 s, .int .i64 e, .int .i64 c1, .int .i64 s1, .int .i64 m1, .int .i64 x1, .int .i64 c2, .int .i64 s2, .int .i64 m2, .int .i64 x2] 62).new [.int .i64 0, .int .i64 0, .int .i64 0, .int .i64 0, .int .i64 0] 65).new [.int .i64 k, .int .i64 s, .int .i64 e, .int .i64 0, .int .i64 0] 65
   rw [World.size_alloc, World.size_alloc, World.size_alloc] at hl
   have hb : Below w.heap.size w ((((w.alloc (.cells #[.int .u8 ag, .slice A na ca, .slice B nb cb, .bool true, .slice C nc cc, .int .u8 wk, .int .i64 ws, .int .i64 we, .bool ky, .int .u8 la] 27)).alloc (.cells #[.int .i64 k, .int .i64 s, .int .i64 e, .int .i64 c1, .int .i64 s1, .int .i64 m1, .int .i64 x1, .int .i64 c2, .int .i64 s2, .int .i64 m2, .int .i64 x2] 62)).alloc (.cells #[.int .i64 0, .int .i64 0, .int .i64 0, .int .i64 0, .int .i64 0] 65)).alloc (.cells #[.int .i64 k, .int .i64 s, .int .i64 e, .int .i64 0, .int .i64 0] 65)) := below_new (below_new (below_new (below_new (Below.refl _ _) _) _) _) _
   have q1 : ¬ w.heap.size + 1 + 1 = w.heap.size + 1 + 1 + 1 := by omega
   have q2 : ¬ w.heap.size + 1 + 1 + 1 = w.heap.size + 1 + 1 := by omega
   go_enter Tryz.func25, Tryz.ntmps25
   go_wp2_with fail
   refine wp_loop_rounds 3 ?_
   rw [rounds_succ]
   go_wp2_with fail
   obtain ⟨lE, hE, hRR⟩ := Env.abs (w0 := w) hb hl
   have HR0 := Lib.hid hRR
   (repeat unfold Loc at hRR)
   refine hB (Env w lE) fun hHeld => ?_
   refine hT 0 ?_; refine hT 1 ?_; refine hT 2 ?_; refine hT 3 ?_; refine hT 4 ?_; refine hT 5 ?_
   refine hC 6 fun K hK => ?_; go_simp
   go_at_call 17
   refine (HA.out _ _ _ HV.out).mono ?_
   rintro r y5 ⟨rfl, hc5⟩
   have hEhc5 := Env.step hc5 (by assumption); (try (have hqhc5 := kq hc5; (repeat rw [World.size_drew] at hqhc5); (repeat rw [World.size_alloc] at hqhc5); have hrhc5 := hqhc5; (repeat unfold Loc at hrhc5)))
   (refine hKp hK fun hHeld => ?_; clear hK K)
   refine hT 7 ?_; refine hT 8 ?_; refine hT 9 ?_; refine hT 10 ?_; refine hT 11 ?_
   refine hD ?_
   have hl5 := HR0.out _ hHeld
   have hb5 := hHeld.1
   clear hRR hE hl hb HR0
   have hl := hl5
   have hb := hb5
   clear hl5 hb5
   have hF := hl
   (repeat unfold Loc at hF)
   go_wp2_with fail
   refine bodyPost_ret (v := _) (by rw [results_cell_tmp Tryz.results25]; go_simp; rfl) rfl ⟨?_, ?_⟩
   ·rfl
   ·exact bel
  ·rw [if_neg h1]
   obtain ⟨V, hV⟩ : ∃ V, atold ag ⟨c1, s1, m1, x1⟩ = V := ⟨_, rfl⟩
   have hv : (if c1 = 0 then ((0 : Int), (6 : Int)) else (atold ag ⟨c1, s1, m1, x1⟩, 0)) = (V, 0) := by rw [if_neg h1, hV]
   have HV := Lib.hid hv
   simp only [hV]
   clear h1 hv hV
   simp only [if_true]
   by_cases h2 : c2 = 0
   ·rw [if_pos h2]
    have hv : (if c2 = 0 then ((0 : Int), (6 : Int)) else (atold ag ⟨c2, s2, m2, x2⟩, 0)) = (0, 6) := by rw [if_pos h2]
    have HV2 := Lib.hid hv
    clear h2 hv
    have hl := ((((Loc.nil w).new [.int .u8 ag, .slice A na ca, .slice B nb cb, .bool true, .slice C nc cc, .int .u8 wk, .int .i64 ws, .int .i64 we, .bool ky, .int .u8 la] 27).new [.int .i64 k, .int .i64 s, .int .i64 e, .int .i64 c1, .int .i64 s1, .int .i64 m1, .int .i64 x1, .int .i64 c2, .int .i64 s2, .int .i64 m2, .int .i64 x2] 62).new [.int .i64 0, .int .i64 0, .int .i64 0, .int .i64 0, .int .i64 0] 65).new [.int .i64 k, .int .i64 s, .int .i64 e, .int .i64 0, .int .i64 0] 65
    rw [World.size_alloc, World.size_alloc, World.size_alloc] at hl
    have hb : Below w.heap.size w ((((w.alloc (.cells #[.int .u8 ag, .slice A na ca, .slice B nb cb, .bool true, .slice C nc cc, .int .u8 wk, .int .i64 ws, .int .i64 we, .bool ky, .int .u8 la] 27)).alloc (.cells #[.int .i64 k, .int .i64 s, .int .i64 e, .int .i64 c1, .int .i64 s1, .int .i64 m1, .int .i64 x1, .int .i64 c2, .int .i64 s2, .int .i64 m2, .int .i64 x2] 62)).alloc (.cells #[.int .i64 0, .int .i64 0, .int .i64 0, .int .i64 0, .int .i64 0] 65)).alloc (.cells #[.int .i64 k, .int .i64 s, .int .i64 e, .int .i64 0, .int .i64 0] 65)) := below_new (below_new (below_new (below_new (Below.refl _ _) _) _) _) _
    have q1 : ¬ w.heap.size + 1 + 1 = w.heap.size + 1 + 1 + 1 := by omega
    have q2 : ¬ w.heap.size + 1 + 1 + 1 = w.heap.size + 1 + 1 := by omega
    go_enter Tryz.func25, Tryz.ntmps25
    go_wp2_with fail
    refine wp_loop_rounds 3 ?_
    rw [rounds_succ]
    go_wp2_with fail
    obtain ⟨lE, hE, hRR⟩ := Env.abs (w0 := w) hb hl
    have HR0 := Lib.hid hRR
    (repeat unfold Loc at hRR)
    refine hB (Env w lE) fun hHeld => ?_
    refine hT 0 ?_; refine hT 1 ?_; refine hT 2 ?_; refine hT 3 ?_; refine hT 4 ?_; refine hT 5 ?_
    refine hC 6 fun K hK => ?_; go_simp
    go_at_call 17
    refine (HA.out _ _ _ HV.out).mono ?_
    rintro r y5 ⟨rfl, hc5⟩
    have hEhc5 := Env.step hc5 (by assumption); (try (have hqhc5 := kq hc5; (repeat rw [World.size_drew] at hqhc5); (repeat rw [World.size_alloc] at hqhc5); have hrhc5 := hqhc5; (repeat unfold Loc at hrhc5)))
    (refine hKp hK fun hHeld => ?_; clear hK K)
    refine hT 7 ?_; refine hT 8 ?_; refine hT 9 ?_; refine hT 10 ?_; refine hT 11 ?_
    refine hD ?_
    have hl5 := HR0.out _ hHeld
    have hb5 := hHeld.1
    clear hRR hE hl hb HR0
    have hl := hl5
    have hb := hb5
    clear hl5 hb5
    have hF := hl
    (repeat unfold Loc at hF)
    go_wp2_with fail
    rw [rounds_succ]
    replace hl := hl.put (by simp; omega) 3 (.int .i64 V) (by simp)
    replace hb := below_put hb (p := ⟨w.heap.size + 1 + 1 + 1, 3, none⟩) (by dsimp only; omega) (.int .i64 V)
    simp only [List.set_cons_succ, List.set_cons_zero] at hl
    obtain ⟨z5, hY⟩ : ∃ Y, Y = y5.setCell ⟨w.heap.size + 1 + 1 + 1, 3, none⟩ (.int .i64 V) := ⟨_, rfl⟩
    rw [← hY] at hl hb ⊢
    clear hY hF
    have hF := hl
    (repeat unfold Loc at hF)
    go_wp2_with fail
    obtain ⟨lE, hE, hRR⟩ := Env.abs (w0 := w) hb hl
    have HR0 := Lib.hid hRR
    (repeat unfold Loc at hRR)
    refine hB (Env w lE) fun hHeld => ?_
    refine hT 0 ?_; refine hT 1 ?_; refine hT 2 ?_; refine hT 3 ?_; refine hT 4 ?_; refine hT 5 ?_
    refine hC 6 fun K hK => ?_; go_simp
    go_at_call 17
    refine (HB.out _ _ _ HV2.out).mono ?_
    rintro r y6 ⟨rfl, hc6⟩
    have hEhc6 := Env.step hc6 (by assumption); (try (have hqhc6 := kq hc6; (repeat rw [World.size_drew] at hqhc6); (repeat rw [World.size_alloc] at hqhc6); have hrhc6 := hqhc6; (repeat unfold Loc at hrhc6)))
    (refine hKp hK fun hHeld => ?_; clear hK K)
    refine hT 7 ?_; refine hT 8 ?_; refine hT 9 ?_; refine hT 10 ?_; refine hT 11 ?_
    refine hD ?_
    have hl6 := HR0.out _ hHeld
    have hb6 := hHeld.1
    clear hRR hE hl hb HR0
    have hl := hl6
    have hb := hb6
    clear hl6 hb6
    have hF := hl
    (repeat unfold Loc at hF)
    go_wp2_with fail
    refine bodyPost_ret (v := _) (by rw [results_cell_tmp Tryz.results25]; go_simp; rfl) rfl ⟨?_, ?_⟩
    ·rfl
    ·exact bel
   ·rw [if_neg h2]
    obtain ⟨V2, hV⟩ : ∃ V, atold ag ⟨c2, s2, m2, x2⟩ = V := ⟨_, rfl⟩
    have hv : (if c2 = 0 then ((0 : Int), (6 : Int)) else (atold ag ⟨c2, s2, m2, x2⟩, 0)) = (V2, 0) := by rw [if_neg h2, hV]
    have HV2 := Lib.hid hv
    simp only [hV]
    clear h2 hv hV
    have hl := ((((Loc.nil w).new [.int .u8 ag, .slice A na ca, .slice B nb cb, .bool true, .slice C nc cc, .int .u8 wk, .int .i64 ws, .int .i64 we, .bool ky, .int .u8 la] 27).new [.int .i64 k, .int .i64 s, .int .i64 e, .int .i64 c1, .int .i64 s1, .int .i64 m1, .int .i64 x1, .int .i64 c2, .int .i64 s2, .int .i64 m2, .int .i64 x2] 62).new [.int .i64 0, .int .i64 0, .int .i64 0, .int .i64 0, .int .i64 0] 65).new [.int .i64 k, .int .i64 s, .int .i64 e, .int .i64 0, .int .i64 0] 65
    rw [World.size_alloc, World.size_alloc, World.size_alloc] at hl
    have hb : Below w.heap.size w ((((w.alloc (.cells #[.int .u8 ag, .slice A na ca, .slice B nb cb, .bool true, .slice C nc cc, .int .u8 wk, .int .i64 ws, .int .i64 we, .bool ky, .int .u8 la] 27)).alloc (.cells #[.int .i64 k, .int .i64 s, .int .i64 e, .int .i64 c1, .int .i64 s1, .int .i64 m1, .int .i64 x1, .int .i64 c2, .int .i64 s2, .int .i64 m2, .int .i64 x2] 62)).alloc (.cells #[.int .i64 0, .int .i64 0, .int .i64 0, .int .i64 0, .int .i64 0] 65)).alloc (.cells #[.int .i64 k, .int .i64 s, .int .i64 e, .int .i64 0, .int .i64 0] 65)) := below_new (below_new (below_new (below_new (Below.refl _ _) _) _) _) _
    have q1 : ¬ w.heap.size + 1 + 1 = w.heap.size + 1 + 1 + 1 := by omega
    have q2 : ¬ w.heap.size + 1 + 1 + 1 = w.heap.size + 1 + 1 := by omega
    go_enter Tryz.func25, Tryz.ntmps25
    go_wp2_with fail
    refine wp_loop_rounds 3 ?_
    rw [rounds_succ]
    go_wp2_with fail
    obtain ⟨lE, hE, hRR⟩ := Env.abs (w0 := w) hb hl
    have HR0 := Lib.hid hRR
    (repeat unfold Loc at hRR)
    refine hB (Env w lE) fun hHeld => ?_
    refine hT 0 ?_; refine hT 1 ?_; refine hT 2 ?_; refine hT 3 ?_; refine hT 4 ?_; refine hT 5 ?_
    refine hC 6 fun K hK => ?_; go_simp
    go_at_call 17
    refine (HA.out _ _ _ HV.out).mono ?_
    rintro r y5 ⟨rfl, hc5⟩
    have hEhc5 := Env.step hc5 (by assumption); (try (have hqhc5 := kq hc5; (repeat rw [World.size_drew] at hqhc5); (repeat rw [World.size_alloc] at hqhc5); have hrhc5 := hqhc5; (repeat unfold Loc at hrhc5)))
    (refine hKp hK fun hHeld => ?_; clear hK K)
    refine hT 7 ?_; refine hT 8 ?_; refine hT 9 ?_; refine hT 10 ?_; refine hT 11 ?_
    refine hD ?_
    have hl5 := HR0.out _ hHeld
    have hb5 := hHeld.1
    clear hRR hE hl hb HR0
    have hl := hl5
    have hb := hb5
    clear hl5 hb5
    have hF := hl
    (repeat unfold Loc at hF)
    go_wp2_with fail
    rw [rounds_succ]
    replace hl := hl.put (by simp; omega) 3 (.int .i64 V) (by simp)
    replace hb := below_put hb (p := ⟨w.heap.size + 1 + 1 + 1, 3, none⟩) (by dsimp only; omega) (.int .i64 V)
    simp only [List.set_cons_succ, List.set_cons_zero] at hl
    obtain ⟨z5, hY⟩ : ∃ Y, Y = y5.setCell ⟨w.heap.size + 1 + 1 + 1, 3, none⟩ (.int .i64 V) := ⟨_, rfl⟩
    rw [← hY] at hl hb ⊢
    clear hY hF
    have hF := hl
    (repeat unfold Loc at hF)
    go_wp2_with fail
    obtain ⟨lE, hE, hRR⟩ := Env.abs (w0 := w) hb hl
    have HR0 := Lib.hid hRR
    (repeat unfold Loc at hRR)
    refine hB (Env w lE) fun hHeld => ?_
    refine hT 0 ?_; refine hT 1 ?_; refine hT 2 ?_; refine hT 3 ?_; refine hT 4 ?_; refine hT 5 ?_
    refine hC 6 fun K hK => ?_; go_simp
    go_at_call 17
    refine (HB.out _ _ _ HV2.out).mono ?_
    rintro r y6 ⟨rfl, hc6⟩
    have hEhc6 := Env.step hc6 (by assumption); (try (have hqhc6 := kq hc6; (repeat rw [World.size_drew] at hqhc6); (repeat rw [World.size_alloc] at hqhc6); have hrhc6 := hqhc6; (repeat unfold Loc at hrhc6)))
    (refine hKp hK fun hHeld => ?_; clear hK K)
    refine hT 7 ?_; refine hT 8 ?_; refine hT 9 ?_; refine hT 10 ?_; refine hT 11 ?_
    refine hD ?_
    have hl6 := HR0.out _ hHeld
    have hb6 := hHeld.1
    clear hRR hE hl hb HR0
    have hl := hl6
    have hb := hb6
    clear hl6 hb6
    have hF := hl
    (repeat unfold Loc at hF)
    go_wp2_with fail
    rw [rounds_succ]
    replace hl := hl.put (by simp; omega) 4 (.int .i64 V2) (by simp)
    replace hb := below_put hb (p := ⟨w.heap.size + 1 + 1 + 1, 4, none⟩) (by dsimp only; omega) (.int .i64 V2)
    simp only [List.set_cons_succ, List.set_cons_zero] at hl
    obtain ⟨z6, hY⟩ : ∃ Y, Y = y6.setCell ⟨w.heap.size + 1 + 1 + 1, 4, none⟩ (.int .i64 V2) := ⟨_, rfl⟩
    rw [← hY] at hl hb ⊢
    clear hY hF
    have hF := hl
    (repeat unfold Loc at hF)
    go_wp2_with fail
    refine bodyPost_ret (v := _) (by rw [results_cell_tmp Tryz.results25]; go_simp; rfl) rfl ⟨?_, ?_⟩
    ·rfl
    ·exact bel
/-- What counts, or nothing. -/
def CntP (o : Option Pt) (w : World) (r : Ending) (w' : World) : Prop :=
 (match o with
 | some x => r = .returned (.tuple #[.agg #[.int .i64 x.k, .int .i64 x.t, .int .i64 x.v], .bool true])
 | none => r = .returned (.tuple #[.agg #[.int .i64 0, .int .i64 0, .int .i64 0], .bool false])) ∧ Below w.heap.size w w'
set_option maxHeartbeats 16000000 in
set_option maxRecDepth 100000 in
theorem mcounts_any (q : Qy) (hq : q.good) (r : Pt) (A B C : Option Addr) (na ca nb cb nc cc : Nat) (w : World) (h : QRd w q A B C na ca nb cb nc cc) :
  Calls Tryz.prog 23 #[.agg #[.int .u8 q.ag, .slice A na ca, .slice B nb cb, .bool q.jo, .slice C nc cc, .int .u8 q.wk, .int .i64 q.ws, .int .i64 q.we, .bool q.ky, .int .u8 q.la], .agg #[.int .i64 r.k, .int .i64 r.t, .int .i64 r.v]] w (CntP (cntP q r) w) := by
 obtain ⟨⟨a1, -, -, a4⟩, -, ⟨c1, -, -, c4⟩⟩ := h
 obtain ⟨hag, hla, hcnt, harg, hwh, hsrc, htwo, hwin, htum⟩ := hq
 obtain ⟨ag, arg, src, jo, wh, wk, ws, we, ky, la⟩ := q
 obtain ⟨rk, rt, rv, rd⟩ := r
 simp only at a1 a4 c1 c4 hag hla hcnt harg hwh hsrc htwo hwin htum
 dsimp only
 clear hag hla hsrc htwo hwin htum
 cases wh with
 | none =>
  obtain rfl : nc = 0 := c1.symm
  clear hwh c1 c4
  simp only [cntP]
  cases arg with
  | none =>
   obtain rfl : ag = 1 := hcnt.2 rfl
   obtain rfl : na = 0 := a1.symm
   clear harg a1 a4 hcnt
   cases ky
   ·have hl0 := (((Loc.nil w).new [.int .u8 1, .slice A 0 ca, .slice B nb cb, .bool jo, .slice C 0 cc, .int .u8 wk, .int .i64 ws, .int .i64 we, .bool false, .int .u8 la] 27).new [.int .i64 rk, .int .i64 rt, .int .i64 rv] 47).new [.int .i64 0, .int .i64 0, .int .i64 0] 47
    have hb0 : Below w.heap.size w (((w.alloc (.cells #[.int .u8 1, .slice A 0 ca, .slice B nb cb, .bool jo, .slice C 0 cc, .int .u8 wk, .int .i64 ws, .int .i64 we, .bool false, .int .u8 la] 27)).alloc (.cells #[.int .i64 rk, .int .i64 rt, .int .i64 rv] 47)).alloc (.cells #[.int .i64 0, .int .i64 0, .int .i64 0] 47)) := below_new (below_new (below_new (Below.refl _ _) _) _) _
    rw [World.size_alloc, World.size_alloc] at hl0
    have hF := hl0
    (repeat unfold Loc at hF)
    go_enter Tryz.func23, Tryz.ntmps23
    go_wp2_with fail
    refine bodyPost_ret (v := _) (by rw [results_cell_tmp Tryz.results23]; go_simp; rfl) rfl ⟨?_, ?_⟩
    ·rfl
    ·exact bel
   ·have hl0 := (((Loc.nil w).new [.int .u8 1, .slice A 0 ca, .slice B nb cb, .bool jo, .slice C 0 cc, .int .u8 wk, .int .i64 ws, .int .i64 we, .bool true, .int .u8 la] 27).new [.int .i64 rk, .int .i64 rt, .int .i64 rv] 47).new [.int .i64 0, .int .i64 0, .int .i64 0] 47
    have hb0 : Below w.heap.size w (((w.alloc (.cells #[.int .u8 1, .slice A 0 ca, .slice B nb cb, .bool jo, .slice C 0 cc, .int .u8 wk, .int .i64 ws, .int .i64 we, .bool true, .int .u8 la] 27)).alloc (.cells #[.int .i64 rk, .int .i64 rt, .int .i64 rv] 47)).alloc (.cells #[.int .i64 0, .int .i64 0, .int .i64 0] 47)) := below_new (below_new (below_new (Below.refl _ _) _) _) _
    rw [World.size_alloc, World.size_alloc] at hl0
    have hF := hl0
    (repeat unfold Loc at hF)
    go_enter Tryz.func23, Tryz.ntmps23
    go_wp2_with fail
    refine bodyPost_ret (v := _) (by rw [results_cell_tmp Tryz.results23]; go_simp; rfl) rfl ⟨?_, ?_⟩
    ·rfl
    ·exact bel
  | some e =>
   have hne : ag ≠ 1 := fun h => by have := hcnt.1 h; cases this
   have hel : e.size = na := by rw [← a1]; exact (flat_len e 0).symm
   have HA := Lib.hid (fun W (hb : Below w.heap.size w W) => evof_any e ⟨(harg e rfl).1, (harg e rfl).2.1⟩ ⟨rk, rt, rv, rd⟩ A ca na W hel (a4.grow hb))
   have e4 : (ag != 1) = true := by simp [hne]
   clear harg a1 a4 hcnt hne hel
   obtain ⟨av, hav⟩ : ∃ v, e.ev ⟨rk, rt, rv, rd⟩ = v := ⟨_, rfl⟩
   simp only [hav] at HA ⊢
   clear hav
   cases ky
   ·have hl0 := (((Loc.nil w).new [.int .u8 ag, .slice A na ca, .slice B nb cb, .bool jo, .slice C 0 cc, .int .u8 wk, .int .i64 ws, .int .i64 we, .bool false, .int .u8 la] 27).new [.int .i64 rk, .int .i64 rt, .int .i64 rv] 47).new [.int .i64 0, .int .i64 0, .int .i64 0] 47
    have hb0 : Below w.heap.size w (((w.alloc (.cells #[.int .u8 ag, .slice A na ca, .slice B nb cb, .bool jo, .slice C 0 cc, .int .u8 wk, .int .i64 ws, .int .i64 we, .bool false, .int .u8 la] 27)).alloc (.cells #[.int .i64 rk, .int .i64 rt, .int .i64 rv] 47)).alloc (.cells #[.int .i64 0, .int .i64 0, .int .i64 0] 47)) := below_new (below_new (below_new (Below.refl _ _) _) _) _
    rw [World.size_alloc, World.size_alloc] at hl0
    have hF := hl0
    (repeat unfold Loc at hF)
    go_enter Tryz.func23, Tryz.ntmps23
    go_wp2_with fail
    go_at_call 32
    refine (HA.out _ (below_new hb0 _)).mono ?_
    rintro y x3 ⟨rfl, hc3⟩
    have hl1 := (hl0.old (.cells #[.int .i64 0, .int .i64 rt, .int .i64 0] 47)).below hc3
    have hl2 := ((Loc.nil (((w.alloc (.cells #[.int .u8 ag, .slice A na ca, .slice B nb cb, .bool jo, .slice C 0 cc, .int .u8 wk, .int .i64 ws, .int .i64 we, .bool false, .int .u8 la] 27)).alloc (.cells #[.int .i64 rk, .int .i64 rt, .int .i64 rv] 47)).alloc (.cells #[.int .i64 0, .int .i64 0, .int .i64 0] 47))).new [.int .i64 0, .int .i64 rt, .int .i64 0] 47).below hc3
    rw [World.size_alloc, World.size_alloc, World.size_alloc] at hl2
    have hb1 := below_then (below_new hb0 _) hc3
    clear hc3 hF hl0 hb0
    have hF := hl1
    (repeat unfold Loc at hF)
    have hF2 := hl2
    (repeat unfold Loc at hF2)
    go_wp2_with fail
    refine bodyPost_ret (v := _) (by rw [results_cell_tmp Tryz.results23]; go_simp; rfl) rfl ⟨?_, ?_⟩
    ·rfl
    ·exact bel
   ·have hl0 := (((Loc.nil w).new [.int .u8 ag, .slice A na ca, .slice B nb cb, .bool jo, .slice C 0 cc, .int .u8 wk, .int .i64 ws, .int .i64 we, .bool true, .int .u8 la] 27).new [.int .i64 rk, .int .i64 rt, .int .i64 rv] 47).new [.int .i64 0, .int .i64 0, .int .i64 0] 47
    have hb0 : Below w.heap.size w (((w.alloc (.cells #[.int .u8 ag, .slice A na ca, .slice B nb cb, .bool jo, .slice C 0 cc, .int .u8 wk, .int .i64 ws, .int .i64 we, .bool true, .int .u8 la] 27)).alloc (.cells #[.int .i64 rk, .int .i64 rt, .int .i64 rv] 47)).alloc (.cells #[.int .i64 0, .int .i64 0, .int .i64 0] 47)) := below_new (below_new (below_new (Below.refl _ _) _) _) _
    rw [World.size_alloc, World.size_alloc] at hl0
    have hF := hl0
    (repeat unfold Loc at hF)
    go_enter Tryz.func23, Tryz.ntmps23
    go_wp2_with fail
    go_at_call 32
    refine (HA.out _ (below_new hb0 _)).mono ?_
    rintro y x3 ⟨rfl, hc3⟩
    have hl1 := (hl0.old (.cells #[.int .i64 rk, .int .i64 rt, .int .i64 0] 47)).below hc3
    have hl2 := ((Loc.nil (((w.alloc (.cells #[.int .u8 ag, .slice A na ca, .slice B nb cb, .bool jo, .slice C 0 cc, .int .u8 wk, .int .i64 ws, .int .i64 we, .bool true, .int .u8 la] 27)).alloc (.cells #[.int .i64 rk, .int .i64 rt, .int .i64 rv] 47)).alloc (.cells #[.int .i64 0, .int .i64 0, .int .i64 0] 47))).new [.int .i64 rk, .int .i64 rt, .int .i64 0] 47).below hc3
    rw [World.size_alloc, World.size_alloc, World.size_alloc] at hl2
    have hb1 := below_then (below_new hb0 _) hc3
    clear hc3 hF hl0 hb0
    have hF := hl1
    (repeat unfold Loc at hF)
    have hF2 := hl2
    (repeat unfold Loc at hF2)
    go_wp2_with fail
    refine bodyPost_ret (v := _) (by rw [results_cell_tmp Tryz.results23]; go_simp; rfl) rfl ⟨?_, ?_⟩
    ·rfl
    ·exact bel
 | some f =>
  have hfl : f.size = nc := by rw [← c1]; exact (flat_len f 0).symm
  have hfp := f.size_pos
  have HC := Lib.hid (fun W (hb : Below w.heap.size w W) => evof_any f ⟨(hwh f rfl).1, (hwh f rfl).2.1⟩ ⟨rk, rt, rv, rd⟩ C cc nc W hfl (c4.grow hb))
  have e3 : decide ((0 : Int) < (nc : Int)) = true := by simp; omega
  have e3' : decide (0 < nc) = true := by simp; omega
  clear hwh c1 c4 hfl hfp
  simp only [cntP]
  obtain ⟨fv, hfv⟩ : ∃ v, f.ev ⟨rk, rt, rv, rd⟩ = v := ⟨_, rfl⟩
  simp only [hfv] at HC ⊢
  clear hfv
  by_cases h0 : fv = 0
  ·subst h0
   rw [if_pos rfl]
   cases arg with
   | none =>
    obtain rfl : ag = 1 := hcnt.2 rfl
    obtain rfl : na = 0 := a1.symm
    clear harg a1 a4 hcnt
    cases ky
    ·have hl0 := (((Loc.nil w).new [.int .u8 1, .slice A 0 ca, .slice B nb cb, .bool jo, .slice C nc cc, .int .u8 wk, .int .i64 ws, .int .i64 we, .bool false, .int .u8 la] 27).new [.int .i64 rk, .int .i64 rt, .int .i64 rv] 47).new [.int .i64 0, .int .i64 0, .int .i64 0] 47
     have hb0 : Below w.heap.size w (((w.alloc (.cells #[.int .u8 1, .slice A 0 ca, .slice B nb cb, .bool jo, .slice C nc cc, .int .u8 wk, .int .i64 ws, .int .i64 we, .bool false, .int .u8 la] 27)).alloc (.cells #[.int .i64 rk, .int .i64 rt, .int .i64 rv] 47)).alloc (.cells #[.int .i64 0, .int .i64 0, .int .i64 0] 47)) := below_new (below_new (below_new (Below.refl _ _) _) _) _
     rw [World.size_alloc, World.size_alloc] at hl0
     have hF := hl0
     (repeat unfold Loc at hF)
     go_enter Tryz.func23, Tryz.ntmps23
     go_wp2_with fail
     go_at_call 32
     refine (HC.out _ hb0).mono ?_
     rintro y x2 ⟨rfl, hc2⟩
     replace hl0 := hl0.below hc2
     replace hb0 := below_then hb0 hc2
     clear hc2 hF
     have hF := hl0
     (repeat unfold Loc at hF)
     go_wp2_with fail
     refine bodyPost_ret (v := _) (by rw [results_cell_tmp Tryz.results23]; go_simp; rfl) rfl ⟨?_, ?_⟩
     ·rfl
     ·exact bel
    ·have hl0 := (((Loc.nil w).new [.int .u8 1, .slice A 0 ca, .slice B nb cb, .bool jo, .slice C nc cc, .int .u8 wk, .int .i64 ws, .int .i64 we, .bool true, .int .u8 la] 27).new [.int .i64 rk, .int .i64 rt, .int .i64 rv] 47).new [.int .i64 0, .int .i64 0, .int .i64 0] 47
     have hb0 : Below w.heap.size w (((w.alloc (.cells #[.int .u8 1, .slice A 0 ca, .slice B nb cb, .bool jo, .slice C nc cc, .int .u8 wk, .int .i64 ws, .int .i64 we, .bool true, .int .u8 la] 27)).alloc (.cells #[.int .i64 rk, .int .i64 rt, .int .i64 rv] 47)).alloc (.cells #[.int .i64 0, .int .i64 0, .int .i64 0] 47)) := below_new (below_new (below_new (Below.refl _ _) _) _) _
     rw [World.size_alloc, World.size_alloc] at hl0
     have hF := hl0
     (repeat unfold Loc at hF)
     go_enter Tryz.func23, Tryz.ntmps23
     go_wp2_with fail
     go_at_call 32
     refine (HC.out _ hb0).mono ?_
     rintro y x2 ⟨rfl, hc2⟩
     replace hl0 := hl0.below hc2
     replace hb0 := below_then hb0 hc2
     clear hc2 hF
     have hF := hl0
     (repeat unfold Loc at hF)
     go_wp2_with fail
     refine bodyPost_ret (v := _) (by rw [results_cell_tmp Tryz.results23]; go_simp; rfl) rfl ⟨?_, ?_⟩
     ·rfl
     ·exact bel
   | some e =>
    have hne : ag ≠ 1 := fun h => by have := hcnt.1 h; cases this
    have hel : e.size = na := by rw [← a1]; exact (flat_len e 0).symm
    have HA := Lib.hid (fun W (hb : Below w.heap.size w W) => evof_any e ⟨(harg e rfl).1, (harg e rfl).2.1⟩ ⟨rk, rt, rv, rd⟩ A ca na W hel (a4.grow hb))
    have e4 : (ag != 1) = true := by simp [hne]
    clear harg a1 a4 hcnt hne hel
    obtain ⟨av, hav⟩ : ∃ v, e.ev ⟨rk, rt, rv, rd⟩ = v := ⟨_, rfl⟩
    simp only [hav] at HA ⊢
    clear hav
    cases ky
    ·have hl0 := (((Loc.nil w).new [.int .u8 ag, .slice A na ca, .slice B nb cb, .bool jo, .slice C nc cc, .int .u8 wk, .int .i64 ws, .int .i64 we, .bool false, .int .u8 la] 27).new [.int .i64 rk, .int .i64 rt, .int .i64 rv] 47).new [.int .i64 0, .int .i64 0, .int .i64 0] 47
     have hb0 : Below w.heap.size w (((w.alloc (.cells #[.int .u8 ag, .slice A na ca, .slice B nb cb, .bool jo, .slice C nc cc, .int .u8 wk, .int .i64 ws, .int .i64 we, .bool false, .int .u8 la] 27)).alloc (.cells #[.int .i64 rk, .int .i64 rt, .int .i64 rv] 47)).alloc (.cells #[.int .i64 0, .int .i64 0, .int .i64 0] 47)) := below_new (below_new (below_new (Below.refl _ _) _) _) _
     rw [World.size_alloc, World.size_alloc] at hl0
     have hF := hl0
     (repeat unfold Loc at hF)
     go_enter Tryz.func23, Tryz.ntmps23
     go_wp2_with fail
     go_at_call 32
     refine (HC.out _ hb0).mono ?_
     rintro y x2 ⟨rfl, hc2⟩
     replace hl0 := hl0.below hc2
     replace hb0 := below_then hb0 hc2
     clear hc2 hF
     have hF := hl0
     (repeat unfold Loc at hF)
     go_wp2_with fail
     refine bodyPost_ret (v := _) (by rw [results_cell_tmp Tryz.results23]; go_simp; rfl) rfl ⟨?_, ?_⟩
     ·rfl
     ·exact bel
    ·have hl0 := (((Loc.nil w).new [.int .u8 ag, .slice A na ca, .slice B nb cb, .bool jo, .slice C nc cc, .int .u8 wk, .int .i64 ws, .int .i64 we, .bool true, .int .u8 la] 27).new [.int .i64 rk, .int .i64 rt, .int .i64 rv] 47).new [.int .i64 0, .int .i64 0, .int .i64 0] 47
     have hb0 : Below w.heap.size w (((w.alloc (.cells #[.int .u8 ag, .slice A na ca, .slice B nb cb, .bool jo, .slice C nc cc, .int .u8 wk, .int .i64 ws, .int .i64 we, .bool true, .int .u8 la] 27)).alloc (.cells #[.int .i64 rk, .int .i64 rt, .int .i64 rv] 47)).alloc (.cells #[.int .i64 0, .int .i64 0, .int .i64 0] 47)) := below_new (below_new (below_new (Below.refl _ _) _) _) _
     rw [World.size_alloc, World.size_alloc] at hl0
     have hF := hl0
     (repeat unfold Loc at hF)
     go_enter Tryz.func23, Tryz.ntmps23
     go_wp2_with fail
     go_at_call 32
     refine (HC.out _ hb0).mono ?_
     rintro y x2 ⟨rfl, hc2⟩
     replace hl0 := hl0.below hc2
     replace hb0 := below_then hb0 hc2
     clear hc2 hF
     have hF := hl0
     (repeat unfold Loc at hF)
     go_wp2_with fail
     refine bodyPost_ret (v := _) (by rw [results_cell_tmp Tryz.results23]; go_simp; rfl) rfl ⟨?_, ?_⟩
     ·rfl
     ·exact bel
  ·rw [if_neg h0]
   have e5 : (fv == 0) = false := by simp [h0]
   clear h0
   cases arg with
   | none =>
    obtain rfl : ag = 1 := hcnt.2 rfl
    obtain rfl : na = 0 := a1.symm
    clear harg a1 a4 hcnt
    cases ky
    ·have hl0 := (((Loc.nil w).new [.int .u8 1, .slice A 0 ca, .slice B nb cb, .bool jo, .slice C nc cc, .int .u8 wk, .int .i64 ws, .int .i64 we, .bool false, .int .u8 la] 27).new [.int .i64 rk, .int .i64 rt, .int .i64 rv] 47).new [.int .i64 0, .int .i64 0, .int .i64 0] 47
     have hb0 : Below w.heap.size w (((w.alloc (.cells #[.int .u8 1, .slice A 0 ca, .slice B nb cb, .bool jo, .slice C nc cc, .int .u8 wk, .int .i64 ws, .int .i64 we, .bool false, .int .u8 la] 27)).alloc (.cells #[.int .i64 rk, .int .i64 rt, .int .i64 rv] 47)).alloc (.cells #[.int .i64 0, .int .i64 0, .int .i64 0] 47)) := below_new (below_new (below_new (Below.refl _ _) _) _) _
     rw [World.size_alloc, World.size_alloc] at hl0
     have hF := hl0
     (repeat unfold Loc at hF)
     go_enter Tryz.func23, Tryz.ntmps23
     go_wp2_with fail
     go_at_call 32
     refine (HC.out _ hb0).mono ?_
     rintro y x2 ⟨rfl, hc2⟩
     replace hl0 := hl0.below hc2
     replace hb0 := below_then hb0 hc2
     clear hc2 hF
     have hF := hl0
     (repeat unfold Loc at hF)
     go_wp2_with fail
     refine bodyPost_ret (v := _) (by rw [results_cell_tmp Tryz.results23]; go_simp; rfl) rfl ⟨?_, ?_⟩
     ·rfl
     ·exact bel
    ·have hl0 := (((Loc.nil w).new [.int .u8 1, .slice A 0 ca, .slice B nb cb, .bool jo, .slice C nc cc, .int .u8 wk, .int .i64 ws, .int .i64 we, .bool true, .int .u8 la] 27).new [.int .i64 rk, .int .i64 rt, .int .i64 rv] 47).new [.int .i64 0, .int .i64 0, .int .i64 0] 47
     have hb0 : Below w.heap.size w (((w.alloc (.cells #[.int .u8 1, .slice A 0 ca, .slice B nb cb, .bool jo, .slice C nc cc, .int .u8 wk, .int .i64 ws, .int .i64 we, .bool true, .int .u8 la] 27)).alloc (.cells #[.int .i64 rk, .int .i64 rt, .int .i64 rv] 47)).alloc (.cells #[.int .i64 0, .int .i64 0, .int .i64 0] 47)) := below_new (below_new (below_new (Below.refl _ _) _) _) _
     rw [World.size_alloc, World.size_alloc] at hl0
     have hF := hl0
     (repeat unfold Loc at hF)
     go_enter Tryz.func23, Tryz.ntmps23
     go_wp2_with fail
     go_at_call 32
     refine (HC.out _ hb0).mono ?_
     rintro y x2 ⟨rfl, hc2⟩
     replace hl0 := hl0.below hc2
     replace hb0 := below_then hb0 hc2
     clear hc2 hF
     have hF := hl0
     (repeat unfold Loc at hF)
     go_wp2_with fail
     refine bodyPost_ret (v := _) (by rw [results_cell_tmp Tryz.results23]; go_simp; rfl) rfl ⟨?_, ?_⟩
     ·rfl
     ·exact bel
   | some e =>
    have hne : ag ≠ 1 := fun h => by have := hcnt.1 h; cases this
    have hel : e.size = na := by rw [← a1]; exact (flat_len e 0).symm
    have HA := Lib.hid (fun W (hb : Below w.heap.size w W) => evof_any e ⟨(harg e rfl).1, (harg e rfl).2.1⟩ ⟨rk, rt, rv, rd⟩ A ca na W hel (a4.grow hb))
    have e4 : (ag != 1) = true := by simp [hne]
    clear harg a1 a4 hcnt hne hel
    obtain ⟨av, hav⟩ : ∃ v, e.ev ⟨rk, rt, rv, rd⟩ = v := ⟨_, rfl⟩
    simp only [hav] at HA ⊢
    clear hav
    cases ky
    ·have hl0 := (((Loc.nil w).new [.int .u8 ag, .slice A na ca, .slice B nb cb, .bool jo, .slice C nc cc, .int .u8 wk, .int .i64 ws, .int .i64 we, .bool false, .int .u8 la] 27).new [.int .i64 rk, .int .i64 rt, .int .i64 rv] 47).new [.int .i64 0, .int .i64 0, .int .i64 0] 47
     have hb0 : Below w.heap.size w (((w.alloc (.cells #[.int .u8 ag, .slice A na ca, .slice B nb cb, .bool jo, .slice C nc cc, .int .u8 wk, .int .i64 ws, .int .i64 we, .bool false, .int .u8 la] 27)).alloc (.cells #[.int .i64 rk, .int .i64 rt, .int .i64 rv] 47)).alloc (.cells #[.int .i64 0, .int .i64 0, .int .i64 0] 47)) := below_new (below_new (below_new (Below.refl _ _) _) _) _
     rw [World.size_alloc, World.size_alloc] at hl0
     have hF := hl0
     (repeat unfold Loc at hF)
     go_enter Tryz.func23, Tryz.ntmps23
     go_wp2_with fail
     go_at_call 32
     refine (HC.out _ hb0).mono ?_
     rintro y x2 ⟨rfl, hc2⟩
     replace hl0 := hl0.below hc2
     replace hb0 := below_then hb0 hc2
     clear hc2 hF
     have hF := hl0
     (repeat unfold Loc at hF)
     go_wp2_with fail
     go_at_call 32
     refine (HA.out _ (below_new hb0 _)).mono ?_
     rintro y x3 ⟨rfl, hc3⟩
     have hl1 := (hl0.old (.cells #[.int .i64 0, .int .i64 rt, .int .i64 0] 47)).below hc3
     have hl2 := ((Loc.nil x2).new [.int .i64 0, .int .i64 rt, .int .i64 0] 47).below hc3
     have hz1 : w.heap.size + 1 + 1 < x2.heap.size := hl0.1
     have hz2 : ¬ w.heap.size + 1 + 1 = x2.heap.size := by omega
     have hz3 : ¬ x2.heap.size = w.heap.size + 1 + 1 := by omega
     have hz4 := Nat.ne_of_lt hz1
     have hz5 := Nat.ne_of_gt hz1
     have hb1 := below_then (below_new hb0 _) hc3
     clear hc3 hF hl0 hb0
     have hF := hl1
     (repeat unfold Loc at hF)
     have hF2 := hl2
     (repeat unfold Loc at hF2)
     go_wp2_with fail
     refine bodyPost_ret (v := _) (by rw [results_cell_tmp Tryz.results23]; go_simp; rfl) rfl ⟨?_, ?_⟩
     ·rfl
     ·exact bel
    ·have hl0 := (((Loc.nil w).new [.int .u8 ag, .slice A na ca, .slice B nb cb, .bool jo, .slice C nc cc, .int .u8 wk, .int .i64 ws, .int .i64 we, .bool true, .int .u8 la] 27).new [.int .i64 rk, .int .i64 rt, .int .i64 rv] 47).new [.int .i64 0, .int .i64 0, .int .i64 0] 47
     have hb0 : Below w.heap.size w (((w.alloc (.cells #[.int .u8 ag, .slice A na ca, .slice B nb cb, .bool jo, .slice C nc cc, .int .u8 wk, .int .i64 ws, .int .i64 we, .bool true, .int .u8 la] 27)).alloc (.cells #[.int .i64 rk, .int .i64 rt, .int .i64 rv] 47)).alloc (.cells #[.int .i64 0, .int .i64 0, .int .i64 0] 47)) := below_new (below_new (below_new (Below.refl _ _) _) _) _
     rw [World.size_alloc, World.size_alloc] at hl0
     have hF := hl0
     (repeat unfold Loc at hF)
     go_enter Tryz.func23, Tryz.ntmps23
     go_wp2_with fail
     go_at_call 32
     refine (HC.out _ hb0).mono ?_
     rintro y x2 ⟨rfl, hc2⟩
     replace hl0 := hl0.below hc2
     replace hb0 := below_then hb0 hc2
     clear hc2 hF
     have hF := hl0
     (repeat unfold Loc at hF)
     go_wp2_with fail
     go_at_call 32
     refine (HA.out _ (below_new hb0 _)).mono ?_
     rintro y x3 ⟨rfl, hc3⟩
     have hl1 := (hl0.old (.cells #[.int .i64 rk, .int .i64 rt, .int .i64 0] 47)).below hc3
     have hl2 := ((Loc.nil x2).new [.int .i64 rk, .int .i64 rt, .int .i64 0] 47).below hc3
     have hz1 : w.heap.size + 1 + 1 < x2.heap.size := hl0.1
     have hz2 : ¬ w.heap.size + 1 + 1 = x2.heap.size := by omega
     have hz3 : ¬ x2.heap.size = w.heap.size + 1 + 1 := by omega
     have hz4 := Nat.ne_of_lt hz1
     have hz5 := Nat.ne_of_gt hz1
     have hb1 := below_then (below_new hb0 _) hc3
     clear hc3 hF hl0 hb0
     have hF := hl1
     (repeat unfold Loc at hF)
     have hF2 := hl2
     (repeat unfold Loc at hF2)
     go_wp2_with fail
     refine bodyPost_ret (v := _) (by rw [results_cell_tmp Tryz.results23]; go_simp; rfl) rfl ⟨?_, ?_⟩
     ·rfl
     ·exact bel
/-- A slice that holds something lies in a new block. -/
def NewB {α : Type} (base : Nat) (A : Option Addr) (l : List α) : Prop := l ≠ [] → ∀ ad, A = some ad → base ≤ ad.block
theorem newB_own {α : Type} {enc : α → List Value} {sz : Nat} {w : World} {base base' : Nat} {e : TypeId} {A : Option Addr} {n c : Nat} {l : List α} (h : Own enc sz w base e (.slice A n c) l) (hb : base' ≤ base) : NewB base' A l := fun _ ad had => by
 subst had
 rcases h.2 with ⟨e1, _⟩ | ⟨g, cap, cur, e1, hg, _⟩
 ·cases e1
 ·simp only [Value.slice.injEq, Option.some.injEq] at e1
  rw [e1.1]; exact Nat.le_trans hb hg
def QRdN (base : Nat) (w : World) (q : Qy) (A B C : Option Addr) (na ca nb cb nc cc : Nat) : Prop := QRd w q A B C na ca nb cb nc cc ∧ NewB base A (opl q.arg) ∧ NewB base B q.src ∧ NewB base C (opl q.wh)
/-- A query by value that reads as q, all of it new. -/
def QRes (base : Nat) (q : Qy) (v : Value) (w : World) : Prop := ∃ A B C na ca nb cb nc cc, v = .agg #[.int .u8 q.ag, .slice A na ca, .slice B nb cb, .bool q.jo, .slice C nc cc, .int .u8 q.wk, .int .i64 q.ws, .int .i64 q.we, .bool q.ky, .int .u8 q.la] ∧ QRdN base w q A B C na ca nb cb nc cc
def TwinP (q : Qy) (w : World) (r : Ending) (w' : World) : Prop := ∃ v, r = .returned v ∧ QRes w.heap.size q v w' ∧ Below w.heap.size w w'
end Go.Proofs.YtnljihjhmgpcoaaGreat
