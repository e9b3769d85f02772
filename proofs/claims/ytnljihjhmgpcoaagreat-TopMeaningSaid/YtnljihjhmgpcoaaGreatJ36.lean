/- Lemmas and contracts for the statement, joined into one text: TopCounts. The conditions of each stand at its head. -/
import Derived.Test.YtnljihjhmgpcoaaGreatJ1
import Derived.Test.YtnljihjhmgpcoaaGreatJ35
namespace Go.Proofs.YtnljihjhmgpcoaaGreat
open Go.RowKit Go.ChangeShapes Go.WideShapes Go.ChangeAt Go.Deep
set_option maxHeartbeats 16000000 in
set_option maxRecDepth 100000 in
theorem tcounts_any (q : Qy) (hq : q.good) (r : Pt) (A B C : Option Addr) (na ca nb cb nc cc : Nat) (w : World) (h : QRd w q A B C na ca nb cb nc cc) :
  Calls Tryz.prog 14 #[.agg #[.int .u8 q.ag, .slice A na ca, .slice B nb cb, .bool q.jo, .slice C nc cc, .int .u8 q.wk, .int .i64 q.ws, .int .i64 q.we, .bool q.ky, .int .u8 q.la], .agg #[.int .i64 r.k, .int .i64 r.t, .int .i64 r.v]] w (CntP (cntP q r) w) := by
 obtain ⟨⟨a1, -, -, a4⟩, -, ⟨c1, -, -, c4⟩⟩ := h
 obtain ⟨hag, hla, hcnt, harg, hwh, hsrc, htwo, hwin, htum⟩ := hq
 obtain ⟨ag, arg, src, jo, wh, wk, ws, we, ky, la⟩ := q
 obtain ⟨rk, rt, rv, rd⟩ := r
 simp only at a1 a4 c1 c4 hag hla hcnt harg hwh hsrc htwo hwin htum
 dsimp only
 clear hag hla hsrc htwo hwin htum
 cases wh with
 | none =>
  obtain rfl : nc = 0 := c1.symm
  clear hwh c1 c4
  simp only [cntP]
  cases arg with
  | none =>
   obtain rfl : ag = 1 := hcnt.2 rfl
   obtain rfl : na = 0 := a1.symm
   clear harg a1 a4 hcnt
   cases ky
   ·have hl0 := (((Loc.nil w).new [.int .u8 1, .slice A 0 ca, .slice B nb cb, .bool jo, .slice C 0 cc, .int .u8 wk, .int .i64 ws, .int .i64 we, .bool false, .int .u8 la] 27).new [.int .i64 rk, .int .i64 rt, .int .i64 rv] 47).new [.int .i64 0, .int .i64 0, .int .i64 0] 47
    have hb0 : Below w.heap.size w (((w.alloc (.cells #[.int .u8 1, .slice A 0 ca, .slice B nb cb, .bool jo, .slice C 0 cc, .int .u8 wk, .int .i64 ws, .int .i64 we, .bool false, .int .u8 la] 27)).alloc (.cells #[.int .i64 rk, .int .i64 rt, .int .i64 rv] 47)).alloc (.cells #[.int .i64 0, .int .i64 0, .int .i64 0] 47)) := below_new (below_new (below_new (Below.refl _ _) _) _) _
    rw [World.size_alloc, World.size_alloc] at hl0
    have hF := hl0
    (repeat unfold Loc at hF)
    go_enter Tryz.func14, Tryz.ntmps14
    go_wp2_with fail
    refine bodyPost_ret (v := _) (by rw [results_cell_tmp Tryz.results14]; go_simp; rfl) rfl ⟨?_, ?_⟩
    ·rfl
    ·exact bel
   ·have hl0 := (((Loc.nil w).new [.int .u8 1, .slice A 0 ca, .slice B nb cb, .bool jo, .slice C 0 cc, .int .u8 wk, .int .i64 ws, .int .i64 we, .bool true, .int .u8 la] 27).new [.int .i64 rk, .int .i64 rt, .int .i64 rv] 47).new [.int .i64 0, .int .i64 0, .int .i64 0] 47
    have hb0 : Below w.heap.size w (((w.alloc (.cells #[.int .u8 1, .slice A 0 ca, .slice B nb cb, .bool jo, .slice C 0 cc, .int .u8 wk, .int .i64 ws, .int .i64 we, .bool true, .int .u8 la] 27)).alloc (.cells #[.int .i64 rk, .int .i64 rt, .int .i64 rv] 47)).alloc (.cells #[.int .i64 0, .int .i64 0, .int .i64 0] 47)) := below_new (below_new (below_new (Below.refl _ _) _) _) _
    rw [World.size_alloc, World.size_alloc] at hl0
    have hF := hl0
    (repeat unfold Loc at hF)
    go_enter Tryz.func14, Tryz.ntmps14
    go_wp2_with fail
    refine bodyPost_ret (v := _) (by rw [results_cell_tmp Tryz.results14]; go_simp; rfl) rfl ⟨?_, ?_⟩
    ·rfl
    ·exact bel
  | some e =>
   have hne : ag ≠ 1 := fun h => by have := hcnt.1 h; cases this
   have hel : e.size = na := by rw [← a1]; exact (flat_len e 0).symm
   have HA := Lib.hid (fun W (hb : Below w.heap.size w W) => evof_any e ⟨(harg e rfl).1, (harg e rfl).2.1⟩ ⟨rk, rt, rv, rd⟩ A ca na W hel (a4.grow hb))
   have e4 : (ag != 1) = true := by simp [hne]
   clear harg a1 a4 hcnt hne hel
   obtain ⟨av, hav⟩ : ∃ v, e.ev ⟨rk, rt, rv, rd⟩ = v := ⟨_, rfl⟩
   simp only [hav] at HA ⊢
   clear hav
   cases ky
   ·have hl0 := (((Loc.nil w).new [.int .u8 ag, .slice A na ca, .slice B nb cb, .bool jo, .slice C 0 cc, .int .u8 wk, .int .i64 ws, .int .i64 we, .bool false, .int .u8 la] 27).new [.int .i64 rk, .int .i64 rt, .int .i64 rv] 47).new [.int .i64 0, .int .i64 0, .int .i64 0] 47
    have hb0 : Below w.heap.size w (((w.alloc (.cells #[.int .u8 ag, .slice A na ca, .slice B nb cb, .bool jo, .slice C 0 cc, .int .u8 wk, .int .i64 ws, .int .i64 we, .bool false, .int .u8 la] 27)).alloc (.cells #[.int .i64 rk, .int .i64 rt, .int .i64 rv] 47)).alloc (.cells #[.int .i64 0, .int .i64 0, .int .i64 0] 47)) := below_new (below_new (below_new (Below.refl _ _) _) _) _
    rw [World.size_alloc, World.size_alloc] at hl0
    have hF := hl0
    (repeat unfold Loc at hF)
    go_enter Tryz.func14, Tryz.ntmps14
    go_wp2_with fail
    go_at_call 32
    refine (HA.out _ (below_new hb0 _)).mono ?_
    rintro y x3 ⟨rfl, hc3⟩
    have hl1 := (hl0.old (.cells #[.int .i64 0, .int .i64 rt, .int .i64 0] 47)).below hc3
    have hl2 := ((Loc.nil (((w.alloc (.cells #[.int .u8 ag, .slice A na ca, .slice B nb cb, .bool jo, .slice C 0 cc, .int .u8 wk, .int .i64 ws, .int .i64 we, .bool false, .int .u8 la] 27)).alloc (.cells #[.int .i64 rk, .int .i64 rt, .int .i64 rv] 47)).alloc (.cells #[.int .i64 0, .int .i64 0, .int .i64 0] 47))).new [.int .i64 0, .int .i64 rt, .int .i64 0] 47).below hc3
    rw [World.size_alloc, World.size_alloc, World.size_alloc] at hl2
    have hb1 := below_then (below_new hb0 _) hc3
    clear hc3 hF hl0 hb0
    have hF := hl1
    (repeat unfold Loc at hF)
    have hF2 := hl2
    (repeat unfold Loc at hF2)
    go_wp2_with fail
    refine bodyPost_ret (v := _) (by rw [results_cell_tmp Tryz.results14]; go_simp; rfl) rfl ⟨?_, ?_⟩
    ·rfl
    ·exact bel
   ·have hl0 := (((Loc.nil w).new [.int .u8 ag, .slice A na ca, .slice B nb cb, .bool jo, .slice C 0 cc, .int .u8 wk, .int .i64 ws, .int .i64 we, .bool true, .int .u8 la] 27).new [.int .i64 rk, .int .i64 rt, .int .i64 rv] 47).new [.int .i64 0, .int .i64 0, .int .i64 0] 47
    have hb0 : Below w.heap.size w (((w.alloc (.cells #[.int .u8 ag, .slice A na ca, .slice B nb cb, .bool jo, .slice C 0 cc, .int .u8 wk, .int .i64 ws, .int .i64 we, .bool true, .int .u8 la] 27)).alloc (.cells #[.int .i64 rk, .int .i64 rt, .int .i64 rv] 47)).alloc (.cells #[.int .i64 0, .int .i64 0, .int .i64 0] 47)) := below_new (below_new (below_new (Below.refl _ _) _) _) _
    rw [World.size_alloc, World.size_alloc] at hl0
    have hF := hl0
    (repeat unfold Loc at hF)
    go_enter Tryz.func14, Tryz.ntmps14
    go_wp2_with fail
    go_at_call 32
    refine (HA.out _ (below_new hb0 _)).mono ?_
    rintro y x3 ⟨rfl, hc3⟩
    have hl1 := (hl0.old (.cells #[.int .i64 rk, .int .i64 rt, .int .i64 0] 47)).below hc3
    have hl2 := ((Loc.nil (((w.alloc (.cells #[.int .u8 ag, .slice A na ca, .slice B nb cb, .bool jo, .slice C 0 cc, .int .u8 wk, .int .i64 ws, .int .i64 we, .bool true, .int .u8 la] 27)).alloc (.cells #[.int .i64 rk, .int .i64 rt, .int .i64 rv] 47)).alloc (.cells #[.int .i64 0, .int .i64 0, .int .i64 0] 47))).new [.int .i64 rk, .int .i64 rt, .int .i64 0] 47).below hc3
    rw [World.size_alloc, World.size_alloc, World.size_alloc] at hl2
    have hb1 := below_then (below_new hb0 _) hc3
    clear hc3 hF hl0 hb0
    have hF := hl1
    (repeat unfold Loc at hF)
    have hF2 := hl2
    (repeat unfold Loc at hF2)
    go_wp2_with fail
    refine bodyPost_ret (v := _) (by rw [results_cell_tmp Tryz.results14]; go_simp; rfl) rfl ⟨?_, ?_⟩
    ·rfl
    ·exact bel
 | some f =>
  have hfl : f.size = nc := by rw [← c1]; exact (flat_len f 0).symm
  have hfp := f.size_pos
  have HC := Lib.hid (fun W (hb : Below w.heap.size w W) => evof_any f ⟨(hwh f rfl).1, (hwh f rfl).2.1⟩ ⟨rk, rt, rv, rd⟩ C cc nc W hfl (c4.grow hb))
  have e3 : decide ((0 : Int) < (nc : Int)) = true := by simp; omega
  have e3' : decide (0 < nc) = true := by simp; omega
  clear hwh c1 c4 hfl hfp
  simp only [cntP]
  obtain ⟨fv, hfv⟩ : ∃ v, f.ev ⟨rk, rt, rv, rd⟩ = v := ⟨_, rfl⟩
  simp only [hfv] at HC ⊢
  clear hfv
  by_cases h0 : fv = 0
  ·subst h0
   rw [if_pos rfl]
   cases arg with
   | none =>
    obtain rfl : ag = 1 := hcnt.2 rfl
    obtain rfl : na = 0 := a1.symm
    clear harg a1 a4 hcnt
    cases ky
    ·have hl0 := (((Loc.nil w).new [.int .u8 1, .slice A 0 ca, .slice B nb cb, .bool jo, .slice C nc cc, .int .u8 wk, .int .i64 ws, .int .i64 we, .bool false, .int .u8 la] 27).new [.int .i64 rk, .int .i64 rt, .int .i64 rv] 47).new [.int .i64 0, .int .i64 0, .int .i64 0] 47
     have hb0 : Below w.heap.size w (((w.alloc (.cells #[.int .u8 1, .slice A 0 ca, .slice B nb cb, .bool jo, .slice C nc cc, .int .u8 wk, .int .i64 ws, .int .i64 we, .bool false, .int .u8 la] 27)).alloc (.cells #[.int .i64 rk, .int .i64 rt, .int .i64 rv] 47)).alloc (.cells #[.int .i64 0, .int .i64 0, .int .i64 0] 47)) := below_new (below_new (below_new (Below.refl _ _) _) _) _
     rw [World.size_alloc, World.size_alloc] at hl0
     have hF := hl0
     (repeat unfold Loc at hF)
     go_enter Tryz.func14, Tryz.ntmps14
     go_wp2_with fail
     go_at_call 32
     refine (HC.out _ hb0).mono ?_
     rintro y x2 ⟨rfl, hc2⟩
     replace hl0 := hl0.below hc2
     replace hb0 := below_then hb0 hc2
     clear hc2 hF
     have hF := hl0
     (repeat unfold Loc at hF)
     go_wp2_with fail
     refine bodyPost_ret (v := _) (by rw [results_cell_tmp Tryz.results14]; go_simp; rfl) rfl ⟨?_, ?_⟩
     ·rfl
     ·exact bel
    ·have hl0 := (((Loc.nil w).new [.int .u8 1, .slice A 0 ca, .slice B nb cb, .bool jo, .slice C nc cc, .int .u8 wk, .int .i64 ws, .int .i64 we, .bool true, .int .u8 la] 27).new [.int .i64 rk, .int .i64 rt, .int .i64 rv] 47).new [.int .i64 0, .int .i64 0, .int .i64 0] 47
     have hb0 : Below w.heap.size w (((w.alloc (.cells #[.int .u8 1, .slice A 0 ca, .slice B nb cb, .bool jo, .slice C nc cc, .int .u8 wk, .int .i64 ws, .int .i64 we, .bool true, .int .u8 la] 27)).alloc (.cells #[.int .i64 rk, .int .i64 rt, .int .i64 rv] 47)).alloc (.cells #[.int .i64 0, .int .i64 0, .int .i64 0] 47)) := below_new (below_new (below_new (Below.refl _ _) _) _) _
     rw [World.size_alloc, World.size_alloc] at hl0
     have hF := hl0
     (repeat unfold Loc at hF)
     go_enter Tryz.func14, Tryz.ntmps14
     go_wp2_with fail
     go_at_call 32
     refine (HC.out _ hb0).mono ?_
     rintro y x2 ⟨rfl, hc2⟩
     replace hl0 := hl0.below hc2
     replace hb0 := below_then hb0 hc2
     clear hc2 hF
     have hF := hl0
     (repeat unfold Loc at hF)
     go_wp2_with fail
     refine bodyPost_ret (v := _) (by rw [results_cell_tmp Tryz.results14]; go_simp; rfl) rfl ⟨?_, ?_⟩
     ·rfl
     ·exact bel
   | some e =>
    have hne : ag ≠ 1 := fun h => by have := hcnt.1 h; cases this
    have hel : e.size = na := by rw [← a1]; exact (flat_len e 0).symm
    have HA := Lib.hid (fun W (hb : Below w.heap.size w W) => evof_any e ⟨(harg e rfl).1, (harg e rfl).2.1⟩ ⟨rk, rt, rv, rd⟩ A ca na W hel (a4.grow hb))
    have e4 : (ag != 1) = true := by simp [hne]
    clear harg a1 a4 hcnt hne hel
    obtain ⟨av, hav⟩ : ∃ v, e.ev ⟨rk, rt, rv, rd⟩ = v := ⟨_, rfl⟩
    simp only [hav] at HA ⊢
    clear hav
    cases ky
    ·have hl0 := (((Loc.nil w).new [.int .u8 ag, .slice A na ca, .slice B nb cb, .bool jo, .slice C nc cc, .int .u8 wk, .int .i64 ws, .int .i64 we, .bool false, .int .u8 la] 27).new [.int .i64 rk, .int .i64 rt, .int .i64 rv] 47).new [.int .i64 0, .int .i64 0, .int .i64 0] 47
     have hb0 : Below w.heap.size w (((w.alloc (.cells #[.int .u8 ag, .slice A na ca, .slice B nb cb, .bool jo, .slice C nc cc, .int .u8 wk, .int .i64 ws, .int .i64 we, .bool false, .int .u8 la] 27)).alloc (.cells #[.int .i64 rk, .int .i64 rt, .int .i64 rv] 47)).alloc (.cells #[.int .i64 0, .int .i64 0, .int .i64 0] 47)) := below_new (below_new (below_new (Below.refl _ _) _) _) _
     rw [World.size_alloc, World.size_alloc] at hl0
     have hF := hl0
     (repeat unfold Loc at hF)
     go_enter Tryz.func14, Tryz.ntmps14
     go_wp2_with fail
     go_at_call 32
     refine (HC.out _ hb0).mono ?_
     rintro y x2 ⟨rfl, hc2⟩
     replace hl0 := hl0.below hc2
     replace hb0 := below_then hb0 hc2
     clear hc2 hF
     have hF := hl0
     (repeat unfold Loc at hF)
     go_wp2_with fail
     refine bodyPost_ret (v := _) (by rw [results_cell_tmp Tryz.results14]; go_simp; rfl) rfl ⟨?_, ?_⟩
     ·rfl
     ·exact bel
    ·have hl0 := (((Loc.nil w).new [.int .u8 ag, .slice A na ca, .slice B nb cb, .bool jo, .slice C nc cc, .int .u8 wk, .int .i64 ws, .int .i64 we, .bool true, .int .u8 la] 27).new [.int .i64 rk, .int .i64 rt, .int .i64 rv] 47).new [.int .i64 0, .int .i64 0, .int .i64 0] 47
     have hb0 : Below w.heap.size w (((w.alloc (.cells #[.int .u8 ag, .slice A na ca, .slice B nb cb, .bool jo, .slice C nc cc, .int .u8 wk, .int .i64 ws, .int .i64 we, .bool true, .int .u8 la] 27)).alloc (.cells #[.int .i64 rk, .int .i64 rt, .int .i64 rv] 47)).alloc (.cells #[.int .i64 0, .int .i64 0, .int .i64 0] 47)) := below_new (below_new (below_new (Below.refl _ _) _) _) _
     rw [World.size_alloc, World.size_alloc] at hl0
     have hF := hl0
     (repeat unfold Loc at hF)
     go_enter Tryz.func14, Tryz.ntmps14
     go_wp2_with fail
     go_at_call 32
     refine (HC.out _ hb0).mono ?_
     rintro y x2 ⟨rfl, hc2⟩
     replace hl0 := hl0.below hc2
     replace hb0 := below_then hb0 hc2
     clear hc2 hF
     have hF := hl0
     (repeat unfold Loc at hF)
     go_wp2_with fail
     refine bodyPost_ret (v := _) (by rw [results_cell_tmp Tryz.results14]; go_simp; rfl) rfl ⟨?_, ?_⟩
     ·rfl
     ·exact bel
  ·rw [if_neg h0]
   have e5 : (fv == 0) = false := by simp [h0]
   clear h0
   cases arg with
   | none =>
    obtain rfl : ag = 1 := hcnt.2 rfl
    obtain rfl : na = 0 := a1.symm
    clear harg a1 a4 hcnt
    cases ky
    ·have hl0 := (((Loc.nil w).new [.int .u8 1, .slice A 0 ca, .slice B nb cb, .bool jo, .slice C nc cc, .int .u8 wk, .int .i64 ws, .int .i64 we, .bool false, .int .u8 la] 27).new [.int .i64 rk, .int .i64 rt, .int .i64 rv] 47).new [.int .i64 0, .int .i64 0, .int .i64 0] 47
     have hb0 : Below w.heap.size w (((w.alloc (.cells #[.int .u8 1, .slice A 0 ca, .slice B nb cb, .bool jo, .slice C nc cc, .int .u8 wk, .int .i64 ws, .int .i64 we, .bool false, .int .u8 la] 27)).alloc (.cells #[.int .i64 rk, .int .i64 rt, .int .i64 rv] 47)).alloc (.cells #[.int .i64 0, .int .i64 0, .int .i64 0] 47)) := below_new (below_new (below_new (Below.refl _ _) _) _) _
     rw [World.size_alloc, World.size_alloc] at hl0
     have hF := hl0
     (repeat unfold Loc at hF)
     go_enter Tryz.func14, Tryz.ntmps14
     go_wp2_with fail
     go_at_call 32
     refine (HC.out _ hb0).mono ?_
     rintro y x2 ⟨rfl, hc2⟩
     replace hl0 := hl0.below hc2
     replace hb0 := below_then hb0 hc2
     clear hc2 hF
     have hF := hl0
     (repeat unfold Loc at hF)
     go_wp2_with fail
     refine bodyPost_ret (v := _) (by rw [results_cell_tmp Tryz.results14]; go_simp; rfl) rfl ⟨?_, ?_⟩
     ·rfl
     ·exact bel
    ·have hl0 := (((Loc.nil w).new [.int .u8 1, .slice A 0 ca, .slice B nb cb, .bool jo, .slice C nc cc, .int .u8 wk, .int .i64 ws, .int .i64 we, .bool true, .int .u8 la] 27).new [.int .i64 rk, .int .i64 rt, .int .i64 rv] 47).new [.int .i64 0, .int .i64 0, .int .i64 0] 47
     have hb0 : Below w.heap.size w (((w.alloc (.cells #[.int .u8 1, .slice A 0 ca, .slice B nb cb, .bool jo, .slice C nc cc, .int .u8 wk, .int .i64 ws, .int .i64 we, .bool true, .int .u8 la] 27)).alloc (.cells #[.int .i64 rk, .int .i64 rt, .int .i64 rv] 47)).alloc (.cells #[.int .i64 0, .int .i64 0, .int .i64 0] 47)) := below_new (below_new (below_new (Below.refl _ _) _) _) _
     rw [World.size_alloc, World.size_alloc] at hl0
     have hF := hl0
     (repeat unfold Loc at hF)
     go_enter Tryz.func14, Tryz.ntmps14
     go_wp2_with fail
     go_at_call 32
     refine (HC.out _ hb0).mono ?_
     rintro y x2 ⟨rfl, hc2⟩
     replace hl0 := hl0.below hc2
     replace hb0 := below_then hb0 hc2
     clear hc2 hF
     have hF := hl0
     (repeat unfold Loc at hF)
     go_wp2_with fail
     refine bodyPost_ret (v := _) (by rw [results_cell_tmp Tryz.results14]; go_simp; rfl) rfl ⟨?_, ?_⟩
     ·rfl
     ·exact bel
   | some e =>
    have hne : ag ≠ 1 := fun h => by have := hcnt.1 h; cases this
    have hel : e.size = na := by rw [← a1]; exact (flat_len e 0).symm
    have HA := Lib.hid (fun W (hb : Below w.heap.size w W) => evof_any e ⟨(harg e rfl).1, (harg e rfl).2.1⟩ ⟨rk, rt, rv, rd⟩ A ca na W hel (a4.grow hb))
    have e4 : (ag != 1) = true := by simp [hne]
    clear harg a1 a4 hcnt hne hel
    obtain ⟨av, hav⟩ : ∃ v, e.ev ⟨rk, rt, rv, rd⟩ = v := ⟨_, rfl⟩
    simp only [hav] at HA ⊢
    clear hav
    cases ky
    ·have hl0 := (((Loc.nil w).new [.int .u8 ag, .slice A na ca, .slice B nb cb, .bool jo, .slice C nc cc, .int .u8 wk, .int .i64 ws, .int .i64 we, .bool false, .int .u8 la] 27).new [.int .i64 rk, .int .i64 rt, .int .i64 rv] 47).new [.int .i64 0, .int .i64 0, .int .i64 0] 47
     have hb0 : Below w.heap.size w (((w.alloc (.cells #[.int .u8 ag, .slice A na ca, .slice B nb cb, .bool jo, .slice C nc cc, .int .u8 wk, .int .i64 ws, .int .i64 we, .bool false, .int .u8 la] 27)).alloc (.cells #[.int .i64 rk, .int .i64 rt, .int .i64 rv] 47)).alloc (.cells #[.int .i64 0, .int .i64 0, .int .i64 0] 47)) := below_new (below_new (below_new (Below.refl _ _) _) _) _
     rw [World.size_alloc, World.size_alloc] at hl0
     have hF := hl0
     (repeat unfold Loc at hF)
     go_enter Tryz.func14, Tryz.ntmps14
     go_wp2_with fail
     go_at_call 32
     refine (HC.out _ hb0).mono ?_
     rintro y x2 ⟨rfl, hc2⟩
     replace hl0 := hl0.below hc2
     replace hb0 := below_then hb0 hc2
     clear hc2 hF
     have hF := hl0
     (repeat unfold Loc at hF)
     go_wp2_with fail
     go_at_call 32
     refine (HA.out _ (below_new hb0 _)).mono ?_
     rintro y x3 ⟨rfl, hc3⟩
     have hl1 := (hl0.old (.cells #[.int .i64 0, .int .i64 rt, .int .i64 0] 47)).below hc3
     have hl2 := ((Loc.nil x2).new [.int .i64 0, .int .i64 rt, .int .i64 0] 47).below hc3
     have hz1 : w.heap.size + 1 + 1 < x2.heap.size := hl0.1
     have hz2 : ¬ w.heap.size + 1 + 1 = x2.heap.size := by omega
     have hz3 : ¬ x2.heap.size = w.heap.size + 1 + 1 := by omega
     have hz4 := Nat.ne_of_lt hz1
     have hz5 := Nat.ne_of_gt hz1
     have hb1 := below_then (below_new hb0 _) hc3
     clear hc3 hF hl0 hb0
     have hF := hl1
     (repeat unfold Loc at hF)
     have hF2 := hl2
     (repeat unfold Loc at hF2)
     go_wp2_with fail
     refine bodyPost_ret (v := _) (by rw [results_cell_tmp Tryz.results14]; go_simp; rfl) rfl ⟨?_, ?_⟩
     ·rfl
     ·exact bel
    ·have hl0 := (((Loc.nil w).new [.int .u8 ag, .slice A na ca, .slice B nb cb, .bool jo, .slice C nc cc, .int .u8 wk, .int .i64 ws, .int .i64 we, .bool true, .int .u8 la] 27).new [.int .i64 rk, .int .i64 rt, .int .i64 rv] 47).new [.int .i64 0, .int .i64 0, .int .i64 0] 47
     have hb0 : Below w.heap.size w (((w.alloc (.cells #[.int .u8 ag, .slice A na ca, .slice B nb cb, .bool jo, .slice C nc cc, .int .u8 wk, .int .i64 ws, .int .i64 we, .bool true, .int .u8 la] 27)).alloc (.cells #[.int .i64 rk, .int .i64 rt, .int .i64 rv] 47)).alloc (.cells #[.int .i64 0, .int .i64 0, .int .i64 0] 47)) := below_new (below_new (below_new (Below.refl _ _) _) _) _
     rw [World.size_alloc, World.size_alloc] at hl0
     have hF := hl0
     (repeat unfold Loc at hF)
     go_enter Tryz.func14, Tryz.ntmps14
     go_wp2_with fail
     go_at_call 32
     refine (HC.out _ hb0).mono ?_
     rintro y x2 ⟨rfl, hc2⟩
     replace hl0 := hl0.below hc2
     replace hb0 := below_then hb0 hc2
     clear hc2 hF
     have hF := hl0
     (repeat unfold Loc at hF)
     go_wp2_with fail
     go_at_call 32
     refine (HA.out _ (below_new hb0 _)).mono ?_
     rintro y x3 ⟨rfl, hc3⟩
     have hl1 := (hl0.old (.cells #[.int .i64 rk, .int .i64 rt, .int .i64 0] 47)).below hc3
     have hl2 := ((Loc.nil x2).new [.int .i64 rk, .int .i64 rt, .int .i64 0] 47).below hc3
     have hz1 : w.heap.size + 1 + 1 < x2.heap.size := hl0.1
     have hz2 : ¬ w.heap.size + 1 + 1 = x2.heap.size := by omega
     have hz3 : ¬ x2.heap.size = w.heap.size + 1 + 1 := by omega
     have hz4 := Nat.ne_of_lt hz1
     have hz5 := Nat.ne_of_gt hz1
     have hb1 := below_then (below_new hb0 _) hc3
     clear hc3 hF hl0 hb0
     have hF := hl1
     (repeat unfold Loc at hF)
     have hF2 := hl2
     (repeat unfold Loc at hF2)
     go_wp2_with fail
     refine bodyPost_ret (v := _) (by rw [results_cell_tmp Tryz.results14]; go_simp; rfl) rfl ⟨?_, ?_⟩
     ·rfl
     ·exact bel
end Go.Proofs.YtnljihjhmgpcoaaGreat
