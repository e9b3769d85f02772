/- Lemmas and contracts for the statement, joined into one text: TopAlive, PlanOf, PlanMade, GraphHead, GraphTT. The conditions of each stand at its head. -/
import Derived.Test.YtnljihjhmgpcoaaGreatJ28
import Derived.Test.YtnljihjhmgpcoaaGreatJ41
import Derived.Test.YtnljihjhmgpcoaaGreatJ42
import Derived.Test.YtnljihjhmgpcoaaGreatJ35
import Derived.Test.YtnljihjhmgpcoaaGreatJ37
import Derived.Test.YtnljihjhmgpcoaaGreatJ1
import Derived.Test.YtnljihjhmgpcoaaGreatJ40
namespace Go.Proofs.YtnljihjhmgpcoaaGreat
open Go Go.RowKit Go.ChangeShapes Go.WideShapes Go.ChangeAt Go.Deep
theorem eql_rm (x : Rm) (w : World) : (binOp .eql 65 (.agg #[.int .i64 x.k, .int .i64 x.s, .int .i64 x.e, .int .i64 x.a, .int .i64 x.b]) (.agg #[.int .i64 x.k, .int .i64 x.s, .int .i64 x.e, .int .i64 x.a, .int .i64 x.b])).run Tryz.prog w = .ok (.bool true) w := by
 have harr := eql_arr2
 go_simp
theorem rd_one {α : Type} {enc : α → List Value} {sz : Nat} (w : World) (x : α) (cs : Array Value) (e : TypeId) (hcs : cs.toList = enc x) : Rd enc sz (w.alloc (.cells cs e)) (w.heap.size + 1) (some ⟨w.heap.size, 0, none⟩) [x] := fun _ => by
 refine ⟨_, 0, rfl, Nat.lt_succ_self _, fun k y hy i u hu => ?_⟩
 have hk : k = 0 := by have := (List.getElem?_eq_some_iff.1 hy).1; simpa using this
 subst hk
 obtain rfl : x = y := by simpa using hy
 rw [World.cell?_alloc_at _ _ _ _ rfl]
 rw [← hcs] at hu
 simpa using hu
set_option maxHeartbeats 16000000 in
set_option maxRecDepth 100000 in
theorem alive24_any (w : World) : Calls Tryz.prog 4 #[] w fun r w' => r = .returned (.bool true) ∧ Below w.heap.size w w' := by
 go_enter Tryz.func4, Tryz.ntmps4
 go_upto_region 2 with (fail)
 have hl0 := (Loc.nil (w.alloc (.cells #[.int .i64 1] 3))).new [.int .u8 1, .slice none 0 0, .slice (some ⟨w.heap.size, 0, none⟩) 1 1, .bool false, .slice none 0 0, .int .u8 2, .int .i64 3, .int .i64 3, .bool false, .int .u8 1] 27
 have hbX : Below w.heap.size w ((w.alloc (.cells #[.int .i64 1] 3)).alloc (.cells #[.int .u8 1, .slice none 0 0, .slice (some ⟨w.heap.size, 0, none⟩) 1 1, .bool false, .slice none 0 0, .int .u8 2, .int .i64 3, .int .i64 3, .bool false, .int .u8 1] 27)) := below_new (below_new (Below.refl _ _) _) _
 have hsr : Rd ienc 1 ((w.alloc (.cells #[.int .i64 1] 3)).alloc (.cells #[.int .u8 1, .slice none 0 0, .slice (some ⟨w.heap.size, 0, none⟩) 1 1, .bool false, .slice none 0 0, .int .u8 2, .int .i64 3, .int .i64 3, .bool false, .int .u8 1] 27)) ((w.alloc (.cells #[.int .i64 1] 3)).alloc (.cells #[.int .u8 1, .slice none 0 0, .slice (some ⟨w.heap.size, 0, none⟩) 1 1, .bool false, .slice none 0 0, .int .u8 2, .int .i64 3, .int .i64 3, .bool false, .int .u8 1] 27)).heap.size (some ⟨w.heap.size, 0, none⟩) [1] := by
  have h1 : Rd ienc 1 (w.alloc (.cells #[.int .i64 1] 3)) (w.alloc (.cells #[.int .i64 1] 3)).heap.size (some ⟨w.heap.size, 0, none⟩) [1] := by
   rw [World.size_alloc]; exact rd_one w 1 _ _ rfl
  exact rd_grown h1 (below_new (Below.refl _ _) _)
 rw [World.size_alloc] at hl0
 obtain ⟨B0, hB0⟩ : ∃ B : Addr, B = ⟨w.heap.size, 0, none⟩ := ⟨_, rfl⟩
 generalize hX : (w.alloc (.cells #[.int .i64 1] 3)).alloc (.cells #[.int .u8 1, .slice none 0 0, .slice (some ⟨w.heap.size, 0, none⟩) 1 1, .bool false, .slice none 0 0, .int .u8 2, .int .i64 3, .int .i64 3, .bool false, .int .u8 1] 27) = X at hl0 hbX hsr ⊢
 clear hX
 rw [← hB0] at hl0 hsr ⊢
 clear hB0
 have hQ : QRd X q24 none (some B0) none 0 0 1 1 0 0 := ⟨⟨rfl, fun _ => rfl, Nat.le_refl _, fun h => absurd rfl h⟩, ⟨rfl, fun h => (by cases h), Nat.le_refl _, hsr⟩, ⟨rfl, fun _ => rfl, Nat.le_refl _, fun h => absurd rfl h⟩⟩
 have hF := hl0
 (repeat unfold Loc at hF)
 go_wp2_with fail
 have hb1 : Below X.heap.size X ((X.alloc (.cells #[.bool false, .int .i64 0, .int .i64 0, .int .i64 4, .int .i64 0] 67)).alloc (.cells #[.slice (some ⟨X.heap.size, 0, none⟩) 1 1] 45)) := below_new (below_new (Below.refl _ _) _) _
 have hev1 : Rd etenc 5 (X.alloc (.cells #[.bool false, .int .i64 0, .int .i64 0, .int .i64 4, .int .i64 0] 67)) (X.alloc (.cells #[.bool false, .int .i64 0, .int .i64 0, .int .i64 4, .int .i64 0] 67)).heap.size (some ⟨X.heap.size, 0, none⟩) [⟨false, 0, 0, 4, 0⟩] := by
  rw [World.size_alloc]; exact rd_one X (⟨false, 0, 0, 4, 0⟩ : Evt) _ _ rfl
 have hls := rdl_new (enc := etenc) (sz := 5) (X.alloc (.cells #[.bool false, .int .i64 0, .int .i64 0, .int .i64 4, .int .i64 0] 67)) [⟨some ⟨X.heap.size, 0, none⟩, 1, 1⟩] ls24 (cs := #[.slice (some ⟨X.heap.size, 0, none⟩) 1 1]) (T := 45) rfl rfl (by
  intro k d l hd hl
  have hk : k = 0 := by have := (List.getElem?_eq_some_iff.1 hd).1; simpa using this
  subst hk
  obtain rfl : _ = d := by simpa using hd
  obtain rfl : _ = l := by simpa [ls24] using hl
  exact ⟨rfl, Nat.le_refl _, fun h => (by cases h), hev1⟩)
 rw [World.size_alloc] at hls
 obtain ⟨a, ha, hck, hia, hal, hpre⟩ := mall_hyps q24_good (ls := ls24) rfl ls24_ok
 rw [all24] at ha
 obtain rfl := Option.some.inj ha
 have HM := Lib.hid (mall_any q24 q24_good ls24 rfl ls24_ok a24 hpre all24 hck none (some B0) none (some ⟨X.heap.size + 1, 0, none⟩) 0 0 1 1 0 0 1 1 _ rfl (hQ.grow hb1) hls)
 have HR := Lib.hid (fun W (hb : Below X.heap.size X W) => rall_any q24 q24_good none (some B0) none 0 0 1 1 0 0 W (hQ.grow hb))
 clear ha hck hia hal hpre hls hev1 hsr hQ
 go_at_call 8
 refine HM.out.mono ?_
 rintro r x2 ⟨v1, v2, rfl, own1, own2, hb2⟩
 obtain ⟨A1, c1, rfl, -, z1⟩ := own_shape_z own1 (n := 1) rfl
 obtain ⟨A2, c2, rfl, -, z2⟩ := own_shape_z own2 (n := 0) rfl
 have hrd := Own.rd rmenc_len own1
 have hb3 := below_then hb1 hb2
 replace hl0 := hl0.below hb3
 have hbw := below_then hbX hb3
 clear HM own1 own2 hb2 hF hb1
 have hF := hl0
 (repeat unfold Loc at hF)
 go_wp2_with fail
 go_at_call 9
 refine (HR.out _ hb3).mono ?_
 rintro r x3 ⟨p, v, A, B, C, na, ca, nb, cb, nc, cc, rfl, hpg, ⟨hpe, hpd⟩, rfl, hqp, hb4⟩
 have hk : p.wk = 1 := by
  have h1 : (p.wk = 2 ∧ p.ws = 3 ∧ p.we = 3) ∨ _ := hpe.win
  rcases h1 with h1 | h1
  ·exact absurd ⟨h1.1, h1.2.1.trans h1.2.2.symm⟩ hpd
  ·exact h1.2.2.1
 have hlp := ((Loc.nil x3).new [.int .u8 p.ag, .slice A na ca, .slice B nb cb, .bool p.jo, .slice C nc cc, .int .u8 p.wk, .int .i64 p.ws, .int .i64 p.we, .bool p.ky, .int .u8 p.la] 27)
 have hbp := below_new (below_then hbw hb4) (.cells #[.int .u8 p.ag, .slice A na ca, .slice B nb cb, .bool p.jo, .slice C nc cc, .int .u8 p.wk, .int .i64 p.ws, .int .i64 p.we, .bool p.ky, .int .u8 p.la] 27)
 have hrd3 := rd_grown hrd (below_new hb4 (.cells #[.int .u8 p.ag, .slice A na ca, .slice B nb cb, .bool p.jo, .slice C nc cc, .int .u8 p.wk, .int .i64 p.ws, .int .i64 p.we, .bool p.ky, .int .u8 p.la] 27))
 have hd1 : (p.wk == 1) = true := by simp [hk]
 clear hpg hpe hpd hqp hF hl0 hrd hbw hb3 HR hk
 have hF := hlp
 (repeat unfold Loc at hF)
 go_upto_region 4 with (fail)
 obtain ⟨xb, hxb⟩ : ∃ xb, x3.heap.size = xb := ⟨_, rfl⟩
 (try simp only [hxb])
 rw [hxb] at hlp hF
 generalize hX : x3.alloc (.cells #[.int .u8 p.ag, .slice A na ca, .slice B nb cb, .bool p.jo, .slice C nc cc, .int .u8 p.wk, .int .i64 p.ws, .int .i64 p.we, .bool p.ky, .int .u8 p.la] 27) = Y at hlp hF hbp hrd3 ⊢
 clear hX hxb
 have hrow : a24.filterMap (rowE q24.jo q24.ag) = [⟨0, 3, 6, 1, 0⟩] := by decide
 rw [hrow] at hrd3
 obtain ⟨b1, o1, rfl, hbb1, f0, f1, f2, f3, f4⟩ := rm_cells hrd3 (k := 0) (x := ⟨0, 3, 6, 1, 0⟩) rfl
 simp only [Nat.zero_mul, Nat.add_zero] at f0 f1 f2 f3 f4
 have hq := eql_rm ⟨0, 3, 6, 1, 0⟩
 simp only at hq
 have harr := eql_arr2
 clear hrd3 hrow
 go_wp2_with fail
 go_ret
 exact ⟨rfl, hbp⟩
end Go.Proofs.YtnljihjhmgpcoaaGreat
namespace Go.Proofs.YtnljihjhmgpcoaaGreat
open Go.RowKit Go.ChangeShapes Go.WideShapes Go.ChangeAt Go.Deep
def u8enc (x : Int) : List Value := [.int .u8 x]
theorem u8_len (x : Int) : (u8enc x).length = 1 := rfl
theorem u8_one : OneCells u8enc := by
 intro x u hu; simp [u8enc] at hu; subst hu; rfl
theorem u8_info : (Tryz.prog.info? 5).map (fun i => (i.zero, i.size, i.bytes)) = some (some (.int .u8 0), 1, 1) := by kernel_rfl
theorem u8_el : ElOk Tryz.prog 80 5 1 1 := elOk u8_info Tryz.underlying80 rfl (by decide) (by decide)
def stepsQ (wh ky jo sd : Bool) : List Int := [1, 2] ++ (if wh = true then [3] else []) ++ [4] ++ (if ky = true then [5] else []) ++ [6] ++ (if jo = true then [8] else [7]) ++ [9] ++ (if sd = true then [10] else [])
theorem own_u8 {w : World} {base : Nat} (xs : List Int) {cs : Array Value} (hb : base ≤ w.heap.size) (hcs : cs.toList = xs.flatMap u8enc) {n : Nat} (hn : xs.length = n) (hmx : n ≤ 100) : Own u8enc 1 (w.alloc (.cells cs 5)) base 5 (.slice (some ⟨w.heap.size, 0, none⟩) n n) xs := by
 have hl : (xs.flatMap u8enc).length = n := by rw [← hn, flat_length u8_len, Nat.mul_one]
 subst hn
 exact ⟨by rw [hl]; omega, .inr ⟨w.heap.size, _, cs, rfl, hb, heap_alloc_new _ _, Nat.le_refl _, by unfold maxLen; omega, by rw [← Array.length_toList, hcs, hl]; omega, by rw [hcs]; exact List.take_of_length_le (by rw [hl]; omega)⟩⟩
def StepP (l : List Int) (w : World) (r : Ending) (w' : World) : Prop := ∃ v, r = .returned v ∧ Own u8enc 1 w' w.heap.size 5 v l ∧ Below w.heap.size w w'
set_option maxHeartbeats 64000000 in
set_option maxRecDepth 100000 in
theorem steps_any (ag la wk ws we : Int) (wh ky jo sd : Bool) (hl : (la == 2) = sd) (A B C : Option Addr) (na ca nb cb nw cw : Nat) (hw : decide (0 < nw) = wh) (w : World) :
  Calls Tryz.prog 62 #[.agg #[.int .u8 ag, .slice A na ca, .slice B nb cb, .bool jo, .slice C nw cw, .int .u8 wk, .int .i64 ws, .int .i64 we, .bool ky, .int .u8 la]] w (StepP (stepsQ wh ky jo sd) w) := by
 have hw' : decide ((0 : Int) < (nw : Int)) = wh := by rw [← hw]; simp
 obtain ⟨mb, hmb⟩ : ∃ mb, w.heap.size = mb := ⟨_, rfl⟩
 have HMB := Lib.hid hmb
 have hbq : Below w.heap.size w ((w.alloc (.cells #[.int .u8 ag, .slice A na ca, .slice B nb cb, .bool jo, .slice C nw cw, .int .u8 wk, .int .i64 ws, .int .i64 we, .bool ky, .int .u8 la] 27)).alloc (.cells #[.int .u8 1, .int .u8 2] 5)) := below_new (below_new (Below.refl _ _) _) _
 have own5 := own_u8 (w := w.alloc (.cells #[.int .u8 ag, .slice A na ca, .slice B nb cb, .bool jo, .slice C nw cw, .int .u8 wk, .int .i64 ws, .int .i64 we, .bool ky, .int .u8 la] 27)) (base := mb + 1) [1, 2] (cs := #[.int .u8 1, .int .u8 2]) (n := 2) (by simp [hmb]) rfl rfl (by omega)
 have hl5 := ((Loc.nil w).new [.int .u8 ag, .slice A na ca, .slice B nb cb, .bool jo, .slice C nw cw, .int .u8 wk, .int .i64 ws, .int .i64 we, .bool ky, .int .u8 la] 27).old (.cells #[.int .u8 1, .int .u8 2] 5)
 rw [hmb] at hl5
 rw [World.size_alloc, hmb] at own5
 have hF := hl5
 (repeat unfold Loc at hF)
 go_enter Tryz.func62, Tryz.ntmps62
 cases wh <;> cases ky <;> cases jo <;> cases sd
 all_goals
  go_wp2_with (first
   | (at_builtin; refine wpList_app u8_el rfl _ _ rfl (mb + 1) u8_len u8_one _ [3] rfl (own5.alloc _) rfl rfl (flat_new _ _ _ _ (by first | rfl | (simp; omega) | simp) _ rfl) (by simp) (by have := hl5.1; simp; omega) ?_; intro v6 w6 own6 hgr6 hb6 hs6; have hl6 := (hl5.old _).grown hgr6 (by intro q hq; rw [List.mem_singleton] at hq; subst hq; exact own_ltf own5 (Nat.lt_succ_self mb)); have hbq6 : Below w.heap.size w w6 := (hbq.alloc hbq.size _).trans (Below.mono hb6 (by rw [HMB.out]; omega)); clear own5 hl5 hbq hF hgr6 hb6 hs6; have own5 := own6; have hl5 := hl6; have hbq := hbq6; clear own6 hl6 hbq6; have hF := hl5; (repeat unfold Loc at hF))
   | (at_builtin; refine wpList_app u8_el rfl _ _ rfl (mb + 1) u8_len u8_one _ [4] rfl (own5.alloc _) rfl rfl (flat_new _ _ _ _ (by first | rfl | (simp; omega) | simp) _ rfl) (by simp) (by have := hl5.1; simp; omega) ?_; intro v6 w6 own6 hgr6 hb6 hs6; have hl6 := (hl5.old _).grown hgr6 (by intro q hq; rw [List.mem_singleton] at hq; subst hq; exact own_ltf own5 (Nat.lt_succ_self mb)); have hbq6 : Below w.heap.size w w6 := (hbq.alloc hbq.size _).trans (Below.mono hb6 (by rw [HMB.out]; omega)); clear own5 hl5 hbq hF hgr6 hb6 hs6; have own5 := own6; have hl5 := hl6; have hbq := hbq6; clear own6 hl6 hbq6; have hF := hl5; (repeat unfold Loc at hF))
   | (at_builtin; refine wpList_app u8_el rfl _ _ rfl (mb + 1) u8_len u8_one _ [5] rfl (own5.alloc _) rfl rfl (flat_new _ _ _ _ (by first | rfl | (simp; omega) | simp) _ rfl) (by simp) (by have := hl5.1; simp; omega) ?_; intro v6 w6 own6 hgr6 hb6 hs6; have hl6 := (hl5.old _).grown hgr6 (by intro q hq; rw [List.mem_singleton] at hq; subst hq; exact own_ltf own5 (Nat.lt_succ_self mb)); have hbq6 : Below w.heap.size w w6 := (hbq.alloc hbq.size _).trans (Below.mono hb6 (by rw [HMB.out]; omega)); clear own5 hl5 hbq hF hgr6 hb6 hs6; have own5 := own6; have hl5 := hl6; have hbq := hbq6; clear own6 hl6 hbq6; have hF := hl5; (repeat unfold Loc at hF))
   | (at_builtin; refine wpList_app u8_el rfl _ _ rfl (mb + 1) u8_len u8_one _ [6] rfl (own5.alloc _) rfl rfl (flat_new _ _ _ _ (by first | rfl | (simp; omega) | simp) _ rfl) (by simp) (by have := hl5.1; simp; omega) ?_; intro v6 w6 own6 hgr6 hb6 hs6; have hl6 := (hl5.old _).grown hgr6 (by intro q hq; rw [List.mem_singleton] at hq; subst hq; exact own_ltf own5 (Nat.lt_succ_self mb)); have hbq6 : Below w.heap.size w w6 := (hbq.alloc hbq.size _).trans (Below.mono hb6 (by rw [HMB.out]; omega)); clear own5 hl5 hbq hF hgr6 hb6 hs6; have own5 := own6; have hl5 := hl6; have hbq := hbq6; clear own6 hl6 hbq6; have hF := hl5; (repeat unfold Loc at hF))
   | (at_builtin; refine wpList_app u8_el rfl _ _ rfl (mb + 1) u8_len u8_one _ [7] rfl (own5.alloc _) rfl rfl (flat_new _ _ _ _ (by first | rfl | (simp; omega) | simp) _ rfl) (by simp) (by have := hl5.1; simp; omega) ?_; intro v6 w6 own6 hgr6 hb6 hs6; have hl6 := (hl5.old _).grown hgr6 (by intro q hq; rw [List.mem_singleton] at hq; subst hq; exact own_ltf own5 (Nat.lt_succ_self mb)); have hbq6 : Below w.heap.size w w6 := (hbq.alloc hbq.size _).trans (Below.mono hb6 (by rw [HMB.out]; omega)); clear own5 hl5 hbq hF hgr6 hb6 hs6; have own5 := own6; have hl5 := hl6; have hbq := hbq6; clear own6 hl6 hbq6; have hF := hl5; (repeat unfold Loc at hF))
   | (at_builtin; refine wpList_app u8_el rfl _ _ rfl (mb + 1) u8_len u8_one _ [8] rfl (own5.alloc _) rfl rfl (flat_new _ _ _ _ (by first | rfl | (simp; omega) | simp) _ rfl) (by simp) (by have := hl5.1; simp; omega) ?_; intro v6 w6 own6 hgr6 hb6 hs6; have hl6 := (hl5.old _).grown hgr6 (by intro q hq; rw [List.mem_singleton] at hq; subst hq; exact own_ltf own5 (Nat.lt_succ_self mb)); have hbq6 : Below w.heap.size w w6 := (hbq.alloc hbq.size _).trans (Below.mono hb6 (by rw [HMB.out]; omega)); clear own5 hl5 hbq hF hgr6 hb6 hs6; have own5 := own6; have hl5 := hl6; have hbq := hbq6; clear own6 hl6 hbq6; have hF := hl5; (repeat unfold Loc at hF))
   | (at_builtin; refine wpList_app u8_el rfl _ _ rfl (mb + 1) u8_len u8_one _ [9] rfl (own5.alloc _) rfl rfl (flat_new _ _ _ _ (by first | rfl | (simp; omega) | simp) _ rfl) (by simp) (by have := hl5.1; simp; omega) ?_; intro v6 w6 own6 hgr6 hb6 hs6; have hl6 := (hl5.old _).grown hgr6 (by intro q hq; rw [List.mem_singleton] at hq; subst hq; exact own_ltf own5 (Nat.lt_succ_self mb)); have hbq6 : Below w.heap.size w w6 := (hbq.alloc hbq.size _).trans (Below.mono hb6 (by rw [HMB.out]; omega)); clear own5 hl5 hbq hF hgr6 hb6 hs6; have own5 := own6; have hl5 := hl6; have hbq := hbq6; clear own6 hl6 hbq6; have hF := hl5; (repeat unfold Loc at hF))
   | (at_builtin; refine wpList_app u8_el rfl _ _ rfl (mb + 1) u8_len u8_one _ [10] rfl (own5.alloc _) rfl rfl (flat_new _ _ _ _ (by first | rfl | (simp; omega) | simp) _ rfl) (by simp) (by have := hl5.1; simp; omega) ?_; intro v6 w6 own6 hgr6 hb6 hs6; have hl6 := (hl5.old _).grown hgr6 (by intro q hq; rw [List.mem_singleton] at hq; subst hq; exact own_ltf own5 (Nat.lt_succ_self mb)); have hbq6 : Below w.heap.size w w6 := (hbq.alloc hbq.size _).trans (Below.mono hb6 (by rw [HMB.out]; omega)); clear own5 hl5 hbq hF hgr6 hb6 hs6; have own5 := own6; have hl5 := hl6; have hbq := hbq6; clear own6 hl6 hbq6; have hF := hl5; (repeat unfold Loc at hF)))
  go_ret
  exact ⟨_, rfl, own5.mono (by omega), hbq⟩
end Go.Proofs.YtnljihjhmgpcoaaGreat
namespace Go.Proofs.YtnljihjhmgpcoaaGreat
open Go Go.RowKit Go.ChangeShapes Go.WideShapes Go.ChangeAt Go.Deep
def stpQ (q : Qy) : List Int := stepsQ q.wh.isSome q.ky q.jo (decide (q.la = 2))
theorem stp_len (q : Qy) : (stpQ q).length ≤ 12 := by
 unfold stpQ stepsQ
 simp only [List.length_append, List.length_cons, List.length_nil]
 split <;> split <;> split <;> split <;> simp
/-- A plan by value. -/
def PlanV (q : Qy) (S : Option Addr) (ns cs : Nat) (A B C : Option Addr) (na ca nb cb nc cc : Nat) : Value := .agg #[.slice S ns cs, .int .u8 q.ag, .slice A na ca, .slice B nb cb, .bool q.jo, .slice C nc cc, .int .u8 q.wk, .int .i64 q.ws, .int .i64 q.we, .bool q.ky, .int .u8 q.la]
def PlRd (w : World) (q : Qy) (S : Option Addr) (ns : Nat) (A B C : Option Addr) (na ca nb cb nc cc : Nat) : Prop := (stpQ q).length = ns ∧ Rd u8enc 1 w w.heap.size S (stpQ q) ∧ QRd w q A B C na ca nb cb nc cc
def PlanP (q : Qy) (w : World) (r : Ending) (w' : World) : Prop := ∃ S ns cs A B C na ca nb cb nc cc, r = .returned (.tuple #[PlanV q S ns cs A B C na ca nb cb nc cc, .int .i64 0]) ∧ PlRd w' q S ns A B C na ca nb cb nc cc ∧ Below w.heap.size w w'
set_option maxHeartbeats 16000000 in
set_option maxRecDepth 100000 in
theorem planof_any (q : Qy) (hq : q.good) (A B C : Option Addr) (na ca nb cb nc cc : Nat) (w : World) (h : QRd w q A B C na ca nb cb nc cc) :
  Calls Tryz.prog 27 #[.agg #[.int .u8 q.ag, .slice A na ca, .slice B nb cb, .bool q.jo, .slice C nc cc, .int .u8 q.wk, .int .i64 q.ws, .int .i64 q.we, .bool q.ky, .int .u8 q.la]] w (PlanP q w) := by
 have HCK := Lib.hid (fun W (hb : Below w.heap.size w W) => qcheck_any q hq A B C na ca nb cb nc cc W (h.grow hb))
 obtain ⟨⟨a1, a2, a3, a4⟩, ⟨b1, b2, b3, b4⟩, ⟨c1, c2, c3, c4⟩⟩ := h
 have hs1 : na ≤ 60 := by
  rw [← a1]; cases ha : q.arg with
  | none => simp [opl]
  | some e => have := (hq.arg e ha).1.2.1; simpa [opl, flat_len] using this
 have hs2 : nc ≤ 60 := by
  rw [← c1]; cases ha : q.wh with
  | none => simp [opl]
  | some e => have := (hq.wh e ha).1.2.1; simpa [opl, flat_len] using this
 have hs3 : nb ≤ 4 := by rw [← b1]; exact hq.src.1.2
 have HA := Lib.hid (fun W (hb : Below w.heap.size w W) => ndclone_any A ca na (opl q.arg) W a1 a2 (by omega) (a4.grow hb))
 have HB := Lib.hid (fun W (hb : Below w.heap.size w W) => inclone_any B cb nb q.src W b1 b2 (by omega) (b4.grow hb))
 have HCC := Lib.hid (fun W (hb : Below w.heap.size w W) => ndclone_any C cc nc (opl q.wh) W c1 c2 (by omega) (c4.grow hb))
 have hwn : decide (0 < nc) = q.wh.isSome := by
  rw [← c1]
  cases q.wh with
  | none => rfl
  | some e => have := e.size_pos; simp [opl, flat_len]; omega
 have hla : (q.la == 2) = decide (q.la = 2) := rfl
 have HST := Lib.hid (fun A' B' C' na' ca' nb' cb' cc' W => steps_any q.ag q.la q.wk q.ws q.we q.wh.isSome q.ky q.jo (decide (q.la = 2)) hla A' B' C' na' ca' nb' cb' nc cc' hwn W)
 have HNA := Lib.hid a1; have HNB := Lib.hid b1; have HNC := Lib.hid c1
 obtain ⟨qb, hqb⟩ : ∃ qb, w.heap.size = qb := ⟨_, rfl⟩
 have HQB := Lib.hid hqb
 have hl0 := ((Loc.nil w).new [.int .u8 q.ag, .slice A na ca, .slice B nb cb, .bool q.jo, .slice C nc cc, .int .u8 q.wk, .int .i64 q.ws, .int .i64 q.we, .bool q.ky, .int .u8 q.la] 27).new [.slice none 0 0, .int .u8 0, .slice none 0 0, .slice none 0 0, .bool false, .slice none 0 0, .int .u8 0, .int .i64 0, .int .i64 0, .bool false, .int .u8 0] 82
 rw [World.size_alloc, hqb] at hl0
 replace hl0 := Loc.swap hl0
 have hb0 : Below w.heap.size w ((w.alloc (.cells #[.int .u8 q.ag, .slice A na ca, .slice B nb cb, .bool q.jo, .slice C nc cc, .int .u8 q.wk, .int .i64 q.ws, .int .i64 q.we, .bool q.ky, .int .u8 q.la] 27)).alloc (.cells #[.slice none 0 0, .int .u8 0, .slice none 0 0, .slice none 0 0, .bool false, .slice none 0 0, .int .u8 0, .int .i64 0, .int .i64 0, .bool false, .int .u8 0] 82)) := below_new (below_new (Below.refl _ _) _) _
 have hF := hl0
 (repeat unfold Loc at hF)
 clear a1 a2 a3 a4 b1 b2 b3 b4 c1 c2 c3 c4 hs1 hs2 hs3 hwn hla
 go_enter Tryz.func27, Tryz.ntmps27
 (try simp only [hqb])
 go_wp2_with fail
 go_at_call 21
 refine (HCK.out _ hb0).mono ?_
 rintro r x2 ⟨rfl, hb2⟩
 replace hl0 := hl0.below hb2
 have hb3 := below_then hb0 hb2
 clear hF hb2 hb0
 go_wp2_with fail
 have hsx : qb + 2 ≤ x2.drew.heap.size := by rw [World.size_drew]; have := hl0.2.2.2.1; omega
 obtain ⟨lE, hE, hR⟩ := Env.abs (w0 := w) hb3 hl0
 have hR0 := hR
 (repeat unfold Loc at hR)
 refine wp_region_L (by kernel_rfl) (PhS [2, 5, 8] (Env w lE)) ?_
 refine lT 0 ?_; refine lT 3 ?_; refine lT 6 ?_
 refine lL 1 2 ?_
 refine lL 4 5 ?_
 refine lL 7 8 ?_
 refine lC 2 fun K hK => ?_; go_simp
 go_at_call 60
 refine (HA.out _ bel).mono ?_
 rintro r x3 ⟨v1, rfl, own1, hb4⟩
 obtain ⟨A1, g1, rfl, k1, y1⟩ := own_shape_z own1 HNA.out
 have hE1 : Env w lE x3 := Env.step hb4 (by (first | assumption | exact Env.step (by assumption) (by assumption) | exact Env.old (by assumption) _ | exact Env.drew hE | exact hE | exact Env.drew (by assumption) | exact Env.drew (Env.old (by assumption) _) | ((repeat first | refine Env.far0 ?_ (by assumption) _ | refine Env.far1 ?_ (by assumption) _ | refine Env.farA ?_ (by assumption) _); assumption)))
 replace own1 := own1.mono (base' := qb + 2) (by exact hsx)
 (refine lKp hK ?_; clear hK K)
 refine lT 9 ?_
 refine lC 5 fun K hK => ?_; go_simp
 go_at_call 61
 refine (HB.out _ hE1.below).mono ?_
 rintro r x4 ⟨v2, rfl, own2, hb5⟩
 obtain ⟨B1, g2, rfl, k2, y2⟩ := own_shape_z own2 HNB.out
 have hE2 : Env w lE x4 := Env.step hb5 hE1
 replace own2 := own2.mono (base' := qb + 2) (by exact Nat.le_trans hsx hb4.size)
 (refine lKp hK ?_; clear hK K)
 refine lC 8 fun K hK => ?_; go_simp
 go_at_call 60
 refine (HCC.out _ hE2.below).mono ?_
 rintro r x5 ⟨v3, rfl, own3, hb6⟩
 obtain ⟨C1, g3, rfl, k3, y3⟩ := own_shape_z own3 HNC.out
 have hE3 : Env w lE x5 := Env.step hb6 hE2
 replace own3 := own3.mono (base' := qb + 2) (by exact Nat.le_trans hsx (Nat.le_trans hb4.size hb5.size))
 (refine lKp hK ?_; clear hK K)
 refine lC 10 fun K hK => ?_; go_simp
 (refine lKp hK ?_; clear hK K)
 refine lT 11 ?_
 refine lC 12 fun K hK => ?_; go_simp
 (refine lKp hK ?_; clear hK K)
 refine lT 13 ?_
 refine lC 14 fun K hK => ?_; go_simp
 (refine lKp hK ?_; clear hK K)
 refine lDone (by kernel_rfl) ?_ _
 obtain ⟨Z, hZ, hlZ, hbZ, o1, o2, o3⟩ : ∃ Z, Z = ((x5.setCell ⟨qb, 1, none⟩ (.slice A1 na g1)).setCell ⟨qb, 2, none⟩ (.slice B1 nb g2)).setCell ⟨qb, 4, none⟩ (.slice C1 nc g3) ∧ Loc Z [(qb, [.int .u8 q.ag, .slice A1 na g1, .slice B1 nb g2, .bool q.jo, .slice C1 nc g3, .int .u8 q.wk, .int .i64 q.ws, .int .i64 q.we, .bool q.ky, .int .u8 q.la]), (qb + 1, [.slice none 0 0, .int .u8 0, .slice none 0 0, .slice none 0 0, .bool false, .slice none 0 0, .int .u8 0, .int .i64 0, .int .i64 0, .bool false, .int .u8 0])] ∧ Below w.heap.size w Z ∧
   Own nenc 5 Z (qb + 2) 133 (.slice A1 na g1) (opl q.arg) ∧ Own ienc 1 Z (qb + 2) 3 (.slice B1 nb g2) q.src ∧ Own nenc 5 Z (qb + 2) 133 (.slice C1 nc g3) (opl q.wh) := by
  have hne : ∀ z ∈ ([(qb + 1, [.slice none 0 0, .int .u8 0, .slice none 0 0, .slice none 0 0, .bool false, .slice none 0 0, .int .u8 0, .int .i64 0, .int .i64 0, .bool false, .int .u8 0])] : List (Nat × List Value)), z.1 ≠ qb := by simp
  refine ⟨_, rfl, (((hR0 _ hE3).put hne 1 _ (by simp)).put hne 2 _ (by simp)).put hne 4 _ (by simp), ?_, ?_, ?_, ?_⟩
  ·(repeat refine below_put' ?_ (by rw [HQB.out]; exact Nat.le_refl _) _ _)
   exact hE3.below
  ·(repeat refine own_far_set ?_ (by omega) _)
   exact (own1.below hb5).below hb6
  ·(repeat refine own_far_set ?_ (by omega) _)
   exact own2.below hb6
  ·(repeat refine own_far_set ?_ (by omega) _)
   exact own3
 rw [← hZ]
 clear hZ hE hE1 hE2 hE3 hR hR0 own1 own2 own3 hb4 hb5 hb6
 have hE0 : Env w [(qb, [.int .u8 q.ag, .slice A1 na g1, .slice B1 nb g2, .bool q.jo, .slice C1 nc g3, .int .u8 q.wk, .int .i64 q.ws, .int .i64 q.we, .bool q.ky, .int .u8 q.la])] Z := ⟨hbZ, hlZ.1, hlZ.2.1, hlZ.2.2.1, trivial⟩
 go_wp2_with fail
 refine hB (Env w [(qb, [.int .u8 q.ag, .slice A1 na g1, .slice B1 nb g2, .bool q.jo, .slice C1 nc g3, .int .u8 q.wk, .int .i64 q.ws, .int .i64 q.we, .bool q.ky, .int .u8 q.la])]) (fun hHeld => ?_) (hS := Env.drew hE0)
 refine hW 0 ?_; refine hW 2 ?_
 refine hC 1 fun K hK => ?_; go_simp
 go_at_call 62
 refine (HST.out A1 B1 C1 na g1 nb g2 g3 _).mono ?_
 rintro r x7 ⟨v7, rfl, own7, hb7⟩
 obtain ⟨ns, hns⟩ : ∃ ns, (stpQ q).length = ns := ⟨_, rfl⟩
 obtain ⟨S7, c7, rfl, k7, z7⟩ := own_shape_z own7 (n := ns) hns
 have hl7 := (hlZ.drew).below hb7
 have hF := hl7
 (repeat unfold Loc at hF)
 have p1 := (own_drew o1).below hb7
 have p2 := (own_drew o2).below hb7
 have p3 := (own_drew o3).below hb7
 have hsZ : qb + 2 ≤ Z.drew.heap.size := by rw [World.size_drew]; have := hlZ.2.2.2.1; omega
 replace own7 := own7.mono hsZ
 (refine hKp hK (fun hHeld => ?_) (Env.step hb7 hHeld); clear hK K)
 refine hT 3 ?_
 refine hC 4 fun K hK => ?_; go_simp
 (refine hKp hK (fun hHeld => ?_) ((by have h0 := hHeld; have hne : ∀ z ∈ ([(qb, [.int .u8 q.ag, .slice A1 na g1, .slice B1 nb g2, .bool q.jo, .slice C1 nc g3, .int .u8 q.wk, .int .i64 q.ws, .int .i64 q.we, .bool q.ky, .int .u8 q.la])] : List (Nat × List Value)), z.1 ≠ qb + 1 := (by intro z hz; rw [List.mem_singleton] at hz; subst hz; simp only; omega); (repeat refine Env.far (p := ⟨qb + 1, _, none⟩) ?_ (by rw [HQB.out]; exact Nat.le_succ _) hne _); exact h0)); clear hK K)
 refine hT 5 ?_
 refine hD ?_
 have hb8 := hHeld.1
 go_wp2_with fail
 refine bodyPost_ret (v := _) (by rw [results_cell_tmp Tryz.results27]; go_simp; rfl) rfl ?_
 refine ⟨S7, ns, c7, A1, B1, C1, na, g1, nb, g2, nc, g3, rfl, ⟨hns, Own.rd u8_len (base := qb + 2) (e := 5) (A := S7) (n := ns) (c := c7) ?_, ⟨HNA.out, y1, k1, Own.rd nenc_len (base := qb + 2) (e := 133) (A := A1) (n := na) (c := g1) ?_⟩, ⟨HNB.out, y2, k2, Own.rd in_len (base := qb + 2) (e := 3) (A := B1) (n := nb) (c := g2) ?_⟩, ⟨HNC.out, y3, k3, Own.rd nenc_len (base := qb + 2) (e := 133) (A := C1) (n := nc) (c := g3) ?_⟩⟩, hb8⟩
 ·(repeat refine own_far_set ?_ (by omega) _)
  exact own7
 ·(repeat refine own_far_set ?_ (by omega) _)
  exact p1
 ·(repeat refine own_far_set ?_ (by omega) _)
  exact p2
 ·(repeat refine own_far_set ?_ (by omega) _)
  exact p3
set_option maxHeartbeats 8000000 in
theorem u8eq_any (A A' : Option Addr) (c c' n : Nat) (l : List Int) (w : World) (hn : l.length = n) (h60 : n ≤ 60) (hr : Rd u8enc 1 w w.heap.size A l) (hr' : Rd u8enc 1 w w.heap.size A' l) :
  Calls Tryz.prog 101 #[.slice A n c, .slice A' n c'] w fun r w' => r = .returned (.bool true) ∧ Below w.heap.size w w' := by
 have HN := Lib.hid hn
 have d0 : ((n : Int) != (n : Int)) = false := by simp
 clear hn
 go_enter Tryz.func101, Tryz.ntmps101
 go_wp2_with fail
 go_loopw [13] (fun i wr => ∃ k : Nat, k ≤ n ∧ i = .int .i64 k ∧ Below w.heap.size w wr) (fun i _ => n - (intOf i).toNat)
 case atStart => exact ⟨0, Nat.zero_le _, rfl, Below.refl _ _⟩
 case round =>
  obtain ⟨k, hk, rfl, hb⟩ := hrel
  by_cases hlt : k < n
  ·obtain ⟨x, hx⟩ : ∃ x, l[k]? = some x := ⟨_, List.getElem?_eq_getElem (by rw [HN.out]; exact hlt)⟩
   obtain ⟨b1, o1, rfl, hb1, f0⟩ := (rd_grown hr hb).at_ hx
   obtain ⟨b2, o2, rfl, hb2, g0⟩ := (rd_grown hr' hb).at_ hx
   have f1 := f0 0 _ rfl
   have g1 := g0 0 _ rfl
   rw [Nat.mul_one, Nat.add_zero] at f1 g1
   have d1 : decide ((k : Int) < (n : Int)) = true := by simp; omega
   have d1' : decide (k < n) = true := by simp [hlt]
   have k1 : (0 : Int) ≤ (k : Int) := by omega
   have k2 : (k : Int) < (n : Int) := by omega
   have e1 : IntKind.i64.wrap ((k : Int) + 1) = (k : Int) + 1 := IntWalk.i64_in _ (by omega)
   have dx : (x != x) = false := by simp
   have HL := Lib.hid hlt
   clear hlt hx f0 g0
   go_wp2_with fail
   go_quiet (fail)
   go_wp2_with fail
   go_roundw
   case rel => exact ⟨k + 1, HL.out, by go_num, bel⟩
   case measure => have := HL.out; simp [intOf]; omega
  ·obtain rfl : k = n := by omega
   have d1 : decide ((k : Int) < (k : Int)) = false := by simp
   have d1' : decide (k < k) = false := by simp
   go_wp2_with fail
   go_ret
   exact ⟨rfl, hb⟩
set_option maxHeartbeats 16000000 in
set_option maxRecDepth 100000 in
theorem pcheck_any (q : Qy) (hq : q.good) (S : Option Addr) (ns cs : Nat) (A B C : Option Addr) (na ca nb cb nc cc : Nat) (w : World) (h : PlRd w q S ns A B C na ca nb cb nc cc) :
  Calls Tryz.prog 63 #[PlanV q S ns cs A B C na ca nb cb nc cc] w fun r w' => r = .returned (.int .i64 0) ∧ Below w.heap.size w w' := by
 obtain ⟨h1, h2, h3⟩ := h
 have HCK := Lib.hid (fun W (hb : Below w.heap.size w W) => qcheck_any q hq A B C na ca nb cb nc cc W (h3.grow hb))
 have hwn : decide (0 < nc) = q.wh.isSome := by
  rw [← h3.2.2.1]
  cases q.wh with
  | none => rfl
  | some e => have := e.size_pos; simp [opl, flat_len]; omega
 have hla : (q.la == 2) = decide (q.la = 2) := rfl
 have HST := Lib.hid (fun W => steps_any q.ag q.la q.wk q.ws q.we q.wh.isSome q.ky q.jo (decide (q.la = 2)) hla A B C na ca nb cb nc cc hwn W)
 have HEQ := Lib.hid (fun A' c' W (hb : Below w.heap.size w W) (hr' : Rd u8enc 1 W W.heap.size A' (stpQ q)) => u8eq_any S A' cs c' ns (stpQ q) W h1 (by have := stp_len q; omega) (h2.grow hb) hr')
 have HNS := Lib.hid h1
 have hl0 := (Loc.nil w).new [.slice S ns cs, .int .u8 q.ag, .slice A na ca, .slice B nb cb, .bool q.jo, .slice C nc cc, .int .u8 q.wk, .int .i64 q.ws, .int .i64 q.we, .bool q.ky, .int .u8 q.la] 82
 have hb0 : Below w.heap.size w (w.alloc (.cells #[.slice S ns cs, .int .u8 q.ag, .slice A na ca, .slice B nb cb, .bool q.jo, .slice C nc cc, .int .u8 q.wk, .int .i64 q.ws, .int .i64 q.we, .bool q.ky, .int .u8 q.la] 82)) := below_new (Below.refl _ _) _
 have hF := hl0
 (repeat unfold Loc at hF)
 unfold PlanV
 clear h1 h2 h3 hwn hla
 go_enter Tryz.func63, Tryz.ntmps63
 go_wp2_with fail
 go_at_call 21
 refine (HCK.out _ hb0).mono ?_
 rintro r x2 ⟨rfl, hb2⟩
 replace hl0 := hl0.below hb2
 have hb3 := below_then hb0 hb2
 have hE0 : Env w [(w.heap.size, [.slice S ns cs, .int .u8 q.ag, .slice A na ca, .slice B nb cb, .bool q.jo, .slice C nc cc, .int .u8 q.wk, .int .i64 q.ws, .int .i64 q.we, .bool q.ky, .int .u8 q.la])] x2 := ⟨hb3, hl0⟩
 clear hF hb2 hb0
 go_wp2_with fail
 refine hB (Env w [(w.heap.size, [.slice S ns cs, .int .u8 q.ag, .slice A na ca, .slice B nb cb, .bool q.jo, .slice C nc cc, .int .u8 q.wk, .int .i64 q.ws, .int .i64 q.we, .bool q.ky, .int .u8 q.la])]) (fun hHeld => ?_) (hS := Env.drew hE0)
 refine hT 0 ?_
 refine hW 1 ?_
 refine hT 2 ?_
 refine hW 3 ?_
 refine hC 4 fun K hK => ?_; go_simp
 go_at_call 62
 refine (HST.out _).mono ?_
 rintro r x5 ⟨v5, rfl, own5, hb5⟩
 obtain ⟨S5, c5, rfl, k5, z5⟩ := own_shape_z own5 (n := ns) HNS.out
 have hE5 : Env w [(w.heap.size, [.slice S ns cs, .int .u8 q.ag, .slice A na ca, .slice B nb cb, .bool q.jo, .slice C nc cc, .int .u8 q.wk, .int .i64 q.ws, .int .i64 q.we, .bool q.ky, .int .u8 q.la])] x5 := Env.step hb5 hHeld
 (refine hKp hK (fun hHeld => ?_) (Env.step hb5 hHeld); clear hK K)
 refine hC 5 fun K hK => ?_; go_simp
 go_at_call 101
 refine (HEQ.out S5 c5 _ hE5.below (Own.rd u8_len own5)).mono ?_
 rintro r x6 ⟨rfl, hb6⟩
 (refine hKp hK (fun hHeld => ?_) (Env.step hb6 hHeld); clear hK K)
 refine hT 6 ?_
 refine hD ?_
 have hb8 := hHeld.1
 go_wp2_with fail
 go_ret
 exact ⟨rfl, hb8⟩
/-- A graph by value. -/
def GrRes (O : List Opn) (C : List Chn) (v : Value) (w : World) : Prop := ∃ A no co B nc cc, v = .agg #[.slice A no co, .slice B nc cc] ∧ O.length = no ∧ C.length = nc ∧ Rd openc 2 w w.heap.size A O ∧ Rd chenc 5 w w.heap.size B C
def prtG (ky : Bool) (m : Nat) : Nat := if ky = true then m else 1
def GraphP (q : Qy) (m : Nat) (w : World) (r : Ending) (w' : World) : Prop := ∃ v, r = .returned (.tuple #[v, .int .i64 0]) ∧ GrRes (opsG q.src.length (prtG q.ky m) q.ky q.jo (decide (q.la = 2))) (chsG q.src.length (prtG q.ky m) q.ky (decide (q.la = 2))) v w' ∧ Below w.heap.size w w'
theorem flatMap_succ {α : Type} (f : Nat → List α) (k : Nat) : (List.range (k + 1)).flatMap f = (List.range k).flatMap f ++ f k := by simp [List.range_succ]
theorem map_succ {α : Type} (f : Nat → α) (k : Nat) : (List.range (k + 1)).map f = (List.range k).map f ++ [f k] := by simp [List.range_succ]
theorem ch2_len (n m : Nat) (ky sd : Bool) (i : Nat) : (ch2 n m ky sd i).length ≤ 2 := by unfold ch2; cases ky <;> cases sd <;> simp
theorem ch3_len (n m : Nat) (ky : Bool) (i : Nat) : (ch3 n m ky i).length ≤ m := by unfold ch3; cases ky <;> simp
theorem fm_len {α : Type} (f : Nat → List α) (c : Nat) (h : ∀ i, (f i).length ≤ c) : ∀ k, ((List.range k).flatMap f).length ≤ k * c
 | 0 => by simp
 | k + 1 => by
  have h1 := fm_len f c h k
  have h2 := h k
  rw [flatMap_succ, List.length_append, Nat.add_mul]; omega
set_option maxHeartbeats 64000000 in
set_option maxRecDepth 100000 in
theorem graphTT_any (q : Qy) (hq : q.good) (hky : q.ky = true) (hjo : q.jo = true) (m : Nat) (hm : 1 ≤ m ∧ m ≤ 3) (S : Option Addr) (ns cs : Nat) (A B C : Option Addr) (na ca nb cb nc cc : Nat) (w : World) (h : PlRd w q S ns A B C na ca nb cb nc cc) :
  Calls Tryz.prog 28 #[PlanV q S ns cs A B C na ca nb cb nc cc, .int .i64 m, .int .i64 1] w (GraphP q m w) := by
 have HCK := Lib.hid (fun W (hb : Below w.heap.size w W) => pcheck_any q hq S ns cs A B C na ca nb cb nc cc W ⟨h.1, h.2.1.grow hb, h.2.2.grow hb⟩)
 unfold GraphP
 have hnb : q.src.length = nb := h.2.2.2.1.1
 have hn4 : 1 ≤ nb ∧ nb ≤ 4 := by have := hq.src.1; omega
 rw [hnb]
 have hsd : (q.la == 2) = decide (q.la = 2) := rfl
 obtain ⟨sd, hsde⟩ : ∃ sd, decide (q.la = 2) = sd := ⟨_, rfl⟩
 rw [hsde] at hsd ⊢
 obtain ⟨qb, hqb⟩ : ∃ qb, w.heap.size = qb := ⟨_, rfl⟩
 have HQB := Lib.hid hqb
 have hl0 := (((Loc.nil w).new [.slice S ns cs, .int .u8 q.ag, .slice A na ca, .slice B nb cb, .bool q.jo, .slice C nc cc, .int .u8 q.wk, .int .i64 q.ws, .int .i64 q.we, .bool q.ky, .int .u8 q.la] 82).new [.int .i64 1] 3).new [.slice none 0 0, .slice none 0 0] 88
 rw [World.size_alloc, World.size_alloc, hqb] at hl0
 have hb0 : Below w.heap.size w (((w.alloc (.cells #[.slice S ns cs, .int .u8 q.ag, .slice A na ca, .slice B nb cb, .bool q.jo, .slice C nc cc, .int .u8 q.wk, .int .i64 q.ws, .int .i64 q.we, .bool q.ky, .int .u8 q.la] 82)).alloc (.cells #[.int .i64 1] 3)).alloc (.cells #[.slice none 0 0, .slice none 0 0] 88)) := below_new (below_new (below_new (Below.refl _ _) _) _) _
 have hF := hl0
 (repeat unfold Loc at hF)
 have m1 : decide ((m : Int) < 1) = false := by simp; omega
 have m2 : decide (3 < (m : Int)) = false := by simp; omega
 unfold PlanV at HCK ⊢
 clear h hsde hnb hq
 rw [hjo, hky] at hF hl0 hb0 HCK ⊢
 clear hjo hky
 go_enter Tryz.func28, Tryz.ntmps28
 (try simp only [hqb])
 go_wp2_with fail
 go_at_call 63
 refine (HCK.out _ hb0).mono ?_
 rintro r x2 ⟨rfl, hb2⟩
 replace hl0 := hl0.below hb2
 have hb3 := below_then hb0 hb2
 clear hF hb2 hb0
 have hF := hl0
 (repeat unfold Loc at hF)
 go_upto_region 8 with (fail)
 obtain ⟨gb, hgb⟩ : ∃ gb, x2.heap.size = gb := ⟨_, rfl⟩
 have hqg : qb + 3 ≤ gb := by have := hl0.1; omega
 have hg3 : GrS gb [] [] (x2.alloc (.cells #[.slice none 0 0, .slice none 0 0] 88)) := by
  have h1 := (Loc.nil x2).new [.slice none 0 0, .slice none 0 0] 88
  rw [hgb] at h1
  exact ⟨_, _, h1, Own.nil _ _ _, Own.nil _ _ _⟩
 have hl3 := hl0.old (.cells #[.slice none 0 0, .slice none 0 0] 88)
 have hb4 : Below w.heap.size w (x2.alloc (.cells #[.slice none 0 0, .slice none 0 0] 88)) := below_new hb3 _
 (try simp only [hgb])
 generalize hX3 : x2.alloc (.cells #[.slice none 0 0, .slice none 0 0] 88) = X3 at hl3 hg3 hb4 ⊢
 clear hX3 hF hl0 hb3 hgb
 have hbx : ∀ z ∈ ([(qb + 1 + 1, [.slice none 0 0, .slice none 0 0]), (qb + 1, [.int .i64 1]), (qb, [.slice S ns cs, .int .u8 q.ag, .slice A na ca, .slice B nb cb, .bool true, .slice C nc cc, .int .u8 q.wk, .int .i64 q.ws, .int .i64 q.we, .bool true, .int .u8 q.la])] : List (Nat × List Value)), z.1 < gb := by
  intro z hz
  simp only [List.mem_cons, List.not_mem_nil, or_false] at hz
  rcases hz with rfl | rfl | rfl <;> (simp only; omega)
 have hroom : ∀ W, Below gb X3 W → W.cell? ⟨qb + 1, 0, none⟩ = some (.int .i64 1) := fun W hb => by
  have h1 := hl3.belowB hb hbx
  simpa using h1.2.2.2.2.1 0
 have hb3 : Below gb X3 X3 := Below.refl _ _
 have hF := hl3
 (repeat unfold Loc at hF)
 go_wp2_with fail
 go_at_call 64
 refine (gadd_any gb _ _ _ nb _ (by simp only [List.length_nil]; omega) (by omega) hg3).mono ?_
 rintro r y1 ⟨rfl, hgy1, hcy1⟩
 have hby1 := hb3.trans hcy1
 clear hF
 have hly1 := hl3.belowB hby1 hbx
 have hF := hly1
 (repeat unfold Loc at hF)
 go_wp2_with fail
 go_at_call 64
 refine (gadd_any gb _ _ _ nb _ (by (try simp only [List.length_append, opR_len, List.length_nil]); omega) (by omega) hgy1).mono ?_
 rintro r y2 ⟨rfl, hgy2, hcy2⟩
 have hby2 := hby1.trans hcy2
 rw [(by simp only [List.length_append, opR_len, List.length_nil]; omega : (([] : List Opn) ++ opR 1 nb).length = nb)]
 clear hF
 have hly2 := hl3.belowB hby2 hbx
 have hF := hly2
 (repeat unfold Loc at hF)
 go_wp2_with fail
 go_at_call 64
 refine (gadd_any gb _ _ _ nb _ (by (try simp only [List.length_append, opR_len, List.length_nil]); omega) (by omega) hgy2).mono ?_
 rintro r y3 ⟨rfl, hgy3, hcy3⟩
 have hby3 := hby2.trans hcy3
 rw [(by simp only [List.length_append, opR_len, List.length_nil]; omega : (([] : List Opn) ++ opR 1 nb ++ opR 2 nb).length = 2 * nb)]
 clear hF
 have hly3 := hl3.belowB hby3 hbx
 have hF := hly3
 (repeat unfold Loc at hF)
 go_wp2_with fail
 go_at_call 64
 refine (gadd_any gb _ _ _ m _ (by (try simp only [List.length_append, opR_len, List.length_nil]); omega) (by omega) hgy3).mono ?_
 rintro r y4 ⟨rfl, hgy4, hcy4⟩
 have hby4 := hby3.trans hcy4
 rw [(by simp only [List.length_append, opR_len, List.length_nil]; omega : (([] : List Opn) ++ opR 1 nb ++ opR 2 nb ++ opR 3 nb).length = 3 * nb)]
 clear hF
 have hly4 := hl3.belowB hby4 hbx
 have hF := hly4
 (repeat unfold Loc at hF)
 go_wp2_with fail
 go_at_call 64
 refine (gadd_any gb _ _ _ 1 _ (by (try simp only [List.length_append, opR_len, List.length_nil]); omega) (by omega) hgy4).mono ?_
 rintro r y5 ⟨rfl, hgy5, hcy5⟩
 have hby5 := hby4.trans hcy5
 generalize hsk : List.length _ = sk
 have hsk2 : sk = 3 * nb + m := by rw [← hsk]; simp only [List.length_append, opR_len, List.length_nil]; omega
 clear hsk
 subst hsk2
 clear hF
 have hly5 := hl3.belowB hby5 hbx
 have hF := hly5
 (repeat unfold Loc at hF)
 generalize hO : _ ++ opR 6 1 = O at hgy5
 have HO := Lib.hid hO
 have hO20 : O.length ≤ 20 := by rw [← hO]; simp only [List.length_append, opR_len, List.length_nil]; omega
 clear hO
 go_wp2_with fail
 go_loopw [73] (fun i wr => ∃ k : Nat, k ≤ nb ∧ i = .int .i64 k ∧ GrS gb O ((List.range k).map (ch1 nb)) wr ∧ Below gb X3 wr) (fun i _ => nb - (intOf i).toNat)
 case atStart => exact ⟨0, Nat.zero_le _, rfl, hgy5, hby5⟩
 case round =>
  obtain ⟨k, hk, rfl, hg, hb⟩ := hrel
  clear hF
  by_cases hlt : k < nb
  ·have hl6 := hl3.belowB hb hbx
   have hF := hl6
   (repeat unfold Loc at hF)
   have d1 : decide ((k : Int) < (nb : Int)) = true := by simp; omega
   have d1' : decide (k < nb) = true := by simp [hlt]
   have ek : IntKind.i64.wrap ((k : Int) + 1) = (k : Int) + 1 := IntWalk.i64_in _ (by omega)
   have e1 : IntKind.i64.wrap ((nb : Int) + (k : Int)) = ((nb + k : Nat) : Int) := (IntWalk.i64_in _ (by omega)).trans (by omega)
   go_wp2_with fail
   go_at_call 65
   refine (gjoin_any gb (qb + 1) O _ k 0 (nb + k : Nat) 0 _ (by simp; omega) (hroom _ hb) hg).mono ?_
   rintro r z1 ⟨⟨_, rfl⟩, hgz1, hcz1⟩
   have hbz1 := hb.trans hcz1
   go_wp2_with fail
   go_roundw
   case rel => exact ⟨k + 1, hlt, by go_num, by rw [map_succ]; exact hgz1, hbz1⟩
   case measure => simp [intOf]; omega
  ·obtain rfl : k = nb := by omega
   have d1 : decide ((k : Int) < (k : Int)) = false := by simp
   have d1' : decide (k < k) = false := by simp
   have hl6 := hl3.belowB hb hbx
   have hF := hl6
   (repeat unfold Loc at hF)
   generalize hC1 : (List.range k).map (ch1 k) = C1 at hg
   have HC1 := Lib.hid hC1
   have hC1l : C1.length = k := by rw [← hC1]; simp
   obtain ⟨wo, rfl⟩ : ∃ x, x = wr := ⟨_, rfl⟩
   have HG1 := Lib.hid hg; have HB1 := Lib.hid hb
   clear hC1 hlt hgy5 hg hb
   go_wp2_with fail
   go_loopw [84] (fun i wr => ∃ j : Nat, j ≤ k ∧ i = .int .i64 j ∧ GrS gb O (C1 ++ (List.range j).flatMap (ch2 k m true sd)) wr ∧ Below gb X3 wr) (fun i _ => k - (intOf i).toNat)
   case atStart => exact ⟨0, Nat.zero_le _, rfl, by simpa using HG1.out, HB1.out⟩
   case round =>
    obtain ⟨j, hj, rfl, hg, hb⟩ := hrel
    clear hF
    have hlm := fm_len (ch2 k m true sd) 2 (ch2_len k m true sd) j
    have hl7 := hl3.belowB hb hbx
    have hF := hl7
    (repeat unfold Loc at hF)
    by_cases hlt : j < k
    ·have d1 : decide ((j : Int) < (k : Int)) = true := by simp; omega
     have d1' : decide (j < k) = true := by simp [hlt]
     have ek : IntKind.i64.wrap ((j : Int) + 1) = (j : Int) + 1 := IntWalk.i64_in _ (by omega)
     have e1 : IntKind.i64.wrap ((k : Int) + (j : Int)) = ((k + j : Nat) : Int) := (IntWalk.i64_in _ (by omega)).trans (by omega)
     have e2 : IntKind.i64.wrap (((2 * k : Nat) : Int) + (j : Int)) = ((2 * k + j : Nat) : Int) := (IntWalk.i64_in _ (by omega)).trans (by omega)
     have e2' : IntKind.i64.wrap ((2 * (k : Int)) + (j : Int)) = ((2 * k + j : Nat) : Int) := (IntWalk.i64_in _ (by omega)).trans (by omega)
     have e3 : IntKind.i64.wrap (((3 * k + m : Nat) : Int) + 1) = ((3 * k + m + 1 : Nat) : Int) := (IntWalk.i64_in _ (by omega)).trans (by omega)
     have e3' : IntKind.i64.wrap (3 * (k : Int) + (m : Int) + 1) = ((3 * k + m + 1 : Nat) : Int) := (IntWalk.i64_in _ (by omega)).trans (by omega)
     have HLT := Lib.hid hlt; have HG2 := Lib.hid hg; have HB2 := Lib.hid hb
     clear hlt hg hb
     go_wp2_with fail
     go_at_call 65
     refine (gjoin_any gb (qb + 1) O _ (k + j : Nat) 0 (2 * k + j : Nat) 0 _ (by rw [List.length_append, hC1l]; omega) (hroom _ HB2.out) HG2.out).mono ?_
     rintro r z1 ⟨⟨_, rfl⟩, hgz1, hcz1⟩
     have hbz1 := HB2.out.trans hcz1
     have hl8 := hl3.belowB hbz1 hbx
     clear hF
     have hF := hl8
     (repeat unfold Loc at hF)
     cases sd
     ·have HGZ := Lib.hid hgz1; have HBZ := Lib.hid hbz1
      clear hgz1 hbz1 hcz1
      go_wp2_with fail
      go_roundw
      case rel => exact ⟨j + 1, HLT.out, by go_num, by have h9 := HGZ.out; rw [flatMap_succ, ← List.append_assoc]; simpa [ch2, splG, fstG] using h9, HBZ.out⟩
      case measure => have := HLT.out; simp [intOf]; omega
     ·have HGZ := Lib.hid hgz1; have HBZ := Lib.hid hbz1
      clear hgz1 hbz1 hcz1
      go_wp2_with fail
      go_at_call 65
      refine (gjoin_any gb (qb + 1) O _ (k + j : Nat) 1 (3 * k + m + 1 : Nat) j _ (by simp only [List.length_append, hC1l, List.length_cons, List.length_nil]; omega) (hroom _ HBZ.out) HGZ.out).mono ?_
      rintro r z2 ⟨⟨_, rfl⟩, hgz2, hcz2⟩
      have HGY := Lib.hid hgz2; have HBY := Lib.hid (HBZ.out.trans hcz2)
      clear hgz2 hcz2
      go_wp2_with fail
      go_roundw
      case rel => exact ⟨j + 1, HLT.out, by go_num, by have h9 := HGY.out; rw [flatMap_succ, ← List.append_assoc]; simpa [ch2, splG, fstG] using h9, HBY.out⟩
      case measure => have := HLT.out; simp [intOf]; omega
    ·obtain rfl : j = k := by omega
     have d1 : decide ((j : Int) < (j : Int)) = false := by simp
     have d1' : decide (j < j) = false := by simp
     generalize hC2 : C1 ++ (List.range j).flatMap (ch2 j m true sd) = C2 at hg
     have HC2 := Lib.hid hC2
     have hC2l : C2.length ≤ 20 := by rw [← hC2, List.length_append, hC1l]; omega
     obtain ⟨wp, rfl⟩ : ∃ x, x = wr := ⟨_, rfl⟩
     have HG2 := Lib.hid hg; have HB2 := Lib.hid hb
     clear hC2 hlt hg hb hlm
     go_wp2_with fail
     go_loopw [119] (fun i wr => ∃ p : Nat, p ≤ j ∧ i = .int .i64 p ∧ GrS gb O (C2 ++ (List.range p).flatMap (ch3 j m true)) wr ∧ Below gb X3 wr) (fun i _ => j - (intOf i).toNat)
     case atStart => exact ⟨0, Nat.zero_le _, rfl, by simpa using HG2.out, HB2.out⟩
     case round =>
      obtain ⟨p, hp, rfl, hg, hb⟩ := hrel
      clear hF
      have hlm := fm_len (ch3 j m true) m (ch3_len j m true) p
      have hl7 := hl3.belowB hb hbx
      have hF := hl7
      (repeat unfold Loc at hF)
      have hpm : p * m ≤ 12 := Nat.le_trans (Nat.mul_le_mul (by omega : p ≤ 4) (by omega : m ≤ 3)) (by omega)
      by_cases hlt : p < j
      ·have d1 : decide ((p : Int) < (j : Int)) = true := by simp; omega
       have d1' : decide (p < j) = true := by simp [hlt]
       have ek : IntKind.i64.wrap ((p : Int) + 1) = (p : Int) + 1 := IntWalk.i64_in _ (by omega)
       generalize hC3 : C2 ++ (List.range p).flatMap (ch3 j m true) = C3 at hg
       have HC3 := Lib.hid hC3
       have hC3l : C3.length ≤ 40 := by rw [← hC3, List.length_append]; omega
       obtain ⟨wq, rfl⟩ : ∃ x, x = wr := ⟨_, rfl⟩
       have HLT := Lib.hid hlt; have HG3 := Lib.hid hg; have HB3 := Lib.hid hb
       clear hC3 hlt hg hb hlm
       go_wp2_with fail
       go_loopw [123] (fun i wr => ∃ u : Nat, u ≤ m ∧ i = .int .i64 u ∧ GrS gb O (C3 ++ (List.range u).map fun (v : Nat) => (⟨(2 * j + p : Nat), v, (3 * j + v : Nat), p, 1⟩ : Chn)) wr ∧ Below gb X3 wr) (fun i _ => m - (intOf i).toNat)
       case atStart => exact ⟨0, Nat.zero_le _, rfl, by simpa using HG3.out, HB3.out⟩
       case round =>
        obtain ⟨u, hu, rfl, hg, hb⟩ := hrel
        clear hF
        have hl7 := hl3.belowB hb hbx
        have hF := hl7
        (repeat unfold Loc at hF)
        by_cases hlt : u < m
        ·have g1 : decide ((u : Int) < (m : Int)) = true := by simp; omega
         have g1' : decide (u < m) = true := by simp [hlt]
         have eu : IntKind.i64.wrap ((u : Int) + 1) = (u : Int) + 1 := IntWalk.i64_in _ (by omega)
         have e2 : IntKind.i64.wrap (((2 * j : Nat) : Int) + (p : Int)) = ((2 * j + p : Nat) : Int) := (IntWalk.i64_in _ (by omega)).trans (by omega)
         have e2' : IntKind.i64.wrap ((2 * (j : Int)) + (p : Int)) = ((2 * j + p : Nat) : Int) := (IntWalk.i64_in _ (by omega)).trans (by omega)
         have e4 : IntKind.i64.wrap (((3 * j : Nat) : Int) + (u : Int)) = ((3 * j + u : Nat) : Int) := (IntWalk.i64_in _ (by omega)).trans (by omega)
         have e4' : IntKind.i64.wrap ((3 * (j : Int)) + (u : Int)) = ((3 * j + u : Nat) : Int) := (IntWalk.i64_in _ (by omega)).trans (by omega)
         have HLU := Lib.hid hlt; have HG4 := Lib.hid hg; have HB4 := Lib.hid hb
         clear hlt hg hb
         go_wp2_with fail
         go_at_call 65
         refine (gjoin_any gb (qb + 1) O _ (2 * j + p : Nat) u (3 * j + u : Nat) p _ (by rw [List.length_append, List.length_map, List.length_range]; omega) (hroom _ HB4.out) HG4.out).mono ?_
         rintro r z1 ⟨⟨_, rfl⟩, hgz1, hcz1⟩
         have HGZ := Lib.hid hgz1; have HBZ := Lib.hid (HB4.out.trans hcz1)
         clear hgz1 hcz1
         go_wp2_with fail
         go_roundw
         case rel => exact ⟨u + 1, HLU.out, by go_num, by rw [map_succ, ← List.append_assoc]; exact HGZ.out, HBZ.out⟩
         case measure => have := HLU.out; simp [intOf]; omega
        ·obtain rfl : u = m := by omega
         have g1 : decide ((u : Int) < (u : Int)) = false := by simp
         have g1' : decide (u < u) = false := by simp
         have HG4 := Lib.hid hg; have HB4 := Lib.hid hb
         clear hlt hg hb
         go_wp2_with fail
         go_roundw
         case rel => exact ⟨p + 1, HLT.out, by go_num, by have h9 := HG4.out; rw [← HC3.out] at h9; rw [flatMap_succ, ← List.append_assoc]; simpa [ch3, splG, fstG] using h9, HB4.out⟩
         case measure => have := HLT.out; simp [intOf]; omega
      ·obtain rfl : p = j := by omega
       have d1 : decide ((p : Int) < (p : Int)) = false := by simp
       have d1' : decide (p < p) = false := by simp
       generalize hC4 : C2 ++ (List.range p).flatMap (ch3 p m true) = C4 at hg
       have HC4 := Lib.hid hC4
       have hC4l : C4.length ≤ 40 := by rw [← hC4, List.length_append]; omega
       obtain ⟨wq, rfl⟩ : ∃ x, x = wr := ⟨_, rfl⟩
       have HG3 := Lib.hid hg; have HB3 := Lib.hid hb
       clear hC4 hlt hg hb hlm
       go_wp2_with fail
       go_loopw [142] (fun i wr => ∃ u : Nat, u ≤ m ∧ i = .int .i64 u ∧ GrS gb O (C4 ++ (List.range u).map (ch4 p m true)) wr ∧ Below gb X3 wr) (fun i _ => m - (intOf i).toNat)
       case atStart => exact ⟨0, Nat.zero_le _, rfl, by simpa using HG3.out, HB3.out⟩
       case round =>
        obtain ⟨u, hu, rfl, hg, hb⟩ := hrel
        clear hF
        have hl7 := hl3.belowB hb hbx
        have hF := hl7
        (repeat unfold Loc at hF)
        by_cases hlt : u < m
        ·have g1 : decide ((u : Int) < (m : Int)) = true := by simp; omega
         have g1' : decide (u < m) = true := by simp [hlt]
         have eu : IntKind.i64.wrap ((u : Int) + 1) = (u : Int) + 1 := IntWalk.i64_in _ (by omega)
         have e4 : IntKind.i64.wrap (((3 * p : Nat) : Int) + (u : Int)) = ((3 * p + u : Nat) : Int) := (IntWalk.i64_in _ (by omega)).trans (by omega)
         have e4' : IntKind.i64.wrap (3 * (p : Int) + (u : Int)) = ((3 * p + u : Nat) : Int) := (IntWalk.i64_in _ (by omega)).trans (by omega)
         have HLU := Lib.hid hlt; have HG4 := Lib.hid hg; have HB4 := Lib.hid hb
         clear hlt hg hb
         go_wp2_with fail
         go_at_call 65
         refine (gjoin_any gb (qb + 1) O _ (3 * p + u : Nat) 0 (3 * p + m : Nat) u _ (by rw [List.length_append, List.length_map, List.length_range]; omega) (hroom _ HB4.out) HG4.out).mono ?_
         rintro r z1 ⟨⟨_, rfl⟩, hgz1, hcz1⟩
         have HGZ := Lib.hid hgz1; have HBZ := Lib.hid (HB4.out.trans hcz1)
         clear hgz1 hcz1
         go_wp2_with fail
         go_roundw
         case rel => exact ⟨u + 1, HLU.out, by go_num, by rw [map_succ, ← List.append_assoc]; exact HGZ.out, HBZ.out⟩
         case measure => have := HLU.out; simp [intOf]; omega
        ·obtain rfl : u = m := by omega
         have g1 : decide ((u : Int) < (u : Int)) = false := by simp
         have g1' : decide (u < u) = false := by simp
         have HG4 := Lib.hid hg; have HB4 := Lib.hid hb
         have hgl := hg
         clear hlt hg
         cases sd
         ·clear hb
          obtain ⟨vo, vc, hlg, owno, ownc⟩ := hgl
          have hl9 := hl3.belowB HB4.out hbx
          clear hF
          have hF := hl9
          (repeat unfold Loc at hF)
          have hG := hlg
          (repeat unfold Loc at hG)
          obtain ⟨Lo, hLo⟩ : ∃ L, List.length (O) = L := ⟨_, rfl⟩
          obtain ⟨Ao, co, rfl, -, -⟩ := own_shape_z owno hLo
          obtain ⟨Lc, hLc⟩ : ∃ L, (C4 ++ (List.range u).map (ch4 p u true)).length = L := ⟨_, rfl⟩
          obtain ⟨Ac, cc', rfl, -, -⟩ := own_shape_z ownc hLc
          have HLO := Lib.hid hLo; have HLC := Lib.hid hLc
          clear hLo hLc
          go_wp2_with fail
          refine bodyPost_ret (v := _) (by rw [results_cell_tmp Tryz.results28]; go_simp; rfl) rfl ?_
          have hO' : O = opsG p (prtG true u) true true false := by rw [← HO.out]; simp [opsG, prtG]
          have hC' : C4 ++ (List.range u).map (ch4 p u true) = chsG p (prtG true u) true false := by rw [← HC4.out, ← HC2.out, ← HC1.out]; simp [chsG, prtG]
          refine ⟨_, rfl, ⟨Ao, Lo, co, Ac, Lc, cc', rfl, by rw [← hO']; exact HLO.out, by rw [← hC']; exact HLC.out, ?_, ?_⟩, ?_⟩
          ·rw [← hO']
           refine Own.rd openc_len (base := gb + 1) (e := 93) (A := Ao) (n := Lo) (c := co) ?_
           (repeat refine own_far_set ?_ (by omega) _)
           exact owno
          ·rw [← hC']
           refine Own.rd chenc_len (base := gb + 1) (e := 139) (A := Ac) (n := Lc) (c := cc') ?_
           (repeat refine own_far_set ?_ (by omega) _)
           exact ownc
          ·have h9 := hb4.trans (Below.mono HB4.out (by rw [HQB.out]; omega))
           rw [HQB.out] at h9
           (repeat refine below_put' ?_ (by omega) _ _)
           exact h9
         ·clear hb
          clear hgl
          go_wp2_with fail
          go_at_call 64
          refine (gadd_any gb _ _ _ 1 _ (by omega) (by omega) HG4.out).mono ?_
          rintro r z1 ⟨rfl, hgl, hcz1⟩
          have HB5 := Lib.hid (HB4.out.trans hcz1)
          obtain ⟨vo, vc, hlg, owno, ownc⟩ := hgl
          have hl9 := hl3.belowB HB5.out hbx
          clear hF
          have hF := hl9
          (repeat unfold Loc at hF)
          have hG := hlg
          (repeat unfold Loc at hG)
          obtain ⟨Lo, hLo⟩ : ∃ L, List.length (O ++ opR 7 1) = L := ⟨_, rfl⟩
          obtain ⟨Ao, co, rfl, -, -⟩ := own_shape_z owno hLo
          obtain ⟨Lc, hLc⟩ : ∃ L, (C4 ++ (List.range u).map (ch4 p u true)).length = L := ⟨_, rfl⟩
          obtain ⟨Ac, cc', rfl, -, -⟩ := own_shape_z ownc hLc
          have HLO := Lib.hid hLo; have HLC := Lib.hid hLc
          clear hLo hLc
          go_wp2_with fail
          refine bodyPost_ret (v := _) (by rw [results_cell_tmp Tryz.results28]; go_simp; rfl) rfl ?_
          have hO' : O ++ opR 7 1 = opsG p (prtG true u) true true true := by rw [← HO.out]; simp [opsG, prtG]
          have hC' : C4 ++ (List.range u).map (ch4 p u true) = chsG p (prtG true u) true true := by rw [← HC4.out, ← HC2.out, ← HC1.out]; simp [chsG, prtG]
          refine ⟨_, rfl, ⟨Ao, Lo, co, Ac, Lc, cc', rfl, by rw [← hO']; exact HLO.out, by rw [← hC']; exact HLC.out, ?_, ?_⟩, ?_⟩
          ·rw [← hO']
           refine Own.rd openc_len (base := gb + 1) (e := 93) (A := Ao) (n := Lo) (c := co) ?_
           (repeat refine own_far_set ?_ (by omega) _)
           exact owno
          ·rw [← hC']
           refine Own.rd chenc_len (base := gb + 1) (e := 139) (A := Ac) (n := Lc) (c := cc') ?_
           (repeat refine own_far_set ?_ (by omega) _)
           exact ownc
          ·have h9 := hb4.trans (Below.mono HB5.out (by rw [HQB.out]; omega))
           rw [HQB.out] at h9
           (repeat refine below_put' ?_ (by omega) _ _)
           exact h9
end Go.Proofs.YtnljihjhmgpcoaaGreat
