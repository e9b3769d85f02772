/- Lemmas and contracts for the statement, joined into one text: LateFuncs, LateSplit, MeanIn, AppendNil, NodeMake, FoldVal, NodeLf. The conditions of each stand at its head. -/
import Derived.Test.YtnljihjhmgpcoaaGreatJ11
import Derived.Test.YtnljihjhmgpcoaaGreatJ30
import Derived.Test.YtnljihjhmgpcoaaGreatJ28
import Derived.Handy
import Derived.Test.YtnljihjhmgpcoaaGreatJ31
import Derived.Test.YtnljihjhmgpcoaaGreatJ33
import Derived.Test.YtnljihjhmgpcoaaGreatJ32
import Derived.Test.YtnljihjhmgpcoaaGreatJ1
import Derived.Test.YtnljihjhmgpcoaaGreatJ34
namespace Go.Proofs.YtnljihjhmgpcoaaGreat
open Go.RowKit Go.ChangeShapes Go.WideShapes Go.ChangeAt Go.Deep
theorem et_cells {w : World} {B : Nat} {A : Option Addr} {l : List Evt} (h : Rd etenc 5 w B A l) {k : Nat} {x : Evt} (hx : l[k]? = some x) :
  ∃ b off, A = some ⟨b, off, none⟩ ∧ b < B ∧ w.cell? ⟨b, off + k * 5, none⟩ = some (.bool x.ism) ∧ w.cell? ⟨b, off + k * 5 + 1, none⟩ = some (.int .i64 x.time) ∧ w.cell? ⟨b, off + k * 5 + 2, none⟩ = some (.int .i64 x.k) ∧ w.cell? ⟨b, off + k * 5 + 3, none⟩ = some (.int .i64 x.t) ∧ w.cell? ⟨b, off + k * 5 + 4, none⟩ = some (.int .i64 x.v) := by
 obtain ⟨b, off, e, hb, hc⟩ := h.at_ hx
 exact ⟨b, off, e, hb, by simpa using hc 0 _ rfl, hc 1 _ rfl, hc 2 _ rfl, hc 3 _ rfl, hc 4 _ rfl⟩
theorem ltime_any (t : Int) (w : World) : Calls Tryz.prog 71 #[.int .i64 t] w fun e w' => e = .returned (.bool (timeI t)) ∧ w = w' := by
 by_cases h1 : -1099511627776 ≤ t
 ·by_cases h2 : t ≤ 1099511627776
  ·have e : timeI t = true := by unfold timeI; simp; omega
   rw [e]
   clear e
   go_enter Tryz.func71, Tryz.ntmps71
   go_wp2
   go_ret
   exact ⟨rfl, rfl⟩
  ·have e : timeI t = false := by unfold timeI; simp; omega
   rw [e]
   have d : decide (t ≤ 1099511627776) = false := by simp; omega
   clear e h2
   go_enter Tryz.func71, Tryz.ntmps71
   go_wp2
   go_ret
   exact ⟨rfl, rfl⟩
 ·have e : timeI t = false := by unfold timeI; simp; omega
  rw [e]
  have d : decide (-1099511627776 ≤ t) = false := by simp; omega
  clear e h1
  go_enter Tryz.func71, Tryz.ntmps71
  go_wp2
  go_ret
  exact ⟨rfl, rfl⟩
theorem eql_rec (k t v : Int) (w : World) : (binOp .eql 47 (.agg #[.int .i64 k, .int .i64 t, .int .i64 v]) (.agg #[.int .i64 0, .int .i64 0, .int .i64 0])).run Tryz.prog w = .ok (.bool (k == 0 && (t == 0 && v == 0))) w := by
 go_simp
 by_cases hk : k = 0 <;> by_cases ht : t = 0 <;> by_cases hv : v = 0 <;> simp [hk, ht, hv]
set_option maxHeartbeats 16000000 in
set_option maxRecDepth 100000 in
theorem lcheck_ok (A : Option Addr) (c n : Nat) (l : List Evt) (w : World) (hn : l.length = n) (h60 : n ≤ 60) (hok : ∀ e ∈ l, etok e = true) (hr : Rd etenc 5 w w.heap.size A l) :
  Calls Tryz.prog 30 #[.slice A n c] w fun r w' => r = .returned (.int .i64 0) ∧ Below w.heap.size w w' := by
 have HN := Lib.hid hn; have HOK := Lib.hid hok
 have d0 : decide (60 < n) = false := by simp; omega
 have d0' : decide ((60 : Int) < (n : Int)) = false := by simp; omega
 clear hn hok
 go_enter Tryz.func30, Tryz.ntmps30
 go_wp2_with fail
 go_loopw [12] (fun i wr => ∃ k : Nat, k ≤ n ∧ i = .int .i64 k ∧ Below w.heap.size w wr) (fun i _ => n - (intOf i).toNat)
 case atStart => exact ⟨0, Nat.zero_le _, rfl, Below.refl _ _⟩
 case round =>
  obtain ⟨k, hk, rfl, hb⟩ := hrel
  by_cases hlt : k < n
  ·obtain ⟨x, hx⟩ : ∃ x, l[k]? = some x := ⟨_, List.getElem?_eq_getElem (by rw [HN.out]; exact hlt)⟩
   obtain ⟨b, off, rfl, hbb, f0, f1, f2, f3, f4⟩ := et_cells (rd_grown hr hb) hx
   have hxo := HOK.out x (List.mem_of_getElem? hx)
   have d1 : decide ((k : Int) < (n : Int)) = true := by simp; omega
   have d1' : decide (k < n) = true := by simp [hlt]
   have k1 : (0 : Int) ≤ (k : Int) := by omega
   have k2 : (k : Int) < (n : Int) := by omega
   have e1 : IntKind.i64.wrap ((k : Int) + 1) = (k : Int) + 1 := IntWalk.i64_in _ (by omega)
   have HL := Lib.hid hlt
   clear hx hlt
   obtain ⟨ism, time, xk, xt, xv⟩ := x
   simp only at f0 f1 f2 f3 f4
   unfold etok at hxo
   simp only at hxo
   have HT := Lib.hid (fun t W => ltime_any t W)
   cases ism with
   | true =>
    rw [if_pos rfl] at hxo
    simp only [Bool.and_eq_true, Bool.or_eq_true, decide_eq_true_eq] at hxo
    obtain ⟨hm, rfl, rfl, rfl⟩ := hxo
    obtain ⟨T, hT⟩ : ∃ T, timeI time = T := ⟨_, rfl⟩
    have HTT := Lib.hid (fun W => by have := HT.out time W; rwa [hT] at this)
    have d2 : T = false → (time == 9223372036854775807) = true := fun h => by
     rcases hm with hm | hm
     ·rw [hT, h] at hm; cases hm
     ·simp [hm]
    have HM := Lib.hid hT
    have ht0 : timeI 0 = true := by decide
    have HT0 := Lib.hid (fun W => by have := HT.out 0 W; rwa [ht0] at this)
    clear hm hT ht0
    cases T with
    | true =>
     clear d2
     go_wp2_with (first | (go_at_call 71; (with_reducible refine (HTT.out _).mono ?_); rintro r w2 ⟨rfl, rfl⟩) | (go_at_call 71; (with_reducible refine (HT0.out _).mono ?_); rintro r w2 ⟨rfl, rfl⟩))
     all_goals
      go_roundw
      case rel => exact ⟨k + 1, HL.out, by go_num, below_new hb _⟩
      case measure => simp [intOf]; omega
    | false =>
     have d3 := d2 rfl
     clear d2
     go_wp2_with (first | (go_at_call 71; (with_reducible refine (HTT.out _).mono ?_); rintro r w2 ⟨rfl, rfl⟩) | (go_at_call 71; (with_reducible refine (HT0.out _).mono ?_); rintro r w2 ⟨rfl, rfl⟩))
     all_goals
      go_roundw
      case rel => exact ⟨k + 1, HL.out, by go_num, below_new hb _⟩
      case measure => simp [intOf]; omega
   | false =>
    rw [if_neg (by simp)] at hxo
    simp only [Bool.and_eq_true, decide_eq_true_eq] at hxo
    obtain ⟨rfl, hm⟩ := hxo
    have ht0 : timeI 0 = true := by decide
    have HT0 := Lib.hid (fun W => by have := HT.out 0 W; rwa [ht0] at this)
    have HTT := Lib.hid (fun W => by have := HT.out xt W; rwa [hm] at this)
    have hq := eql_rec xk xt xv
    obtain ⟨Z, hZ⟩ : ∃ Z, (xk == 0 && (xt == 0 && xv == 0)) = Z := ⟨_, rfl⟩
    rw [hZ] at hq
    clear hm ht0 hZ
    cases Z
    all_goals
     go_wp2_with (first | (go_at_call 71; (with_reducible refine (HTT.out _).mono ?_); rintro r w2 ⟨rfl, rfl⟩) | (go_at_call 71; (with_reducible refine (HT0.out _).mono ?_); rintro r w2 ⟨rfl, rfl⟩))
     all_goals
      go_roundw
      case rel => exact ⟨k + 1, HL.out, by go_num, below_new hb _⟩
      case measure => simp [intOf]; omega
  ·obtain rfl : k = n := by omega
   have d1 : decide ((k : Int) < (k : Int)) = false := by simp
   have d1' : decide (k < k) = false := by simp
   go_wp2_with fail
   go_ret
   exact ⟨rfl, hb⟩
theorem own_lt_far2 {α : Type} {enc : α → List Value} {sz : Nat} {w : World} {base g : Nat} {e : TypeId} {v : Value} {l : List α} (h : Own enc sz w base e v l) (hg : g < base) : v.ownBlock = none ∨ v.ownBlock ≠ some g := by
 cases hv : v.ownBlock with
 | none => exact .inl rfl
 | some k =>
  have := (World.ownsRow.lt h k hv).1
  exact .inr (by simp; omega)
theorem own_ltf {α : Type} {enc : α → List Value} {sz : Nat} {w : World} {base g : Nat} {e : TypeId} {v : Value} {l : List α} (h : Own enc sz w base e v l) (hg : g < base) : some g ≠ v.ownBlock := fun e => by
 have := (World.ownsRow.lt h g e.symm).1
 omega
theorem rc_el : ElOk Tryz.prog 34 47 3 24 := elOk rec_info Tryz.underlying34 rfl (by decide) (by decide)
theorem rc_one : OneCells rcenc := by
 intro x u hu; simp [rcenc] at hu; rcases hu with rfl | rfl | rfl <;> rfl
def MarkP (mb : Nat) (m : Int) (e : Evt) (w : World) (r : Ending) (w' : World) : Prop := r = .returned (.int .i64 m) ∧ Loc w' [(mb, [.int .i64 (markB m e)])] ∧ w.grownBy w' (some mb)
set_option maxHeartbeats 4000000 in
theorem marker1_any (mb : Nat) (m : Int) (e : Evt) (w : World) (hl : Loc w [(mb, [.int .i64 m])]) :
  Calls Tryz.prog 72 #[.agg #[.bool e.ism, .int .i64 e.time, .int .i64 e.k, .int .i64 e.t, .int .i64 e.v], .pointer (some ⟨mb, 0, none⟩)] w (MarkP mb m e w) := by
 obtain ⟨ism, time, k, t, v⟩ := e
 dsimp only
 have hmb : mb < w.heap.size := hl.1
 have hF := hl
 (repeat unfold Loc at hF)
 have hla := hl.old (.cells #[.bool ism, .int .i64 time, .int .i64 k, .int .i64 t, .int .i64 v] 67)
 cases ism with
 | false =>
  have hm : markB m ⟨false, time, k, t, v⟩ = m := rfl
  unfold MarkP
  rw [hm]
  clear hm
  go_enter Tryz.func72, Tryz.ntmps72
  go_wp2_with fail
  go_ret
  exact ⟨rfl, hla, World.grownBy_alloc w _ _⟩
 | true =>
  have hm : markB m ⟨true, time, k, t, v⟩ = max m time := rfl
  unfold MarkP
  rw [hm]
  clear hm
  have hgr : ∀ z, w.grownBy ((w.setCell ⟨mb, 0, none⟩ z).alloc (.cells #[.bool true, .int .i64 time, .int .i64 k, .int .i64 t, .int .i64 v] 67)) (some mb) := fun z =>
   ⟨rfl, rfl, rfl, by simp [World.setCell], fun q hq hne => by
    have h1 : (w.setCell ⟨mb, 0, none⟩ z).heap[q]? = w.heap[q]? := Below.heap_setCell _ _ _ _ (fun e => hne (by rw [e]))
    rw [← h1]
    exact Below.heap_alloc _ _ _ (by simpa [World.setCell] using hq)⟩
  go_enter Tryz.func72, Tryz.ntmps72
  go_wp2_with fail
  go_ret
  exact ⟨rfl, (hl.put (by simp) 0 _ (by simp)).old _, hgr _⟩
theorem marker_any (w : World) : Calls Tryz.prog 31 #[] w fun r w' => r = .returned (.func (.func 72) #[] #[.pointer (some ⟨w.heap.size, 0, none⟩)]) ∧ w' = w.alloc (.cells #[.int .i64 (-9223372036854775808)] 2) := by
 go_enter Tryz.func31, Tryz.ntmps31
 go_wp2
 go_ret
 exact ⟨rfl, rfl⟩
def SplitP (l : List Evt) (w : World) (r : Ending) (w' : World) : Prop := ∃ v1 v2, r = .returned (.tuple #[v1, v2, .int .i64 0]) ∧ Own rcenc 3 w' w.heap.size 47 v1 (rightL low64 l) ∧ Own rcenc 3 w' w.heap.size 47 v2 (lateL low64 l) ∧ Below w.heap.size w w'
set_option maxHeartbeats 16000000 in
set_option maxRecDepth 100000 in
theorem lsplit_any (A : Option Addr) (c n : Nat) (l : List Evt) (w : World) (hn : l.length = n) (h60 : n ≤ 60) (hok : ∀ e ∈ l, etok e = true) (hr : Rd etenc 5 w w.heap.size A l) :
  Calls Tryz.prog 13 #[.slice A n c] w (SplitP l w) := by
 have HN := Lib.hid hn
 have HC := Lib.hid (lcheck_ok A c n l w hn h60 hok hr)
 clear hn hok
 go_enter Tryz.func13, Tryz.ntmps13
 go_wp2_with fail
 go_at_call 30
 refine HC.out.mono ?_
 rintro r w2 ⟨rfl, hb2⟩
 go_wp2_with fail
 go_at_call 31
 refine (marker_any w2).mono ?_
 rintro r w3 ⟨rfl, rfl⟩
 obtain ⟨mb, hmb⟩ : ∃ mb, w2.heap.size = mb := ⟨_, rfl⟩
 have hl0 := (Loc.nil w2).new [.int .i64 (-9223372036854775808)] 2
 have hb0 : Below w.heap.size w (w2.alloc (.cells #[.int .i64 (-9223372036854775808)] 2)) := below_new hb2 _
 have hwm : w.heap.size ≤ mb := by rw [← hmb]; exact hb2.size
 rw [hmb] at hl0 ⊢
 clear hmb hb2
 go_wp2_with fail
 go_loopw [2, 3, 18] (fun v2 v3 i wr => ∃ k : Nat, k ≤ n ∧ i = .int .i64 k ∧ Own rcenc 3 wr (mb + 1) 47 v2 (rightL low64 (l.take k)) ∧ Own rcenc 3 wr (mb + 1) 47 v3 (lateL low64 (l.take k)) ∧ (v2.ownBlock = none ∨ v2.ownBlock ≠ v3.ownBlock) ∧ Loc wr [(mb, [.int .i64 (markA (l.take k))])] ∧ Below w.heap.size w wr) (fun _ _ i _ => n - (intOf i).toNat)
 case atStart => exact ⟨0, Nat.zero_le _, rfl, by simpa [rightL] using Own.nil _ _ _, by simpa [lateL] using Own.nil _ _ _, .inl rfl, hl0, hb0⟩
 case round =>
  obtain ⟨k, hk, rfl, own2, own3, hap, hlr, hb⟩ := hrel
  clear hl0 hb0
  by_cases hlt : k < n
  ·obtain ⟨x, hx⟩ : ∃ x, l[k]? = some x := ⟨_, List.getElem?_eq_getElem (by rw [HN.out]; exact hlt)⟩
   obtain ⟨b, off, rfl, hbb, f0, f1, f2, f3, f4⟩ := et_cells (rd_grown hr hb) hx
   have d1 : decide ((k : Int) < (n : Int)) = true := by simp; omega
   have d1' : decide (k < n) = true := by simp [hlt]
   have k1 : (0 : Int) ≤ (k : Int) := by omega
   have k2 : (k : Int) < (n : Int) := by omega
   have e1 : IntKind.i64.wrap ((k : Int) + 1) = (k : Int) + 1 := IntWalk.i64_in _ (by omega)
   have htk : l.take (k + 1) = l.take k ++ [x] := by rw [List.take_add_one, hx]; rfl
   have hR : rightL low64 (l.take (k + 1)) = rightL low64 (l.take k) ++ if rightB (markA (l.take k)) x = true then [recO x] else [] := by rw [htk, rightL_snoc]; rfl
   have hLt : lateL low64 (l.take (k + 1)) = lateL low64 (l.take k) ++ if lateB (markA (l.take k)) x = true then [recO x] else [] := by rw [htk, lateL_snoc]; rfl
   have hM : markA (l.take (k + 1)) = markB (markA (l.take k)) x := by rw [htk]; simp [markA, List.foldl_append]
   obtain ⟨m, hm⟩ : ∃ m, m = markA (l.take k) := ⟨_, rfl⟩
   rw [← hm] at hR hLt hM hlr
   have HL := Lib.hid hlt; have HR := Lib.hid hR; have HLT := Lib.hid hLt; have HM := Lib.hid hM; have HAP := Lib.hid hap
   have hlen2 : (rightL low64 (l.take k)).length ≤ 60 := by have := rightL_len (l.take k) low64; rw [List.length_take] at this; omega
   have hlen3 : (lateL low64 (l.take k)).length ≤ 60 := by have := lateL_len (l.take k) low64; rw [List.length_take] at this; omega
   have hmr : mb < wr.heap.size := hlr.1
   have HMK := Lib.hid (fun W h => marker1_any mb m x W h)
   clear hx hlt htk hR hLt hM hap hm
   obtain ⟨ism, time, xk, xt, xv⟩ := x
   simp only at f0 f1 f2 f3 f4
   have hlx := (Loc.nil wr).new [.bool ism, .int .i64 time, .int .i64 xk, .int .i64 xt, .int .i64 xv] 67
   have hb1 : Below w.heap.size w (wr.alloc (.cells #[.bool ism, .int .i64 time, .int .i64 xk, .int .i64 xt, .int .i64 xv] 67)) := below_new hb _
   go_wp2_with fail
   go_at_call 72
   refine (HMK.out _ (hlr.old _)).mono ?_
   rintro r w5 ⟨rfl, hlm, hgr⟩
   replace hlx := hlx.grown hgr (by intro q hq; rw [List.mem_singleton] at hq; subst hq; simp; omega)
   have own2' := (own2.alloc _).grown hgr (own_lt_far2 own2 (Nat.lt_succ_self _))
   have own3' := (own3.alloc _).grown hgr (own_lt_far2 own3 (Nat.lt_succ_self _))
   have hb5 : Below w.heap.size w w5 := hb1.trans (below_of_grown hgr (fun q hq => by cases hq; exact hwm) hb1.size)
   clear hlr hgr own2 own3 hb1
   have hF := hlx
   (repeat unfold Loc at hF)
   have hs5 := hlm.1
   cases ism with
   | true =>
    have r1 : rightB m ⟨true, time, xk, xt, xv⟩ = false := rfl
    have r2 : lateB m ⟨true, time, xk, xt, xv⟩ = false := rfl
    have R1 := Lib.hid r1; have R2 := Lib.hid r2
    clear r1 r2
    go_wp2_with fail
    go_roundw
    case rel => exact ⟨k + 1, HL.out, by go_num, by rw [HR.out, R1.out]; simpa using own2', by rw [HLT.out, R2.out]; simpa using own3', HAP.out, by rw [HM.out]; exact hlm, hb5⟩
    case measure => simp [intOf]; omega
   | false =>
    by_cases ht : xt < m
    ·have r1 : rightB m ⟨false, time, xk, xt, xv⟩ = false := by simp [rightB, ht]
     have r2 : lateB m ⟨false, time, xk, xt, xv⟩ = true := by simp [lateB, ht]
     have R1 := Lib.hid r1; have R2 := Lib.hid r2
     have d3 : decide (xt < m) = true := by simp [ht]
     clear r1 r2 ht
     go_wp2_with (at_builtin; refine wpList_app rc_el rfl (.tmp 39) (.tmp 42) rfl (mb + 1) rcenc_len rc_one (lateL low64 (l.take k)) [⟨xk, xt, xv, 0⟩] rfl (own3'.alloc _) rfl rfl (flat_new _ _ _ _ rfl _ rfl) (by omega) (by simp; omega) ?_; intro v7 w7 own7 hgr7 hb7 hl7)
     go_roundw
     case rel => exact ⟨k + 1, HL.out, by go_num, by rw [HR.out, R1.out]; simpa using (own2'.alloc _).grown hgr7 HAP.out, by rw [HLT.out, R2.out]; exact own7, apart_after (own2'.alloc _) HAP.out hl7, by rw [HM.out]; exact (hlm.old _).grown hgr7 (by intro q hq; rw [List.mem_singleton] at hq; subst hq; exact own_ltf own3' (Nat.lt_succ_self mb)), (below_new hb5 _).trans (Below.mono hb7 (by omega))⟩
     case measure => simp [intOf]; omega
    ·have r1 : rightB m ⟨false, time, xk, xt, xv⟩ = true := by simp [rightB, ht]
     have r2 : lateB m ⟨false, time, xk, xt, xv⟩ = false := by simp [lateB, ht]
     have R1 := Lib.hid r1; have R2 := Lib.hid r2
     have d3 : decide (xt < m) = false := by simp [ht]
     clear r1 r2 ht
     go_wp2_with (at_builtin; refine wpList_app rc_el rfl (.tmp 25) (.tmp 28) rfl (mb + 1) rcenc_len rc_one (rightL low64 (l.take k)) [⟨xk, xt, xv, 0⟩] rfl (own2'.alloc _) rfl rfl (flat_new _ _ _ _ rfl _ rfl) (by omega) (by simp; omega) ?_; intro v7 w7 own7 hgr7 hb7 hl7)
     go_roundw
     case rel => exact ⟨k + 1, HL.out, by go_num, by rw [HR.out, R1.out]; exact own7, by rw [HLT.out, R2.out]; simpa using (own3'.alloc _).grown hgr7 (apart_symm HAP.out), apart_symm (apart_after (own3'.alloc _) (apart_symm HAP.out) hl7), by rw [HM.out]; exact (hlm.old _).grown hgr7 (by intro q hq; rw [List.mem_singleton] at hq; subst hq; exact own_ltf own2' (Nat.lt_succ_self mb)), (below_new hb5 _).trans (Below.mono hb7 (by omega))⟩
     case measure => simp [intOf]; omega
  ·obtain rfl : k = n := by omega
   have d1 : decide ((k : Int) < (k : Int)) = false := by simp
   have d1' : decide (k < k) = false := by simp
   go_wp2_with fail
   go_ret3
   rw [List.take_of_length_le (by rw [HN.out]; exact Nat.le_refl _)] at own2 own3
   exact ⟨_, _, rfl, own2.mono (by omega), own3.mono (by omega), hb⟩
/-- A slice, as an element of a slice. -/
structure Sl where
 a : Option Addr
 n : Nat
 c : Nat
def slE (s : Sl) : List Value := [.slice s.a s.n s.c]
theorem sl_len (s : Sl) : (slE s).length = 1 := rfl
theorem sl_one : OneCells slE := by
 intro x u hu; simp [slE] at hu; subst hu; rfl
def slOk {α : Type} (enc : α → List Value) (sz : Nat) (w : World) (s : Sl) (l : List α) : Prop := l.length = s.n ∧ s.n ≤ s.c ∧ (s.a = none → s.c = 0) ∧ Rd enc sz w w.heap.size s.a l
/-- A slice that reads as a list of lists. -/
def RdL {α : Type} (enc : α → List Value) (sz : Nat) (w : World) (A : Option Addr) (ls : List (List α)) : Prop :=
 ∃ ds : List Sl, ds.length = ls.length ∧ Rd slE 1 w w.heap.size A ds ∧ ∀ (k : Nat) (d : Sl) (l : List α), ds[k]? = some d → ls[k]? = some l → slOk enc sz w d l
theorem RdL.grow {α : Type} {enc : α → List Value} {sz : Nat} {w w' : World} {A : Option Addr} {ls : List (List α)} (h : RdL enc sz w A ls) (hb : Below w.heap.size w w') : RdL enc sz w' A ls := by
 obtain ⟨ds, h1, h2, h3⟩ := h
 exact ⟨ds, h1, h2.grow hb, fun k d l hd hl => by obtain ⟨a, b, c, r⟩ := h3 k d l hd hl; exact ⟨a, b, c, r.grow hb⟩⟩
theorem RdL.at_ {α : Type} {enc : α → List Value} {sz : Nat} {w : World} {A : Option Addr} {ls : List (List α)} (h : RdL enc sz w A ls) {k : Nat} {l : List α} (hk : ls[k]? = some l) :
  ∃ b off A' n' c', A = some ⟨b, off, none⟩ ∧ b < w.heap.size ∧ w.cell? ⟨b, off + k, none⟩ = some (.slice A' n' c') ∧ l.length = n' ∧ n' ≤ c' ∧ (A' = none → c' = 0) ∧ Rd enc sz w w.heap.size A' l := by
 obtain ⟨ds, h1, h2, h3⟩ := h
 have hlt := (List.getElem?_eq_some_iff.1 hk).1
 obtain ⟨d, hd⟩ : ∃ d, ds[k]? = some d := ⟨_, List.getElem?_eq_getElem (by omega)⟩
 obtain ⟨b, off, e, hb, hc⟩ := h2.at_ hd
 obtain ⟨a1, a2, a3, a4⟩ := h3 k d l hd hk
 exact ⟨b, off, d.a, d.n, d.c, e, hb, by simpa using hc 0 _ rfl, a1, a2, a3, a4⟩
set_option maxHeartbeats 8000000 in
theorem mevents_ok (A : Option Addr) (c n : Nat) (ls : List (List Evt)) (w : World) (hn : ls.length = n) (h6 : n ≤ 1000) (hok : ∀ l ∈ ls, l.length ≤ 60 ∧ ∀ e ∈ l, etok e = true) (hr : RdL etenc 5 w A ls) :
  Calls Tryz.prog 22 #[.slice A n c] w fun r w' => r = .returned (.int .i64 0) ∧ Below w.heap.size w w' := by
 have HN := Lib.hid hn; have HOK := Lib.hid hok
 clear hn hok
 go_enter Tryz.func22, Tryz.ntmps22
 go_wp2_with fail
 go_loopw [8] (fun i wr => ∃ k : Nat, k ≤ n ∧ i = .int .i64 k ∧ Below w.heap.size w wr) (fun i _ => n - (intOf i).toNat)
 case atStart => exact ⟨0, Nat.zero_le _, rfl, Below.refl _ _⟩
 case round =>
  obtain ⟨k, hk, rfl, hb⟩ := hrel
  by_cases hlt : k < n
  ·obtain ⟨l, hl⟩ : ∃ l, ls[k]? = some l := ⟨_, List.getElem?_eq_getElem (by rw [HN.out]; exact hlt)⟩
   obtain ⟨b, off, A', n', c', rfl, hbb, f0, a1, a2, a3, a4⟩ := (hr.grow hb).at_ hl
   have hlo := HOK.out l (List.mem_of_getElem? hl)
   have HC := Lib.hid (lcheck_ok A' c' n' l wr a1 (by rw [← a1]; exact hlo.1) hlo.2 a4)
   have d1 : decide ((k : Int) < (n : Int)) = true := by simp; omega
   have d1' : decide (k < n) = true := by simp [hlt]
   have k1 : (0 : Int) ≤ (k : Int) := by omega
   have k2 : (k : Int) < (n : Int) := by omega
   have e1 : IntKind.i64.wrap ((k : Int) + 1) = (k : Int) + 1 := IntWalk.i64_in _ (by omega)
   have HL := Lib.hid hlt
   clear hl hlt a1 a2 a3 a4 hlo
   go_wp2_with fail
   go_at_call 30
   refine HC.out.mono ?_
   rintro r w2 ⟨rfl, hb2⟩
   go_wp2_with fail
   go_roundw
   case rel => exact ⟨k + 1, HL.out, by go_num, below_then hb hb2⟩
   case measure => simp [intOf]; omega
  ·obtain rfl : k = n := by omega
   have d1 : decide ((k : Int) < (k : Int)) = false := by simp
   have d1' : decide (k < k) = false := by simp
   go_wp2_with fail
   go_ret
   exact ⟨rfl, hb⟩
/-- A list, nil too, appended to a row of the call's own. -/
theorem wpList_appL {P : Program} {t e : TypeId} {size bytes : Nat} (hT : ElOk P t e size bytes) {w : World} {ops : Array Oper} {rest : List Oper} {o : Oper} {a : Act} {Q : Exit → Act → World → Prop} (hgd : o.guard = none) (s x : Operand)
  (ho : o.op = .call { callee := .builtin .append, args := #[s, x], argTypes := #[t, t] }) (base : Nat)
  {α : Type} {enc : α → List Value} (henc : ∀ y, (enc y).length = size) (hone : OneCells enc) (l ys : List α) {v : Value} (hs : a.eval s = v) (hown : Own enc size w base e v l)
  {A : Option Addr} {n c : Nat} (hx : a.eval x = .slice A n c) (hz : A = none → c = 0) (hnl : ys.length = n) (hrd : Rd enc size w w.heap.size A ys)
  (hsm : l.length + n ≤ 1099511627776) (hbase : base ≤ w.heap.size)
  (h : ∀ v' w', Own enc size w' base e v' (l ++ ys) → w.grownBy w' v.ownBlock → Below base w w' → (v'.ownBlock = v.ownBlock ∨ ∀ k, v'.ownBlock = some k → w.heap.size ≤ k) → wpList P ops Q rest (a.put o.dst v') w') : wpList P ops Q (o :: rest) a w := by
 cases A with
 | none =>
  obtain rfl := hz rfl
  obtain rfl := rd_none hrd
  obtain rfl : n = 0 := hnl.symm
  obtain ⟨i, z, h1, h2, h3, h4, h5, h6, h7, h8⟩ := hT
  refine wpList_append_own_none hgd s x t ho base e i size h1 h2 v l.length (l.flatMap enc) hs hown hx (h v w (by rw [List.append_nil]; exact hown) ⟨rfl, rfl, rfl, Nat.le_refl _, fun _ _ _ => rfl⟩ (Below.refl _ _) (.inl rfl))
 | some ad =>
  refine wpList_app hT hgd s x ho base henc hone l ys hs hown hx hnl (fun j u hj => ?_) hsm hbase h
  by_cases hy : ys = []
  ·subst hy; simp at hj
  ·obtain ⟨b, off, e', _, _⟩ := hrd hy
   simp only [Option.some.injEq] at e'
   subst e'
   exact rd_flat henc hrd j u hj
/-- An expression of a root and its parts. -/
def mkE (k n p : Int) : List Ex → Ex
 | [] => .lf k n p
 | [e] => .un k p e
 | e :: f :: _ => .bn k p e f
def szs (es : List Ex) : Nat := (es.map Ex.size).sum
def segs : List Ex → Int → List Nd
 | [], _ => []
 | e :: es, o => e.flat o ++ segs es (o + e.size)
theorem segs_snoc (e : Ex) : ∀ (es : List Ex) (o : Int), segs (es ++ [e]) o = segs es o ++ e.flat (o + szs es)
 | [], o => by simp [segs, szs]
 | f :: es, o => by
  simp only [List.cons_append, segs, segs_snoc e es, List.append_assoc]
  congr 3
  simp [szs]; omega
theorem segs_len : ∀ (es : List Ex) (o : Int), (segs es o).length = szs es
 | [], o => by simp [segs, szs]
 | f :: es, o => by simp [segs, szs, flat_len, segs_len es]
def fstA (es : List Ex) (j : Nat) : Int := if j = 0 then 0 else szs (es.take 1) - 1
def sndB (es : List Ex) (j : Nat) : Int := if j ≤ 1 then 0 else szs (es.take j) - 1
theorem mk_flat {k n p : Int} {es : List Ex} (h : es.length ≤ 2) (hn : es ≠ [] → n = 0) : (mkE k n p es).flat 0 = segs es 0 ++ [⟨k, n, fstA es es.length, sndB es es.length, p⟩] := by
 rcases es with _ | ⟨e, _ | ⟨f, _ | ⟨g, es⟩⟩⟩
 ·simp [mkE, Ex.flat, segs, fstA, sndB]
 ·simp [mkE, Ex.flat, segs, fstA, sndB, szs, hn]
 ·simp [mkE, Ex.flat, segs, fstA, sndB, szs, hn]
 ·simp at h
theorem mk_parts {k n p : Int} {es : List Ex} (hg : (mkE k n p es).good) (h : es.length ≤ 2) : (1 ≤ k ∧ k ≤ 19) ∧ atp p ∧ szs es + 1 ≤ 60 ∧ (∀ e ∈ es, e.good) := by
 obtain ⟨h1, h2, h3⟩ := hg
 rcases es with _ | ⟨e, _ | ⟨f, _ | ⟨g, es⟩⟩⟩
 ·simp only [mkE, Ex.ok, lfok, Ex.size, Ex.deep] at h1 h2 h3
  exact ⟨by omega, h1.2, by simp [szs], by simp⟩
 ·simp only [mkE, Ex.ok, Ex.size, Ex.deep] at h1 h2 h3
  refine ⟨by omega, h1.2.1, by simp [szs]; omega, fun x hx => ?_⟩
  rw [List.mem_singleton] at hx
  subst hx
  exact ⟨h1.2.2, by omega, by omega⟩
 ·simp only [mkE, Ex.ok, Ex.size, Ex.deep] at h1 h2 h3
  refine ⟨by omega, h1.2.1, by simp [szs]; omega, fun x hx => ?_⟩
  simp only [List.mem_cons, List.not_mem_nil, or_false] at hx
  rcases hx with rfl | rfl
  ·exact ⟨h1.2.2.1, by omega, by omega⟩
  ·exact ⟨h1.2.2.2, by omega, by omega⟩
 ·simp at h
theorem szs_succ {es : List Ex} {j : Nat} {e : Ex} (h : es[j]? = some e) : szs (es.take (j + 1)) = szs (es.take j) + e.size := by
 rw [List.take_add_one, h]; simp [szs]
theorem szs_le (es : List Ex) (j : Nat) : szs (es.take j) ≤ szs es := by
 conv => rhs; rw [← List.take_append_drop j es]
 simp only [szs, List.map_append, List.sum_append]; omega
theorem segs_succ {es : List Ex} {j : Nat} {e : Ex} (h : es[j]? = some e) : segs (es.take (j + 1)) 0 = segs (es.take j) 0 ++ e.flat (szs (es.take j) : Int) := by
 rw [List.take_add_one, h, Option.toList, segs_snoc]; simp
set_option maxHeartbeats 16000000 in
set_option maxRecDepth 100000 in
theorem node_any (k p : Int) (es : List Ex) (P : Option Addr) (m pc : Nat) (w : World) (hm : es.length = m) (hk : prtN k = m) (hg : (mkE k 0 p es).good) (hr : RdL nenc 5 w P (es.map (·.flat 0))) :
  Calls Tryz.prog 174 #[.int .u8 k, .int .i64 0, .int .i64 p, .slice P m pc] w (PartP (mkE k 0 p es) w) := by
 have hm2 : m ≤ 2 := by rw [← hk]; unfold prtN; split; omega; split <;> omega
 obtain ⟨hk19, hp, hsz, hes⟩ := mk_parts hg (by omega)
 obtain ⟨hp0, hp4⟩ := hp
 have hflat := mk_flat (k := k) (n := 0) (p := p) (es := es) (by omega) (fun _ => rfl)
 rw [hm] at hflat
 have hparts := fun W => nparts_any k hk19 W
 rw [hk] at hparts
 have hcheck := ncheck_any _ hg
 obtain ⟨mb, hmb⟩ : ∃ mb, w.heap.size = mb := ⟨_, rfl⟩
 have HM := Lib.hid hm; have HR := Lib.hid hr; have HES := Lib.hid hes; have HFL := Lib.hid hflat; have HP := Lib.hid hparts; have HC := Lib.hid hcheck; have HSZ := Lib.hid hsz; have HMB := Lib.hid hmb
 have q1 : decide (p < 0) = false := by simp; omega
 have q2 : decide (400 < p) = false := by simp; omega
 clear hm hr hes hflat hparts hcheck hsz hk hg hp0 hp4
 have hl0 := (Loc.nil w).new [.int .u8 k, .int .i64 0, .int .i64 0, .int .i64 0, .int .i64 p] 133
 have hb0 : Below w.heap.size w (w.alloc (.cells #[.int .u8 k, .int .i64 0, .int .i64 0, .int .i64 0, .int .i64 p] 133)) := below_new (Below.refl _ _) _
 rw [hmb] at hl0
 go_enter Tryz.func174, Tryz.ntmps174
 go_wp2_with fail
 go_at_call 158
 refine (HP.out _).mono ?_
 rintro r x2 ⟨rfl, rfl⟩
 go_wp2_with fail
 go_loopw [13, 57] (fun v i wr => ∃ j : Nat, j ≤ m ∧ i = .int .i64 j ∧ Own nenc 5 wr (mb + 1) 133 v (segs (es.take j) 0) ∧ Loc wr [(mb, [.int .u8 k, .int .i64 0, .int .i64 (fstA es j), .int .i64 (sndB es j), .int .i64 p])] ∧ Below w.heap.size w wr) (fun _ i _ => m - (intOf i).toNat)
 case atStart => exact ⟨0, Nat.zero_le _, rfl, Own.nil _ _ _, hl0, hb0⟩
 case round =>
  obtain ⟨j, hj, rfl, own, hl, hb⟩ := hrel
  by_cases hjm : j < m
  ·obtain ⟨e, he⟩ : ∃ e, es[j]? = some e := ⟨_, List.getElem?_eq_getElem (by rw [HM.out]; exact hjm)⟩
   obtain ⟨b, off, A', n', c', rfl, hbb, f0, a1, a2, a3, a4⟩ := (HR.out.grow hb).at_ (k := j) (l := e.flat 0) (by simp [he])
   rw [flat_len] at a1
   have hge := HES.out e (List.mem_of_getElem? he)
   have hn60 := hge.2.1
   have hT1 := szs_succ he
   have hT2 := szs_le es (j + 1)
   have hlen := segs_len (es.take j) 0
   obtain ⟨T, hT⟩ : ∃ T, szs (es.take j) = T := ⟨_, rfl⟩
   rw [hT] at hT1 hlen
   obtain ⟨T', hT'⟩ : ∃ T', szs (es.take (j + 1)) = T' := ⟨_, rfl⟩
   rw [hT'] at hT1 hT2
   obtain ⟨A1, c1, rfl, -, z1⟩ := own_shape_z own hlen
   have hsg := segs_succ he
   rw [hT] at hsg
   have hsh : (e.flat 0).map (shiftN (T : Int)) = e.flat (T : Int) := by rw [flat_shift _ _ hge.1]; simp
   have hpos := e.size_pos
   have hchk := ncheck_any e hge A' c' n' wr a1 a4
   have hmv : ∀ W : World, Rd nenc 5 W W.heap.size A' (e.flat 0) → Calls Tryz.prog 172 #[.slice A' n' c', .int .i64 (T : Int)] W (fun r w' => ∃ v, r = .returned v ∧ Own nenc 5 w' W.heap.size 133 v (e.flat (T : Int)) ∧ Below W.heap.size W w') := fun W h => by
    have h1 := moved_any (e.flat 0) (T : Int) (by have := HSZ.out; omega) (flat_near hge.1 0 (by omega)) A' c' n' W (by rw [flat_len, a1]) (by omega) a3 (by omega) h
    unfold MovedP at h1
    rwa [hsh] at h1
   have HCH := Lib.hid hchk; have HMV := Lib.hid hmv; have HA4 := Lib.hid a4; have HSG := Lib.hid hsg; have HLN := Lib.hid hlen; have HT := Lib.hid hT; have HT' := Lib.hid hT'; have HJ := Lib.hid hjm; have HFE := Lib.hid (show (e.flat (T : Int)).length = n' by rw [flat_len, a1])
   have d1 : decide ((j : Int) < (m : Int)) = true := by simp; omega
   have d1' : decide (j < m) = true := by simp [hjm]
   have k1 : (0 : Int) ≤ (j : Int) := by omega
   have k2 : (j : Int) < (m : Int) := by omega
   have e1 : IntKind.i64.wrap ((j : Int) + 1) = (j : Int) + 1 := IntWalk.i64_in _ (by omega)
   have e2 : IntKind.i64.wrap ((T' : Int) - 1) = (T' : Int) - 1 := IntWalk.i64_in _ (by have := HSZ.out; omega)
   have ht60 : T + n' = T' ∧ T' ≤ 60 := by have := HSZ.out; omega
   obtain ⟨ht1, ht2⟩ := ht60
   clear he hjm a1 a2 a3 a4 hge hT hT' hsg hsh hchk hmv hlen hl0 hb0 hT1 hT2 hpos hn60 z1
   have hF := hl
   (repeat unfold Loc at hF)
   go_wp2_with fail
   go_at_call 84
   refine HCH.out.mono ?_
   rintro r x3 ⟨rfl, hc3⟩
   have hbx := below_then hb hc3
   have hlx := hl.below hc3
   have ownx := own.below hc3
   have hrx := HA4.out.grow hc3
   clear own hl hF hb hc3 HCH
   have hF := hlx
   (repeat unfold Loc at hF)
   go_wp2_with fail
   go_at_call 172
   refine (HMV.out _ hrx).mono ?_
   rintro r x4 ⟨v4, rfl, own4, hc4⟩
   obtain ⟨A4, c4, rfl, -, z4⟩ := own_shape_z own4 HFE.out
   have hlx4 := hlx.below hc4
   have ownx4 := ownx.below hc4
   have hbx4 := below_then hbx hc4
   have hz4 := hlx4.1
   clear hlx ownx hbx hrx HMV hF
   by_cases hj0 : j = 0
   ·have d0 : ((j : Int) == 0) = true := by simp [hj0]
    have HJ0 := Lib.hid hj0
    clear hj0
    go_wp2_with (at_builtin; refine wpList_appL nd_el rfl (.tmp 67) (.tmp 71) rfl (mb + 1) nenc_len nd_one (segs (es.take j) 0) (e.flat (T : Int)) rfl ownx4 rfl z4 HFE.out (Own.rd nenc_len own4) (by rw [HLN.out]; omega) (by omega) ?_; intro v5 w5 own5 hgr5 hb5 hl5; have hl6 := hlx4.grown hgr5 (by intro q hq; rw [List.mem_singleton] at hq; subst hq; exact own_ltf ownx4 (Nat.lt_succ_self mb)); have hb6 : Below w.heap.size w w5 := hbx4.trans (Below.mono hb5 (by rw [HMB.out]; omega)); rw [← HSG.out] at own5; obtain ⟨A5, c5, rfl, -, -⟩ := own_shape_z own5 (by rw [segs_len]; exact HT'.out : (segs (es.take (j + 1)) 0).length = T'); clear hlx4 ownx4 hbx4 hgr5 hb5 hl5 own4 z4 hz4; have hF := hl6; (repeat unfold Loc at hF))
    have hl7 := hl6.put (by simp) 2 (.int .i64 ((T' : Int) - 1)) (by simp)
    have hb7 : Below w.heap.size w (w5.setCell ⟨mb, 2, none⟩ (.int .i64 ((T' : Int) - 1))) := hb6.setCell (by rw [HMB.out]; exact Nat.le_refl _) _
    go_roundw
    case rel => exact ⟨j + 1, HJ.out, by go_num, own_far_set own5 (Nat.lt_succ_self _) _, by have h1 := hl7; have h2 := HT'.out; rw [HJ0.out] at h1 h2 ⊢; simp [fstA, sndB] at h1 h2 ⊢; rw [h2]; exact h1, hb7⟩
    case measure => simp [intOf]; omega
   ·have d0 : ((j : Int) == 0) = false := by simp; omega
    have HJ0 := Lib.hid (show j = 1 by omega)
    clear hj0
    go_wp2_with (at_builtin; refine wpList_appL nd_el rfl (.tmp 67) (.tmp 71) rfl (mb + 1) nenc_len nd_one (segs (es.take j) 0) (e.flat (T : Int)) rfl ownx4 rfl z4 HFE.out (Own.rd nenc_len own4) (by rw [HLN.out]; omega) (by omega) ?_; intro v5 w5 own5 hgr5 hb5 hl5; have hl6 := hlx4.grown hgr5 (by intro q hq; rw [List.mem_singleton] at hq; subst hq; exact own_ltf ownx4 (Nat.lt_succ_self mb)); have hb6 : Below w.heap.size w w5 := hbx4.trans (Below.mono hb5 (by rw [HMB.out]; omega)); rw [← HSG.out] at own5; obtain ⟨A5, c5, rfl, -, -⟩ := own_shape_z own5 (by rw [segs_len]; exact HT'.out : (segs (es.take (j + 1)) 0).length = T'); clear hlx4 ownx4 hbx4 hgr5 hb5 hl5 own4 z4 hz4; have hF := hl6; (repeat unfold Loc at hF))
    have hl7 := hl6.put (by simp) 3 (.int .i64 ((T' : Int) - 1)) (by simp)
    have hb7 : Below w.heap.size w (w5.setCell ⟨mb, 3, none⟩ (.int .i64 ((T' : Int) - 1))) := hb6.setCell (by rw [HMB.out]; exact Nat.le_refl _) _
    go_roundw
    case rel => exact ⟨j + 1, HJ.out, by go_num, own_far_set own5 (Nat.lt_succ_self _) _, by have h1 := hl7; have h2 := HT'.out; rw [HJ0.out] at h1 h2 ⊢; simp [fstA, sndB] at h1 h2 ⊢; rw [h2]; exact h1, hb7⟩
    case measure => simp [intOf]; omega
  ·obtain rfl : j = m := by omega
   have d1 : decide ((j : Int) < (j : Int)) = false := by simp
   have d1' : decide (j < j) = false := by simp
   have htk : es.take j = es := List.take_of_length_le (by rw [HM.out]; exact Nat.le_refl _)
   rw [htk] at own
   have HTK := Lib.hid htk
   obtain ⟨fa, hfa⟩ : ∃ x, fstA es j = x := ⟨_, rfl⟩
   obtain ⟨sb, hsb⟩ : ∃ x, sndB es j = x := ⟨_, rfl⟩
   have hfl := HFL.out
   rw [hfa, hsb] at hl hfl
   have HFL2 := Lib.hid hfl
   have HFE := Lib.hid (segs_len es 0)
   obtain ⟨T, hT⟩ : ∃ T, szs es = T := ⟨_, rfl⟩
   have hsz := HSZ.out
   rw [hT] at HFE hsz
   clear htk hfa hsb hfl hT hl0 hb0
   have hz4 := hl.1
   have hF := hl
   (repeat unfold Loc at hF)
   go_wp2_with (at_builtin; refine wpList_app nd_el rfl (.tmp 84) (.tmp 86) rfl (mb + 1) nenc_len nd_one (segs es 0) [⟨k, 0, fa, sb, p⟩] rfl (own.alloc _) rfl rfl (flat_new _ _ _ _ (by simp) _ rfl) (by rw [HFE.out]; omega) (by first | omega | (rw [World.size_alloc]; omega)) ?_; intro v5 w5 own5 hgr5 hb5 hl5; rw [← HFL2.out] at own5; have hb6 : Below w.heap.size w w5 := (hb.alloc hb.size _).trans (Below.mono hb5 (by rw [HMB.out]; omega)); obtain ⟨n5, hn5⟩ : ∃ n, (mkE k 0 p es).size = n := ⟨_, rfl⟩; obtain ⟨A5, c5, rfl, -, -⟩ := own_shape_z (n := n5) own5 (by rw [flat_len]; exact hn5); have HN5 := Lib.hid hn5; clear hn5 hF)
   have hrd := Own.rd nenc_len own5
   go_at_call 84
   refine (HC.out _ _ _ _ HN5.out hrd).mono ?_
   rintro r x6 ⟨rfl, hc6⟩
   have hs6 := hb6.size
   go_wp2_with fail
   go_ret2
   exact ⟨_, rfl, (own5.below hc6).mono (by rw [HMB.out]; omega), below_then hb6 hc6⟩
def pt0 : Pt := ⟨0, 0, 0, 0⟩
def ValP (e : Ex) (w : World) (r : Ending) (w' : World) : Prop := r = .returned (.tuple #[.int .i64 (if e.const = true then e.ev pt0 else 0), .bool e.const, .int .i64 0]) ∧ Below w.heap.size w w'
set_option maxHeartbeats 4000000 in
theorem fval_any (e : Ex) (he : e.tgood) (A : Option Addr) (c n : Nat) (w : World) (hn : e.size = n) (hr : Rd nenc 5 w w.heap.size A (e.flat 0)) : Calls Tryz.prog 99 #[.slice A n c] w (ValP e w) := by
 have hk := kof_any e he A c n w hn hr
 have hc := fun W hb => const_any e he.1 A c n W hn (hr.grow hb)
 have hv := fun W hb => evof_any e he pt0 A c n W hn (hr.grow hb)
 unfold ValP
 unfold KofP at hk
 obtain ⟨b, hb⟩ : ∃ b, e.const = b := ⟨_, rfl⟩
 rw [hb] at hc ⊢
 have HK := Lib.hid hk; have HC := Lib.hid hc; have HV := Lib.hid hv
 clear hk hc hv hb hr hn he
 go_enter Tryz.func99, Tryz.ntmps99
 go_wp2_with fail
 go_at_call 124
 refine HK.out.mono ?_
 rintro r x2 ⟨rfl, hb2⟩
 go_wp2_with fail
 go_at_call 131
 refine (HC.out _ hb2).mono ?_
 rintro r x3 ⟨rfl, hb3⟩
 have hb4 := below_then hb2 hb3
 cases b
 ·go_wp2_with fail
  go_ret3
  exact ⟨rfl, hb4⟩
 ·go_wp2_with fail
  go_at_call 32
  refine (HV.out _ hb4).mono ?_
  rintro r x5 ⟨rfl, hb5⟩
  go_wp2_with fail
  go_ret3
  exact ⟨rfl, below_then hb4 hb5⟩
theorem own_one {w : World} {base : Nat} (x : Nd) (hb : base ≤ w.heap.size) : Own nenc 5 (w.alloc (.cells #[.int .u8 x.k, .int .i64 x.n, .int .i64 x.a, .int .i64 x.b, .int .i64 x.p] 133)) base 133 (.slice (some ⟨w.heap.size, 0, none⟩) 1 1) [x] :=
 ⟨by simp [nenc], .inr ⟨w.heap.size, 1, _, rfl, hb, heap_alloc_new _ _, Nat.le_refl _, by simp [maxLen], by simp, by simp [nenc]⟩⟩
def NumP (n p : Int) (w : World) (r : Ending) (w' : World) : Prop := ∃ v, r = .returned v ∧ Own nenc 5 w' w.heap.size 133 v ((Ex.lf 1 n p).flat 0) ∧ Below w.heap.size w w'
set_option maxHeartbeats 4000000 in
theorem numnd_any (n p : Int) (g : Nat) (w : World) (hc : w.cell? ⟨g, 0, none⟩ = some (.int .i64 p)) : Calls Tryz.prog 173 #[.int .i64 n, .pointer (some ⟨g, 0, none⟩)] w (NumP n p w) := by
 go_enter Tryz.func173, Tryz.ntmps173
 go_wp2_with fail
 go_ret
 exact ⟨_, rfl, own_one ⟨1, n, 0, 0, p⟩ (Nat.le_refl _), (Below.refl _ _).alloc (Nat.le_refl _) _⟩
theorem number_call (n p : Int) {w : World} (W : World) {cs : List Value} (h : Env w [(w.heap.size + 1, cs), (w.heap.size, [.int .i64 p])] W) : Calls Tryz.prog 173 #[.int .i64 n, .pointer (some ⟨w.heap.size, 0, none⟩)] W (NumP n p W) := by
 have hl := h.2
 (repeat unfold Loc at hl)
 exact numnd_any n p w.heap.size W (hl.2.2.2.2.1 0)
def optP (o : Option Ex) (v : Value) (w' : World) (base : Nat) : Prop := match o with
 | some e => Own nenc 5 w' base 133 v (e.flat 0)
 | none => v = .slice none 0 0
def FormP (o : Option Ex) (w : World) (r : Ending) (w' : World) : Prop := ∃ v, r = .returned (.agg #[v, .bool o.isSome]) ∧ optP o v w' w.heap.size ∧ Below w.heap.size w w'
/-- A new slice of slices. -/
theorem rdl_new {α : Type} {enc : α → List Value} {sz : Nat} (W : World) (ds : List Sl) (ls : List (List α)) {cs : Array Value} {T : TypeId} (hcs : cs.toList = ds.flatMap slE) (hlen : ds.length = ls.length) (h : ∀ (k : Nat) (d : Sl) (l : List α), ds[k]? = some d → ls[k]? = some l → slOk enc sz W d l) :
  RdL enc sz (W.alloc (.cells cs T)) (some ⟨W.heap.size, 0, none⟩) ls := by
 have hb : Below W.heap.size W (W.alloc (.cells cs T)) := below_new (Below.refl _ _) _
 refine ⟨ds, hlen, fun _ => ⟨W.heap.size, 0, rfl, by simp, fun k x hk j u hu => ?_⟩, fun k d l hd hl => ?_⟩
 ·have hf := flat_at sl_len ds k j x u hk hu
  rw [← hcs] at hf
  rw [World.cell?_alloc_at _ _ _ _ rfl]
  simpa using hf
 ·obtain ⟨a, b, c, r⟩ := h k d l hd hl
  exact ⟨a, b, c, r.grow hb⟩
set_option maxHeartbeats 16000000 in
set_option maxRecDepth 100000 in
theorem form_any (x p : Int) (t : Bool) (hp : atp p) (hx : in64 x) (w : World) : Calls Tryz.prog 152 #[.int .i64 x, .bool t, .int .i64 p] w (FormP (fmE x t p) w) := by
 obtain ⟨o, ho⟩ : ∃ o, fmE x t p = o := ⟨_, rfl⟩
 rw [ho]
 have HO := Lib.hid ho; have HX := Lib.hid hx; have HP := Lib.hid hp
 clear ho hx hp
 have hl0 := (Loc.nil w).new [.int .i64 p] 3
 have hb0 : Below w.heap.size w (w.alloc (.cells #[.int .i64 p] 3)) := below_new (Below.refl _ _) _
 have hz : lfok 1 0 := ⟨by omega, by omega, by omega⟩
 have hbb : Below w.heap.size w ((w.alloc (.cells #[.int .i64 p] 3)).alloc (.cells #[.slice none 0 0, .bool false] 243)) := below_new hb0 _
 have hll : Loc ((w.alloc (.cells #[.int .i64 p] 3)).alloc (.cells #[.slice none 0 0, .bool false] 243)) [(w.heap.size + 1, [.slice none 0 0, .bool false]), (w.heap.size, [.int .i64 p])] := by
  have h := hl0.new [.slice none 0 0, .bool false] 243
  rwa [World.size_alloc] at h
 have hE0 : Env w [(w.heap.size + 1, [.slice none 0 0, .bool false]), (w.heap.size, [.int .i64 p])] _ := ⟨hbb, hll⟩
 have HN := Lib.hid (fun (n : Int) (W : World) (h : Env w [(w.heap.size + 1, [.slice none 0 0, .bool false]), (w.heap.size, [.int .i64 p])] W) => number_call n p W h)
 have HZ := Lib.hid hz
 clear hz hbb hll hl0 hb0
 cases t
 ·by_cases hx0 : 0 ≤ x
  ·have d0 : decide (0 ≤ x) = true := by simp [hx0]
   have ho : o = some (.lf 1 x p) := by rw [← HO.out]; simp [fmE, hx0]
   subst ho
   clear hx0
   go_enter Tryz.func152, Tryz.ntmps152
   go_wp2_with fail
   go_at_call 173
   refine (HN.out x _ hE0).mono ?_
   rintro r x3 ⟨v3, rfl, own3, hb3⟩
   obtain ⟨A3, c3, rfl, hc3, z3⟩ := own_shape_z (n := 1) own3 rfl
   have hHeld := Env.step hb3 hE0
   have hl9 := hHeld.2
   have hb9 := hHeld.1
   have hs9 := hb9.size
   (repeat unfold Loc at hl9)
   go_wp2_with fail
   refine bodyPost_ret (v := _) (by rw [results_cell1 Tryz.results152]; go_simp; rfl) rfl ?_
   exact ⟨_, rfl, (own_far_set (own_far_set (own3.mono (by simp)) (Nat.lt_succ_self (w.heap.size + 1)) _) (Nat.lt_succ_self (w.heap.size + 1)) _).mono (Nat.le_add_right _ 2), (hb9.setCell (Nat.le_succ _) _).setCell (Nat.le_succ _) _⟩
  ·have d0 : decide (0 ≤ x) = false := by simp [hx0]
   obtain ⟨y, hy⟩ : ∃ y, wrap64 (-x) = y := ⟨_, rfl⟩
   have e0 : IntKind.i64.wrap (-x) = y := by rw [← hy]; exact IntWalk.i64_left _
   by_cases hy0 : 0 < y
   ·have d1 : decide (0 < y) = true := by simp [hy0]
    have ho : o = some (.un 5 p (.lf 1 y p)) := by rw [← HO.out]; simp [fmE, hx0, hy, hy0]
    subst ho
    have hyy : 0 ≤ y ∧ y ≤ 9223372036854775807 := by have := wrap_in (-x); rw [hy] at this; unfold in64 at this; omega
    have hg : (mkE 5 0 p [Ex.lf 1 y p]).good := ⟨⟨.inl rfl, HP.out, ⟨⟨by omega, hyy, by omega⟩, HP.out⟩⟩, by simp [mkE, Ex.size], by simp [mkE, Ex.deep]⟩
    have HG := Lib.hid hg
    clear hx0 hy0 hyy hg
    go_enter Tryz.func152, Tryz.ntmps152
    go_wp2_with fail
    refine hB (Env w [(w.heap.size + 1, [.slice none 0 0, .bool false]), (w.heap.size, [.int .i64 p])]) fun hHeld => ?_
    refine hT 1 ?_; refine hT 2 ?_
    refine hW 0 ?_
    refine hT 3 ?_
    refine hC 4 fun K hK => ?_; go_simp
    go_at_call 173
    refine (HN.out y _ hHeld).mono ?_
    rintro r x4 ⟨v4, rfl, own4, hb4⟩
    obtain ⟨A4, c4, rfl, hc4, z4⟩ := own_shape_z (n := 1) own4 rfl
    have hEhb4 := Env.step hb4 (by assumption); (try (have hqhb4 := kq hb4; (repeat rw [World.size_drew] at hqhb4); (repeat rw [World.size_alloc] at hqhb4); have hrhb4 := hqhb4; (repeat unfold Loc at hrhb4)))
    (refine hKp hK fun hHeld => ?_; clear hK K)
    refine hC 5 fun K hK => ?_; go_simp
    (refine hKp hK fun hHeld => ?_; clear hK K)
    refine hC 6 fun K hK => ?_; go_simp
    have hs8 := hHeld.2.1
    go_at_call 174
    refine (node_any 5 p [Ex.lf 1 y p] _ 1 1 _ rfl (by decide) HG.out (rdl_new _ [⟨A4, 1, c4⟩] [(Ex.lf 1 y p).flat 0] rfl rfl (by intro k d l hd hl; match k with | 0 => (simp at hd hl; subst hd; subst hl; exact ⟨rfl, hc4, z4, Own.rd nenc_len own4⟩) | k + 1 => simp at hd))).mono ?_
    rintro r x7 ⟨v7, rfl, own7, hb7⟩
    obtain ⟨A7, c7, rfl, hc7, z7⟩ := own_shape_z (n := 2) own7 rfl
    have hEhb7 := Env.step hb7 (by assumption); (try (have hqhb7 := kq hb7; (repeat rw [World.size_drew] at hqhb7); (repeat rw [World.size_alloc] at hqhb7); have hrhb7 := hqhb7; (repeat unfold Loc at hrhb7)))
    (refine hKp hK fun hHeld => ?_; clear hK K)
    refine hT 7 ?_; refine hT 8 ?_; refine hT 9 ?_; refine hT 10 ?_; refine hT 11 ?_
    refine hD ?_
    have hl9 := hHeld.2
    have hb9 := hHeld.1
    have hs9 := hb9.size
    (repeat unfold Loc at hl9)
    go_wp2_with fail
    refine bodyPost_ret (v := _) (by rw [results_cell1 Tryz.results152]; go_simp; rfl) rfl ?_
    exact ⟨_, rfl, (own_far_set (own_far_set (own7.mono hs8) (Nat.lt_succ_self (w.heap.size + 1)) _) (Nat.lt_succ_self (w.heap.size + 1)) _).mono (Nat.le_add_right _ 2), (hb9.setCell (Nat.le_succ _) _).setCell (Nat.le_succ _) _⟩
   ·have d1 : decide (0 < y) = false := by simp [hy0]
    have ho : o = none := by rw [← HO.out]; simp [fmE, hx0, hy, hy0]
    subst ho
    have hHeld := hE0
    clear hx0 hy0
    go_enter Tryz.func152, Tryz.ntmps152
    have hl9 := hHeld.2
    (repeat unfold Loc at hl9)
    go_wp2_with fail
    refine bodyPost_ret (v := _) (by rw [results_cell1 Tryz.results152]; go_simp; rfl) rfl ?_
    exact ⟨_, rfl, rfl, by first | exact hE0.1 | exact hE0.1.setCell (Nat.le_succ _) _ | exact (hE0.1.setCell (Nat.le_succ _) _).setCell (Nat.le_succ _) _⟩
 ·rcases (by by_cases h : x = 0; exact .inl h; exact .inr h : x = 0 ∨ x ≠ 0) with hx0 | hx0
  ·have d0 : (x != 0) = false := by simp [hx0]
   have ho : o = some (.bn 17 p (.lf 1 0 p) (.lf 1 0 p)) := by rw [← HO.out]; simp [fmE, hx0]
   subst ho
   have hg : (mkE 17 0 p [Ex.lf 1 0 p, Ex.lf 1 0 p]).good := ⟨⟨by omega, HP.out, ⟨HZ.out, HP.out⟩, ⟨HZ.out, HP.out⟩⟩, by simp [mkE, Ex.size], by simp [mkE, Ex.deep]⟩
   have HG := Lib.hid hg
   clear hx0 hg
   go_enter Tryz.func152, Tryz.ntmps152
   go_wp2_with fail
   refine hB (Env w [(w.heap.size + 1, [.slice none 0 0, .bool false]), (w.heap.size, [.int .i64 p])]) fun hHeld => ?_
   refine hT 0 ?_; refine hT 2 ?_; refine hT 4 ?_
   refine hW 1 ?_
   refine hC 3 fun K hK => ?_; go_simp
   go_at_call 173
   refine (HN.out 0 _ hHeld).mono ?_
   rintro r x3 ⟨v3, rfl, own3, hb3⟩
   obtain ⟨A3, c3, rfl, hc3, z3⟩ := own_shape_z (n := 1) own3 rfl
   have hEhb3 := Env.step hb3 (by assumption); (try (have hqhb3 := kq hb3; (repeat rw [World.size_drew] at hqhb3); (repeat rw [World.size_alloc] at hqhb3); have hrhb3 := hqhb3; (repeat unfold Loc at hrhb3)))
   (refine hKp hK fun hHeld => ?_; clear hK K)
   refine hC 5 fun K hK => ?_; go_simp
   go_at_call 173
   refine (HN.out 0 _ hHeld).mono ?_
   rintro r x5 ⟨v5, rfl, own5, hb5⟩
   obtain ⟨A5, c5, rfl, hc5, z5⟩ := own_shape_z (n := 1) own5 rfl
   have hEhb5 := Env.step hb5 (by assumption); (try (have hqhb5 := kq hb5; (repeat rw [World.size_drew] at hqhb5); (repeat rw [World.size_alloc] at hqhb5); have hrhb5 := hqhb5; (repeat unfold Loc at hrhb5)))
   have own3' := own3.below hb5
   (refine hKp hK fun hHeld => ?_; clear hK K)
   refine hC 6 fun K hK => ?_; go_simp
   (refine hKp hK fun hHeld => ?_; clear hK K)
   refine hC 7 fun K hK => ?_; go_simp
   have hs8 := hHeld.2.1
   go_at_call 174
   refine (node_any 17 p [Ex.lf 1 0 p, Ex.lf 1 0 p] _ 2 2 _ rfl (by decide) HG.out (rdl_new _ [⟨A3, 1, c3⟩, ⟨A5, 1, c5⟩] [(Ex.lf 1 0 p).flat 0, (Ex.lf 1 0 p).flat 0] rfl rfl (by intro k d l hd hl; match k with | 0 => (simp at hd hl; subst hd; subst hl; exact ⟨rfl, hc3, z3, Own.rd nenc_len own3'⟩) | 1 => (simp at hd hl; subst hd; subst hl; exact ⟨rfl, hc5, z5, Own.rd nenc_len own5⟩) | k + 2 => simp at hd))).mono ?_
   rintro r x7 ⟨v7, rfl, own7, hb7⟩
   obtain ⟨A7, c7, rfl, hc7, z7⟩ := own_shape_z (n := 3) own7 rfl
   have hEhb7 := Env.step hb7 (by assumption); (try (have hqhb7 := kq hb7; (repeat rw [World.size_drew] at hqhb7); (repeat rw [World.size_alloc] at hqhb7); have hrhb7 := hqhb7; (repeat unfold Loc at hrhb7)))
   (refine hKp hK fun hHeld => ?_; clear hK K)
   refine hT 8 ?_; refine hT 9 ?_; refine hT 10 ?_; refine hT 11 ?_; refine hT 12 ?_
   refine hD ?_
   have hl9 := hHeld.2
   have hb9 := hHeld.1
   have hs9 := hb9.size
   (repeat unfold Loc at hl9)
   go_wp2_with fail
   refine bodyPost_ret (v := _) (by rw [results_cell1 Tryz.results152]; go_simp; rfl) rfl ?_
   exact ⟨_, rfl, (own_far_set (own_far_set (own7.mono hs8) (Nat.lt_succ_self (w.heap.size + 1)) _) (Nat.lt_succ_self (w.heap.size + 1)) _).mono (Nat.le_add_right _ 2), (hb9.setCell (Nat.le_succ _) _).setCell (Nat.le_succ _) _⟩
  ·have d0 : (x != 0) = true := by simp [hx0]
   have ho : o = some (.bn 16 p (.lf 1 0 p) (.lf 1 0 p)) := by rw [← HO.out]; simp [fmE, hx0]
   subst ho
   have hg : (mkE 16 0 p [Ex.lf 1 0 p, Ex.lf 1 0 p]).good := ⟨⟨by omega, HP.out, ⟨HZ.out, HP.out⟩, ⟨HZ.out, HP.out⟩⟩, by simp [mkE, Ex.size], by simp [mkE, Ex.deep]⟩
   have HG := Lib.hid hg
   clear hx0 hg
   go_enter Tryz.func152, Tryz.ntmps152
   go_wp2_with fail
   refine hB (Env w [(w.heap.size + 1, [.slice none 0 0, .bool false]), (w.heap.size, [.int .i64 p])]) fun hHeld => ?_
   refine hT 0 ?_; refine hT 2 ?_; refine hT 4 ?_
   refine hW 1 ?_
   refine hC 3 fun K hK => ?_; go_simp
   go_at_call 173
   refine (HN.out 0 _ hHeld).mono ?_
   rintro r x3 ⟨v3, rfl, own3, hb3⟩
   obtain ⟨A3, c3, rfl, hc3, z3⟩ := own_shape_z (n := 1) own3 rfl
   have hEhb3 := Env.step hb3 (by assumption); (try (have hqhb3 := kq hb3; (repeat rw [World.size_drew] at hqhb3); (repeat rw [World.size_alloc] at hqhb3); have hrhb3 := hqhb3; (repeat unfold Loc at hrhb3)))
   (refine hKp hK fun hHeld => ?_; clear hK K)
   refine hC 5 fun K hK => ?_; go_simp
   go_at_call 173
   refine (HN.out 0 _ hHeld).mono ?_
   rintro r x5 ⟨v5, rfl, own5, hb5⟩
   obtain ⟨A5, c5, rfl, hc5, z5⟩ := own_shape_z (n := 1) own5 rfl
   have hEhb5 := Env.step hb5 (by assumption); (try (have hqhb5 := kq hb5; (repeat rw [World.size_drew] at hqhb5); (repeat rw [World.size_alloc] at hqhb5); have hrhb5 := hqhb5; (repeat unfold Loc at hrhb5)))
   have own3' := own3.below hb5
   (refine hKp hK fun hHeld => ?_; clear hK K)
   refine hC 6 fun K hK => ?_; go_simp
   (refine hKp hK fun hHeld => ?_; clear hK K)
   refine hC 7 fun K hK => ?_; go_simp
   have hs8 := hHeld.2.1
   go_at_call 174
   refine (node_any 16 p [Ex.lf 1 0 p, Ex.lf 1 0 p] _ 2 2 _ rfl (by decide) HG.out (rdl_new _ [⟨A3, 1, c3⟩, ⟨A5, 1, c5⟩] [(Ex.lf 1 0 p).flat 0, (Ex.lf 1 0 p).flat 0] rfl rfl (by intro k d l hd hl; match k with | 0 => (simp at hd hl; subst hd; subst hl; exact ⟨rfl, hc3, z3, Own.rd nenc_len own3'⟩) | 1 => (simp at hd hl; subst hd; subst hl; exact ⟨rfl, hc5, z5, Own.rd nenc_len own5⟩) | k + 2 => simp at hd))).mono ?_
   rintro r x7 ⟨v7, rfl, own7, hb7⟩
   obtain ⟨A7, c7, rfl, hc7, z7⟩ := own_shape_z (n := 3) own7 rfl
   have hEhb7 := Env.step hb7 (by assumption); (try (have hqhb7 := kq hb7; (repeat rw [World.size_drew] at hqhb7); (repeat rw [World.size_alloc] at hqhb7); have hrhb7 := hqhb7; (repeat unfold Loc at hrhb7)))
   (refine hKp hK fun hHeld => ?_; clear hK K)
   refine hT 8 ?_; refine hT 9 ?_; refine hT 10 ?_; refine hT 11 ?_; refine hT 12 ?_
   refine hD ?_
   have hl9 := hHeld.2
   have hb9 := hHeld.1
   have hs9 := hb9.size
   (repeat unfold Loc at hl9)
   go_wp2_with fail
   refine bodyPost_ret (v := _) (by rw [results_cell1 Tryz.results152]; go_simp; rfl) rfl ?_
   exact ⟨_, rfl, (own_far_set (own_far_set (own7.mono hs8) (Nat.lt_succ_self (w.heap.size + 1)) _) (Nat.lt_succ_self (w.heap.size + 1)) _).mono (Nat.le_add_right _ 2), (hb9.setCell (Nat.le_succ _) _).setCell (Nat.le_succ _) _⟩
set_option maxHeartbeats 8000000 in
set_option maxRecDepth 100000 in
theorem node_lf (n p : Int) (h0 : 0 < n) (hg : (Ex.lf 1 n p).good) (P : Option Addr) (pc : Nat) (w : World) :
  Calls Tryz.prog 174 #[.int .u8 1, .int .i64 n, .int .i64 p, .slice P 0 pc] w (PartP (.lf 1 n p) w) := by
 obtain ⟨hp0, hp4⟩ := hg.1.2
 have hparts := fun W => nparts_any 1 (by omega) W
 have hcheck := ncheck_any _ hg
 obtain ⟨mb, hmb⟩ : ∃ mb, w.heap.size = mb := ⟨_, rfl⟩
 have HP := Lib.hid hparts; have HC := Lib.hid hcheck; have HMB := Lib.hid hmb
 have q1 : decide (p < 0) = false := by simp; omega
 have q2 : decide (400 < p) = false := by simp; omega
 have q3 : decide (n < 0) = false := by simp; omega
 have q4 : decide (0 < n) = true := by simp [h0]
 clear hparts hcheck hg hp0 hp4 h0
 have hl0 := (Loc.nil w).new [.int .u8 1, .int .i64 n, .int .i64 0, .int .i64 0, .int .i64 p] 133
 have hb0 : Below w.heap.size w (w.alloc (.cells #[.int .u8 1, .int .i64 n, .int .i64 0, .int .i64 0, .int .i64 p] 133)) := below_new (Below.refl _ _) _
 rw [hmb] at hl0
 go_enter Tryz.func174, Tryz.ntmps174
 go_wp2_with fail
 go_at_call 158
 refine (HP.out _).mono ?_
 rintro r x2 ⟨rfl, rfl⟩
 rw [show ((prtN 1 : Nat) : Int) = 0 from rfl]
 go_wp2_with fail
 go_loopw [13, 57] (fun v i wr => i = .int .i64 0 ∧ v = .slice none 0 0 ∧ Loc wr [(mb, [.int .u8 1, .int .i64 n, .int .i64 0, .int .i64 0, .int .i64 p])] ∧ Below w.heap.size w wr) (fun _ i _ => 0)
 case atStart => exact ⟨rfl, rfl, hl0, hb0⟩
 case round =>
  obtain ⟨rfl, rfl, hl, hb⟩ := hrel
  clear hl0 hb0
  have hz4 := hl.1
  have hF := hl
  (repeat unfold Loc at hF)
  go_wp2_with (at_builtin; refine wpList_app nd_el rfl (.tmp 84) (.tmp 86) rfl (mb + 1) nenc_len nd_one [] [⟨1, n, 0, 0, p⟩] rfl (Own.nil _ _ _) rfl rfl (flat_new _ _ _ _ (by simp) _ rfl) (by simp) (by first | omega | (rw [World.size_alloc]; omega)) ?_; intro v5 w5 own5 hgr5 hb5 hl5; rw [List.nil_append] at own5; have hb6 : Below w.heap.size w w5 := (hb.alloc hb.size _).trans (Below.mono hb5 (by rw [HMB.out]; omega)); obtain ⟨A5, c5, rfl, -, -⟩ := own_shape_z (n := 1) own5 rfl; clear hF)
  have hrd := Own.rd nenc_len own5
  go_at_call 84
  refine (HC.out _ _ _ _ rfl hrd).mono ?_
  rintro r x6 ⟨rfl, hc6⟩
  have hs6 := hb6.size
  go_wp2_with fail
  go_ret2
  exact ⟨_, rfl, (own5.below hc6).mono (by rw [HMB.out]; omega), below_then hb6 hc6⟩
theorem node_full (k n p : Int) (es : List Ex) (P : Option Addr) (m pc : Nat) (w : World) (hm : es.length = m) (hk : prtN k = m) (hn : 0 ≤ n) (hn1 : n ≠ 0 → k = 1) (hg : (mkE k n p es).good) (hr : RdL nenc 5 w P (es.map (·.flat 0))) :
  Calls Tryz.prog 174 #[.int .u8 k, .int .i64 n, .int .i64 p, .slice P m pc] w (PartP (mkE k n p es) w) := by
 by_cases h0 : n = 0
 ·subst h0
  exact node_any k p es P m pc w hm hk hg hr
 ·obtain rfl := hn1 h0
  obtain rfl : m = 0 := by rw [← hk]; rfl
  obtain rfl := List.eq_nil_of_length_eq_zero hm
  exact node_lf n p (by omega) hg P pc w
end Go.Proofs.YtnljihjhmgpcoaaGreat
