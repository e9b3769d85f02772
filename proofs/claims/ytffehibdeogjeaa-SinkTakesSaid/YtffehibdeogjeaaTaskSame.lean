/- ref27.SameSends, ref27.Same at tasks that read alike; ref27.Great (chapter 27); printed by wip/gen_tasksame.py. Condition: lists of at most 2^40. -/
import Derived.Test.YtffehibdeogjeaaTaskPend
import Derived.Test.YtffehibdeogjeaaEnEq
namespace Go.Proofs.Ytffehibdeogjeaa
open Go.RowKit

theorem neq_send (x : Sd) (w : World) : (binOp .neq 170 (.agg #[.int .i64 x.out, .int .u8 x.m.kind, .int .i64 x.m.k, .int .i64 x.m.t, .int .i64 x.m.v, .int .i64 x.m.time, .int .i64 x.m.rk, .int .i64 x.m.rs, .int .i64 x.m.re, .int .i64 x.m.ra, .int .i64 x.m.rb]) (.agg #[.int .i64 x.out, .int .u8 x.m.kind, .int .i64 x.m.k, .int .i64 x.m.t, .int .i64 x.m.v, .int .i64 x.m.time, .int .i64 x.m.rk, .int .i64 x.m.rs, .int .i64 x.m.re, .int .i64 x.m.ra, .int .i64 x.m.rb])).run Try.prog w = .ok (.bool false) w := by
  have harr := eql_arr2
  go_simp
theorem neq_ev (x : Ev) (w : World) : (binOp .neq 140 (.agg #[.bool x.ism, .int .i64 x.time, .int .i64 x.k, .int .i64 x.t, .int .i64 x.v]) (.agg #[.bool x.ism, .int .i64 x.time, .int .i64 x.k, .int .i64 x.t, .int .i64 x.v])).run Try.prog w = .ok (.bool false) w := by
  go_simp
set_option maxHeartbeats 4000000 in
theorem rsamesends_any (A A' : Option Addr) (c c' n : Nat) (l : List Sd) (w : World) (hl : Rd sdenc 11 w w.heap.size A l) (hm : Rd sdenc 11 w w.heap.size A' l) (hn : l.length = n) (hb : n ≤ 1099511627776) :
    Calls Try.prog 83 #[.slice A n c, .slice A' n c'] w fun e w' => e = .returned (.bool true) ∧ Below w.heap.size w w' := by
  have h1 : ((n : Int) != (n : Int)) = false := by simp
  have hl' := Lib.hid hn
  clear hn
  go_enter Try.func83, Try.ntmps83
  go_wp2
  go_loopw [5] (fun i wr => ∃ k : Nat, k ≤ n ∧ i = .int .i64 k ∧ ∃ q : Nat, wr = w.drewN q) (fun i _ => n - (intOf i).toNat)
  case atStart => exact ⟨0, Nat.zero_le _, rfl, 0, rfl⟩
  case round =>
    obtain ⟨k, hk, rfl, q, rfl⟩ := hrel
    by_cases hlt : k < n
    · obtain ⟨x, hx⟩ : ∃ x, l[k]? = some x := ⟨_, List.getElem?_eq_getElem (by rw [hl'.out]; exact hlt)⟩
      obtain ⟨b, off, rfl, hb, f0, f1, f2, f3, f4, f5, f6, f7, f8, f9, f10⟩ := sd_cells hl hx
      obtain ⟨b', off', rfl, hb', g0, g1, g2, g3, g4, g5, g6, g7, g8, g9, g10⟩ := sd_cells hm hx
      have hrun := neq_send x
      clear hl hm hx
      go_wp2
      go_quiet (fail)
      go_wp2
      go_roundw
      case rel => exact ⟨k + 1, by omega, by go_num, _, rfl⟩
      case measure => simp [intOf]; omega
    · have hkn : k = n := by omega
      clear hkn
      go_wp2
      go_ret
      exact ⟨rfl, (by repeat (first | exact Below.refl _ _ | assumption | (with_reducible exact Env.below (by assumption)) | (with_reducible refine below_new ?_ _) | (with_reducible refine below_drew ?_) | (with_reducible refine below_drewN ?_ _) | (with_reducible refine below_put ?_ ?_ _; rotate_left 1; (dsimp only; omega)) | (refine below_then ?_ (by assumption))))⟩
set_option maxHeartbeats 32000000 in
set_option maxRecDepth 100000 in
theorem rtksame_any (kd n turn : Int) (ps : List Sd) (ms : List Int) (st : List En) (es : List Ev) (rs : List Rw) (ls : List Rc) (P M S E R L P' M' S' E' R' L' : Option Addr) (cp cm cs ce cr cl cp' cm' cs' ce' cr' cl' n1 n2 n3 n4 n5 n6 : Nat) (w : World)
    (h1 : ps.length = n1) (h2 : ms.length = n2) (h3 : st.length = n3) (h4 : es.length = n4) (h5 : rs.length = n5) (h6 : ls.length = n6)
    (b1 : n1 ≤ 1099511627776) (b2 : n2 ≤ 1099511627776) (b3 : n3 ≤ 1099511627776) (b4 : n4 ≤ 1099511627776) (b5 : n5 ≤ 1099511627776) (b6 : n6 ≤ 1099511627776)
    (r1 : Rd sdenc 11 w w.heap.size P ps) (r2 : Rd ienc 1 w w.heap.size M ms) (r3 : Rd enenc 11 w w.heap.size S st) (r4 : Rd evenc 5 w w.heap.size E es) (r5 : Rd wenc 5 w w.heap.size R rs) (r6 : Rd renc 3 w w.heap.size L ls)
    (s1 : Rd sdenc 11 w w.heap.size P' ps) (s2 : Rd ienc 1 w w.heap.size M' ms) (s3 : Rd enenc 11 w w.heap.size S' st) (s4 : Rd evenc 5 w w.heap.size E' es) (s5 : Rd wenc 5 w w.heap.size R' rs) (s6 : Rd renc 3 w w.heap.size L' ls) :
    Calls Try.prog 43 #[.agg #[.int .u8 kd, .int .i64 n, .int .i64 turn, .slice P n1 cp, .slice M n2 cm, .slice S n3 cs, .slice E n4 ce, .slice R n5 cr, .slice L n6 cl], .agg #[.int .u8 kd, .int .i64 n, .int .i64 turn, .slice P' n1 cp', .slice M' n2 cm', .slice S' n3 cs', .slice E' n4 ce', .slice R' n5 cr', .slice L' n6 cl']] w fun e w' => e = .returned (.bool true) ∧ Below w.heap.size w w' := by
  have hse := fun W (g : Rd sdenc 11 W W.heap.size P ps) (g' : Rd sdenc 11 W W.heap.size P' ps) => rsamesends_any P P' cp cp' n1 ps W g g' h1 b1
  obtain ⟨W0, hW0, hl0, hb0⟩ : ∃ W0, W0 = (w.alloc (.cells #[.int .u8 kd, .int .i64 n, .int .i64 turn, .slice P n1 cp, .slice M n2 cm, .slice S n3 cs, .slice E n4 ce, .slice R n5 cr, .slice L n6 cl] 67)).alloc (.cells #[.int .u8 kd, .int .i64 n, .int .i64 turn, .slice P' n1 cp', .slice M' n2 cm', .slice S' n3 cs', .slice E' n4 ce', .slice R' n5 cr', .slice L' n6 cl'] 67) ∧ Loc W0 [(w.heap.size, [.int .u8 kd, .int .i64 n, .int .i64 turn, .slice P n1 cp, .slice M n2 cm, .slice S n3 cs, .slice E n4 ce, .slice R n5 cr, .slice L n6 cl]), (w.heap.size + 1, [.int .u8 kd, .int .i64 n, .int .i64 turn, .slice P' n1 cp', .slice M' n2 cm', .slice S' n3 cs', .slice E' n4 ce', .slice R' n5 cr', .slice L' n6 cl'])] ∧ Below w.heap.size w W0 := by
    refine ⟨_, rfl, ?_, below_new (below_new (Below.refl _ _) _) _⟩
    have g := ((Loc.nil w).new [.int .u8 kd, .int .i64 n, .int .i64 turn, .slice P n1 cp, .slice M n2 cm, .slice S n3 cs, .slice E n4 ce, .slice R n5 cr, .slice L n6 cl] 67).new [.int .u8 kd, .int .i64 n, .int .i64 turn, .slice P' n1 cp', .slice M' n2 cm', .slice S' n3 cs', .slice E' n4 ce', .slice R' n5 cr', .slice L' n6 cl'] 67
    rw [World.size_alloc] at g
    obtain ⟨a1, a2, a3, e1, e2, e3, -⟩ := g
    exact ⟨e1, e2, e3, a1, a2, a3, trivial⟩
  have HSE := Lib.hid hse; have HW0 := Lib.hid hW0
  have HN1 := Lib.hid h1
  have HN2 := Lib.hid h2
  have HN3 := Lib.hid h3
  have HN4 := Lib.hid h4
  have HN5 := Lib.hid h5
  have HN6 := Lib.hid h6
  have y1 : ((n1 : Int) != (n1 : Int)) = false := by simp
  have y2 : ((n2 : Int) != (n2 : Int)) = false := by simp
  have y3 : ((n3 : Int) != (n3 : Int)) = false := by simp
  have y4 : ((n4 : Int) != (n4 : Int)) = false := by simp
  have y5 : ((n5 : Int) != (n5 : Int)) = false := by simp
  have y6 : ((n6 : Int) != (n6 : Int)) = false := by simp
  have yt : (turn != turn) = false := by simp
  have yn : (n != n) = false := by simp
  have yk : (kd != kd) = false := by simp
  have yn2 : (n == n) = true := by simp
  have yk2 : (kd == kd) = true := by simp
  clear hse hW0 h1 h2 h3 h4 h5 h6
  go_enter Try.func43, Try.ntmps43
  go_upto_region 1 with (fail)
  rw [← HW0.out]
  have hF := hl0
  (repeat unfold Loc at hF)
  go_wp2_with fail
  go_at_call 83
  refine (HSE.out _ (rd_grown r1 hb0) (rd_grown s1 hb0)).mono ?_
  rintro r w1 ⟨rfl, hb1⟩
  have hl1 := hl0.below hb1; have hb01 := below_then hb0 hb1
  clear hF hl0 hb0
  have hF := hl1
  (repeat unfold Loc at hF)
  go_wp2_with fail
  go_loopw [5] (fun i wr => ∃ k : Nat, k ≤ n2 ∧ i = .int .i64 k ∧ ∃ q : Nat, wr = w1.drewN q) (fun i _ => n2 - (intOf i).toNat)
  case atStart => exact ⟨0, Nat.zero_le _, rfl, 0, rfl⟩
  case round =>
    obtain ⟨k, hk, rfl, q, rfl⟩ := hrel
    clear hF
    have hF := hl1
    (repeat unfold Loc at hF)
    by_cases hlt : k < n2
    · obtain ⟨x, hx⟩ : ∃ x, ms[k]? = some x := ⟨_, List.getElem?_eq_getElem (by rw [HN2.out]; exact hlt)⟩
      obtain ⟨b, off, rfl, hbb, f0⟩ := mk_at (rd_grown r2 hb01) hx
      obtain ⟨b', off', rfl, hbb', g0⟩ := mk_at (rd_grown s2 hb01) hx
      have d1 : decide ((k : Int) < (n2 : Int)) = true := by simp; omega
      have d1' : decide (k < n2) = true := by simp [hlt]
      have k1 : (0 : Int) ≤ (k : Int) := by omega
      have k2 : (k : Int) < (n2 : Int) := by omega
      have e1 : IntKind.i64.wrap ((k : Int) + 1) = (k : Int) + 1 := IntWalk.i64_in _ (by omega)
      have hrun : (x != x) = false := by simp
      clear hx hlt
      go_wp2_with fail
      go_quiet (fail)
      go_wp2_with fail
      go_roundw
      case rel => exact ⟨k + 1, by omega, by go_num, _, rfl⟩
      case measure => simp [intOf] <;> omega
    · obtain rfl : n2 = k := by omega
      have d1 : decide ((n2 : Int) < (n2 : Int)) = false := by simp
      have d1' : decide (n2 < n2) = false := by simp
      clear hlt hk
      obtain ⟨wq, hwq, hlq, hbq⟩ : ∃ wq, wq = w1.drewN q ∧ Loc wq [(w.heap.size, [.int .u8 kd, .int .i64 n, .int .i64 turn, .slice P n1 cp, .slice M n2 cm, .slice S n3 cs, .slice E n4 ce, .slice R n5 cr, .slice L n6 cl]), (w.heap.size + 1, [.int .u8 kd, .int .i64 n, .int .i64 turn, .slice P' n1 cp', .slice M' n2 cm', .slice S' n3 cs', .slice E' n4 ce', .slice R' n5 cr', .slice L' n6 cl'])] ∧ Below w.heap.size w wq := ⟨_, rfl, hl1.below (below_drewN (Below.refl _ _) q), below_drewN hb01 q⟩
      rw [← hwq]
      clear hF hwq hl1 hb01
      have hl1 := hlq; have hb01 := hbq
      clear hlq hbq
      obtain ⟨w1, rfl⟩ : ∃ x, x = wq := ⟨_, rfl⟩
      have hF := hl1
      (repeat unfold Loc at hF)
      go_wp2_with fail
      go_loopw [6] (fun i wr => ∃ k : Nat, k ≤ n3 ∧ i = .int .i64 k ∧ ∃ q : Nat, wr = w1.drewN q) (fun i _ => n3 - (intOf i).toNat)
      case atStart => exact ⟨0, Nat.zero_le _, rfl, 0, rfl⟩
      case round =>
        obtain ⟨k, hk, rfl, q, rfl⟩ := hrel
        clear hF
        have hF := hl1
        (repeat unfold Loc at hF)
        by_cases hlt : k < n3
        · obtain ⟨x, hx⟩ : ∃ x, st[k]? = some x := ⟨_, List.getElem?_eq_getElem (by rw [HN3.out]; exact hlt)⟩
          obtain ⟨b, off, rfl, hbb, f0, f1, f2, f3, f4, f5, f6, f7, f8, f9, f10⟩ := en_cells (rd_grown r3 hb01) hx
          obtain ⟨b', off', rfl, hbb', g0, g1, g2, g3, g4, g5, g6, g7, g8, g9, g10⟩ := en_cells (rd_grown s3 hb01) hx
          have d1 : decide ((k : Int) < (n3 : Int)) = true := by simp; omega
          have d1' : decide (k < n3) = true := by simp [hlt]
          have k1 : (0 : Int) ≤ (k : Int) := by omega
          have k2 : (k : Int) < (n3 : Int) := by omega
          have e1 : IntKind.i64.wrap ((k : Int) + 1) = (k : Int) + 1 := IntWalk.i64_in _ (by omega)
          have hrun := neq_en' x
          clear hx hlt
          go_wp2_with fail
          go_quiet (fail)
          go_wp2_with fail
          go_roundw
          case rel => exact ⟨k + 1, by omega, by go_num, _, rfl⟩
          case measure => simp [intOf] <;> omega
        · obtain rfl : n3 = k := by omega
          have d1 : decide ((n3 : Int) < (n3 : Int)) = false := by simp
          have d1' : decide (n3 < n3) = false := by simp
          clear hlt hk
          obtain ⟨wq, hwq, hlq, hbq⟩ : ∃ wq, wq = w1.drewN q ∧ Loc wq [(w.heap.size, [.int .u8 kd, .int .i64 n, .int .i64 turn, .slice P n1 cp, .slice M n2 cm, .slice S n3 cs, .slice E n4 ce, .slice R n5 cr, .slice L n6 cl]), (w.heap.size + 1, [.int .u8 kd, .int .i64 n, .int .i64 turn, .slice P' n1 cp', .slice M' n2 cm', .slice S' n3 cs', .slice E' n4 ce', .slice R' n5 cr', .slice L' n6 cl'])] ∧ Below w.heap.size w wq := ⟨_, rfl, hl1.below (below_drewN (Below.refl _ _) q), below_drewN hb01 q⟩
          rw [← hwq]
          clear hF hwq hl1 hb01
          have hl1 := hlq; have hb01 := hbq
          clear hlq hbq
          obtain ⟨w1, rfl⟩ : ∃ x, x = wq := ⟨_, rfl⟩
          have hF := hl1
          (repeat unfold Loc at hF)
          go_wp2_with fail
          go_loopw [7] (fun i wr => ∃ k : Nat, k ≤ n4 ∧ i = .int .i64 k ∧ ∃ q : Nat, wr = w1.drewN q) (fun i _ => n4 - (intOf i).toNat)
          case atStart => exact ⟨0, Nat.zero_le _, rfl, 0, rfl⟩
          case round =>
            obtain ⟨k, hk, rfl, q, rfl⟩ := hrel
            clear hF
            have hF := hl1
            (repeat unfold Loc at hF)
            by_cases hlt : k < n4
            · obtain ⟨x, hx⟩ : ∃ x, es[k]? = some x := ⟨_, List.getElem?_eq_getElem (by rw [HN4.out]; exact hlt)⟩
              obtain ⟨b, off, rfl, hbb, f0, f1, f2, f3, f4⟩ := ev_cells (rd_grown r4 hb01) hx
              obtain ⟨b', off', rfl, hbb', g0, g1, g2, g3, g4⟩ := ev_cells (rd_grown s4 hb01) hx
              have d1 : decide ((k : Int) < (n4 : Int)) = true := by simp; omega
              have d1' : decide (k < n4) = true := by simp [hlt]
              have k1 : (0 : Int) ≤ (k : Int) := by omega
              have k2 : (k : Int) < (n4 : Int) := by omega
              have e1 : IntKind.i64.wrap ((k : Int) + 1) = (k : Int) + 1 := IntWalk.i64_in _ (by omega)
              have hrun := neq_ev x
              clear hx hlt
              go_wp2_with fail
              go_quiet (fail)
              go_wp2_with fail
              go_roundw
              case rel => exact ⟨k + 1, by omega, by go_num, _, rfl⟩
              case measure => simp [intOf] <;> omega
            · obtain rfl : n4 = k := by omega
              have d1 : decide ((n4 : Int) < (n4 : Int)) = false := by simp
              have d1' : decide (n4 < n4) = false := by simp
              clear hlt hk
              obtain ⟨wq, hwq, hlq, hbq⟩ : ∃ wq, wq = w1.drewN q ∧ Loc wq [(w.heap.size, [.int .u8 kd, .int .i64 n, .int .i64 turn, .slice P n1 cp, .slice M n2 cm, .slice S n3 cs, .slice E n4 ce, .slice R n5 cr, .slice L n6 cl]), (w.heap.size + 1, [.int .u8 kd, .int .i64 n, .int .i64 turn, .slice P' n1 cp', .slice M' n2 cm', .slice S' n3 cs', .slice E' n4 ce', .slice R' n5 cr', .slice L' n6 cl'])] ∧ Below w.heap.size w wq := ⟨_, rfl, hl1.below (below_drewN (Below.refl _ _) q), below_drewN hb01 q⟩
              rw [← hwq]
              clear hF hwq hl1 hb01
              have hl1 := hlq; have hb01 := hbq
              clear hlq hbq
              obtain ⟨w1, rfl⟩ : ∃ x, x = wq := ⟨_, rfl⟩
              have hF := hl1
              (repeat unfold Loc at hF)
              go_wp2_with fail
              go_loopw [8] (fun i wr => ∃ k : Nat, k ≤ n5 ∧ i = .int .i64 k ∧ ∃ q : Nat, wr = w1.drewN q) (fun i _ => n5 - (intOf i).toNat)
              case atStart => exact ⟨0, Nat.zero_le _, rfl, 0, rfl⟩
              case round =>
                obtain ⟨k, hk, rfl, q, rfl⟩ := hrel
                clear hF
                have hF := hl1
                (repeat unfold Loc at hF)
                by_cases hlt : k < n5
                · obtain ⟨x, hx⟩ : ∃ x, rs[k]? = some x := ⟨_, List.getElem?_eq_getElem (by rw [HN5.out]; exact hlt)⟩
                  obtain ⟨b, off, rfl, hbb, f0, f1, f2, f3, f4⟩ := rw_cells (rd_grown r5 hb01) hx
                  obtain ⟨b', off', rfl, hbb', g0, g1, g2, g3, g4⟩ := rw_cells (rd_grown s5 hb01) hx
                  have d1 : decide ((k : Int) < (n5 : Int)) = true := by simp; omega
                  have d1' : decide (k < n5) = true := by simp [hlt]
                  have k1 : (0 : Int) ≤ (k : Int) := by omega
                  have k2 : (k : Int) < (n5 : Int) := by omega
                  have e1 : IntKind.i64.wrap ((k : Int) + 1) = (k : Int) + 1 := IntWalk.i64_in _ (by omega)
                  have hrun := neq_row' x
                  clear hx hlt
                  go_wp2_with fail
                  go_quiet (fail)
                  go_wp2_with fail
                  go_roundw
                  case rel => exact ⟨k + 1, by omega, by go_num, _, rfl⟩
                  case measure => simp [intOf] <;> omega
                · obtain rfl : n5 = k := by omega
                  have d1 : decide ((n5 : Int) < (n5 : Int)) = false := by simp
                  have d1' : decide (n5 < n5) = false := by simp
                  clear hlt hk
                  obtain ⟨wq, hwq, hlq, hbq⟩ : ∃ wq, wq = w1.drewN q ∧ Loc wq [(w.heap.size, [.int .u8 kd, .int .i64 n, .int .i64 turn, .slice P n1 cp, .slice M n2 cm, .slice S n3 cs, .slice E n4 ce, .slice R n5 cr, .slice L n6 cl]), (w.heap.size + 1, [.int .u8 kd, .int .i64 n, .int .i64 turn, .slice P' n1 cp', .slice M' n2 cm', .slice S' n3 cs', .slice E' n4 ce', .slice R' n5 cr', .slice L' n6 cl'])] ∧ Below w.heap.size w wq := ⟨_, rfl, hl1.below (below_drewN (Below.refl _ _) q), below_drewN hb01 q⟩
                  rw [← hwq]
                  clear hF hwq hl1 hb01
                  have hl1 := hlq; have hb01 := hbq
                  clear hlq hbq
                  obtain ⟨w1, rfl⟩ : ∃ x, x = wq := ⟨_, rfl⟩
                  have hF := hl1
                  (repeat unfold Loc at hF)
                  go_wp2_with fail
                  go_loopw [9] (fun i wr => ∃ k : Nat, k ≤ n6 ∧ i = .int .i64 k ∧ ∃ q : Nat, wr = w1.drewN q) (fun i _ => n6 - (intOf i).toNat)
                  case atStart => exact ⟨0, Nat.zero_le _, rfl, 0, rfl⟩
                  case round =>
                    obtain ⟨k, hk, rfl, q, rfl⟩ := hrel
                    clear hF
                    have hF := hl1
                    (repeat unfold Loc at hF)
                    by_cases hlt : k < n6
                    · obtain ⟨x, hx⟩ : ∃ x, ls[k]? = some x := ⟨_, List.getElem?_eq_getElem (by rw [HN6.out]; exact hlt)⟩
                      obtain ⟨b, off, rfl, hbb, f0, f1, f2⟩ := rc_cells (rd_grown r6 hb01) hx
                      obtain ⟨b', off', rfl, hbb', g0, g1, g2⟩ := rc_cells (rd_grown s6 hb01) hx
                      have d1 : decide ((k : Int) < (n6 : Int)) = true := by simp; omega
                      have d1' : decide (k < n6) = true := by simp [hlt]
                      have k1 : (0 : Int) ≤ (k : Int) := by omega
                      have k2 : (k : Int) < (n6 : Int) := by omega
                      have e1 : IntKind.i64.wrap ((k : Int) + 1) = (k : Int) + 1 := IntWalk.i64_in _ (by omega)
                      have hrun := neq_rec' x
                      clear hx hlt
                      go_wp2_with fail
                      go_quiet (fail)
                      go_wp2_with fail
                      go_roundw
                      case rel => exact ⟨k + 1, by omega, by go_num, _, rfl⟩
                      case measure => simp [intOf] <;> omega
                    · obtain rfl : n6 = k := by omega
                      have d1 : decide ((n6 : Int) < (n6 : Int)) = false := by simp
                      have d1' : decide (n6 < n6) = false := by simp
                      clear hlt hk
                      go_wp2_with fail
                      go_ret
                      exact ⟨rfl, below_drewN hb01 q⟩
def okN (n : Nat) : Prop := n ≤ 100 ∨ (3990 ≤ n ∧ n ≤ 4010)
def GreatP (n1 n2 n3 n4 n5 n6 : Nat) (w : World) (r : Ending) (w' : World) : Prop := ∃ b, r = .returned (.bool b) ∧ (b = false → okN n1 ∧ okN n5 ∧ okN n6 ∧ n3 ≤ 100 ∧ n4 ≤ 100 ∧ n2 ≤ 20) ∧ Below w.heap.size w w'
set_option maxHeartbeats 32000000 in
set_option maxRecDepth 100000 in
theorem great27_any (kd n turn : Int) (P M S E R L : Option Addr) (cp cm cs ce cr cl n1 n2 n3 n4 n5 n6 : Nat) (w : World) :
    Calls Try.prog 39 #[.agg #[.int .u8 kd, .int .i64 n, .int .i64 turn, .slice P n1 cp, .slice M n2 cm, .slice S n3 cs, .slice E n4 ce, .slice R n5 cr, .slice L n6 cl]] w (GreatP n1 n2 n3 n4 n5 n6 w) := by
  obtain ⟨W0, hW0, hl0, hb0⟩ : ∃ W0, W0 = (w.alloc (.cells #[.int .u8 kd, .int .i64 n, .int .i64 turn, .slice P n1 cp, .slice M n2 cm, .slice S n3 cs, .slice E n4 ce, .slice R n5 cr, .slice L n6 cl] 67)).alloc (.cells #[.int .i64 (n1 : Int), .int .i64 (n5 : Int), .int .i64 (n6 : Int)] 3) ∧ Loc W0 [(w.heap.size, [.int .u8 kd, .int .i64 n, .int .i64 turn, .slice P n1 cp, .slice M n2 cm, .slice S n3 cs, .slice E n4 ce, .slice R n5 cr, .slice L n6 cl]), (w.heap.size + 1, [.int .i64 (n1 : Int), .int .i64 (n5 : Int), .int .i64 (n6 : Int)])] ∧ Below w.heap.size w W0 := by
    refine ⟨_, rfl, ?_, below_new (below_new (Below.refl _ _) _) _⟩
    have g := ((Loc.nil w).new [.int .u8 kd, .int .i64 n, .int .i64 turn, .slice P n1 cp, .slice M n2 cm, .slice S n3 cs, .slice E n4 ce, .slice R n5 cr, .slice L n6 cl] 67).new [.int .i64 (n1 : Int), .int .i64 (n5 : Int), .int .i64 (n6 : Int)] 3
    rw [World.size_alloc] at g
    obtain ⟨a1, a2, a3, e1, e2, e3, -⟩ := g
    exact ⟨e1, e2, e3, a1, a2, a3, trivial⟩
  have HW0 := Lib.hid hW0
  clear hW0
  go_enter Try.func39, Try.ntmps39
  go_upto_region 2 with (fail)
  rw [← HW0.out]
  have hF := hl0
  (repeat unfold Loc at hF)
  go_wp2_with fail
  go_loopw [4] (fun i wr => ∃ k : Nat, k ≤ 3 ∧ i = .int .i64 k ∧ (1 ≤ k → okN n1) ∧ (2 ≤ k → okN n5) ∧ (3 ≤ k → okN n6) ∧ wr = W0) (fun i _ => 3 - (intOf i).toNat)
  case atStart => exact ⟨0, by omega, rfl, by omega, by omega, by omega, rfl⟩
  case round =>
    obtain ⟨k, hk, rfl, o1, o5, o6, rfl⟩ := hrel
    rcases (by omega : k = 0 ∨ k = 1 ∨ k = 2 ∨ k = 3) with rfl | rfl | rfl | rfl
    · by_cases q1 : 4010 < n1
      · have d1 : decide (4010 < (n1 : Int)) = true := by simp; omega
        have d2 : decide (100 < (n1 : Int)) = true := by simp; omega
        have d3 : decide ((n1 : Int) < 3990) = false := by simp; omega
        clear q1
        go_wp2_with fail
        go_ret
        exact ⟨true, rfl, fun h => (by cases h), (by repeat (first | with_reducible exact Below.refl _ _ | with_reducible assumption | (with_reducible exact Env.below (by assumption)) | (with_reducible refine below_new ?_ _) | (with_reducible refine below_drew ?_) | (with_reducible refine below_drewN ?_ _) | (with_reducible refine below_put ?_ ?_ _; rotate_left 1; (dsimp only; omega)) | (with_reducible refine below_then ?_ (by assumption))))⟩
      have d1 : decide (4010 < (n1 : Int)) = false := by simp; omega
      by_cases q2 : 100 < n1
      · have d2 : decide (100 < (n1 : Int)) = true := by simp; omega
        by_cases q3 : n1 < 3990
        · have d3 : decide ((n1 : Int) < 3990) = true := by simp; omega
          clear q1 q2 q3
          go_wp2_with fail
          go_ret
          exact ⟨true, rfl, fun h => (by cases h), (by repeat (first | with_reducible exact Below.refl _ _ | with_reducible assumption | (with_reducible exact Env.below (by assumption)) | (with_reducible refine below_new ?_ _) | (with_reducible refine below_drew ?_) | (with_reducible refine below_drewN ?_ _) | (with_reducible refine below_put ?_ ?_ _; rotate_left 1; (dsimp only; omega)) | (with_reducible refine below_then ?_ (by assumption))))⟩
        · have d3 : decide ((n1 : Int) < 3990) = false := by simp; omega
          have hok : okN n1 := .inr ⟨by omega, by omega⟩
          have HOK := Lib.hid hok
          clear hok q1 q2 q3
          go_wp2_with fail
          go_roundw
          case rel => exact ⟨1, by omega, by go_num, fun _ => HOK.out, by omega, by omega, by first | rfl | trivial⟩
          case measure => simp [intOf]
      · have d2 : decide (100 < (n1 : Int)) = false := by simp; omega
        have hok : okN n1 := .inl (by omega)
        have HOK := Lib.hid hok
        clear hok q1 q2
        go_wp2_with fail
        go_roundw
        case rel => exact ⟨1, by omega, by go_num, fun _ => HOK.out, by omega, by omega, by first | rfl | trivial⟩
        case measure => simp [intOf]
    · by_cases q1 : 4010 < n5
      · have d1 : decide (4010 < (n5 : Int)) = true := by simp; omega
        have d2 : decide (100 < (n5 : Int)) = true := by simp; omega
        have d3 : decide ((n5 : Int) < 3990) = false := by simp; omega
        clear q1
        go_wp2_with fail
        go_ret
        exact ⟨true, rfl, fun h => (by cases h), (by repeat (first | with_reducible exact Below.refl _ _ | with_reducible assumption | (with_reducible exact Env.below (by assumption)) | (with_reducible refine below_new ?_ _) | (with_reducible refine below_drew ?_) | (with_reducible refine below_drewN ?_ _) | (with_reducible refine below_put ?_ ?_ _; rotate_left 1; (dsimp only; omega)) | (with_reducible refine below_then ?_ (by assumption))))⟩
      have d1 : decide (4010 < (n5 : Int)) = false := by simp; omega
      by_cases q2 : 100 < n5
      · have d2 : decide (100 < (n5 : Int)) = true := by simp; omega
        by_cases q3 : n5 < 3990
        · have d3 : decide ((n5 : Int) < 3990) = true := by simp; omega
          clear q1 q2 q3
          go_wp2_with fail
          go_ret
          exact ⟨true, rfl, fun h => (by cases h), (by repeat (first | with_reducible exact Below.refl _ _ | with_reducible assumption | (with_reducible exact Env.below (by assumption)) | (with_reducible refine below_new ?_ _) | (with_reducible refine below_drew ?_) | (with_reducible refine below_drewN ?_ _) | (with_reducible refine below_put ?_ ?_ _; rotate_left 1; (dsimp only; omega)) | (with_reducible refine below_then ?_ (by assumption))))⟩
        · have d3 : decide ((n5 : Int) < 3990) = false := by simp; omega
          have hok : okN n5 := .inr ⟨by omega, by omega⟩
          have HOK := Lib.hid hok
          clear hok q1 q2 q3
          go_wp2_with fail
          go_roundw
          case rel => exact ⟨2, by omega, by go_num, fun _ => o1 (by omega), fun _ => HOK.out, by omega, by first | rfl | trivial⟩
          case measure => simp [intOf]
      · have d2 : decide (100 < (n5 : Int)) = false := by simp; omega
        have hok : okN n5 := .inl (by omega)
        have HOK := Lib.hid hok
        clear hok q1 q2
        go_wp2_with fail
        go_roundw
        case rel => exact ⟨2, by omega, by go_num, fun _ => o1 (by omega), fun _ => HOK.out, by omega, by first | rfl | trivial⟩
        case measure => simp [intOf]
    · by_cases q1 : 4010 < n6
      · have d1 : decide (4010 < (n6 : Int)) = true := by simp; omega
        have d2 : decide (100 < (n6 : Int)) = true := by simp; omega
        have d3 : decide ((n6 : Int) < 3990) = false := by simp; omega
        clear q1
        go_wp2_with fail
        go_ret
        exact ⟨true, rfl, fun h => (by cases h), (by repeat (first | with_reducible exact Below.refl _ _ | with_reducible assumption | (with_reducible exact Env.below (by assumption)) | (with_reducible refine below_new ?_ _) | (with_reducible refine below_drew ?_) | (with_reducible refine below_drewN ?_ _) | (with_reducible refine below_put ?_ ?_ _; rotate_left 1; (dsimp only; omega)) | (with_reducible refine below_then ?_ (by assumption))))⟩
      have d1 : decide (4010 < (n6 : Int)) = false := by simp; omega
      by_cases q2 : 100 < n6
      · have d2 : decide (100 < (n6 : Int)) = true := by simp; omega
        by_cases q3 : n6 < 3990
        · have d3 : decide ((n6 : Int) < 3990) = true := by simp; omega
          clear q1 q2 q3
          go_wp2_with fail
          go_ret
          exact ⟨true, rfl, fun h => (by cases h), (by repeat (first | with_reducible exact Below.refl _ _ | with_reducible assumption | (with_reducible exact Env.below (by assumption)) | (with_reducible refine below_new ?_ _) | (with_reducible refine below_drew ?_) | (with_reducible refine below_drewN ?_ _) | (with_reducible refine below_put ?_ ?_ _; rotate_left 1; (dsimp only; omega)) | (with_reducible refine below_then ?_ (by assumption))))⟩
        · have d3 : decide ((n6 : Int) < 3990) = false := by simp; omega
          have hok : okN n6 := .inr ⟨by omega, by omega⟩
          have HOK := Lib.hid hok
          clear hok q1 q2 q3
          go_wp2_with fail
          go_roundw
          case rel => exact ⟨3, by omega, by go_num, fun _ => o1 (by omega), fun _ => o5 (by omega), fun _ => HOK.out, by first | rfl | trivial⟩
          case measure => simp [intOf]
      · have d2 : decide (100 < (n6 : Int)) = false := by simp; omega
        have hok : okN n6 := .inl (by omega)
        have HOK := Lib.hid hok
        clear hok q1 q2
        go_wp2_with fail
        go_roundw
        case rel => exact ⟨3, by omega, by go_num, fun _ => o1 (by omega), fun _ => o5 (by omega), fun _ => HOK.out, by first | rfl | trivial⟩
        case measure => simp [intOf]
    · have p1 := o1 (by omega); have p5 := o5 (by omega); have p6 := o6 (by omega)
      have HP := Lib.hid (And.intro p1 (And.intro p5 p6))
      clear o1 o5 o6 p1 p5 p6
      by_cases q3 : 100 < n3
      · have d3 : decide (100 < (n3 : Int)) = true := by simp; omega
        clear q3
        go_wp2_with fail
        go_ret
        exact ⟨true, rfl, fun h => (by cases h), (by repeat (first | with_reducible exact Below.refl _ _ | with_reducible assumption | (with_reducible exact Env.below (by assumption)) | (with_reducible refine below_new ?_ _) | (with_reducible refine below_drew ?_) | (with_reducible refine below_drewN ?_ _) | (with_reducible refine below_put ?_ ?_ _; rotate_left 1; (dsimp only; omega)) | (with_reducible refine below_then ?_ (by assumption))))⟩
      have d3 : decide (100 < (n3 : Int)) = false := by simp; omega
      by_cases q4 : 100 < n4
      · have d4 : decide (100 < (n4 : Int)) = true := by simp; omega
        clear q3 q4
        go_wp2_with fail
        go_ret
        exact ⟨true, rfl, fun h => (by cases h), (by repeat (first | with_reducible exact Below.refl _ _ | with_reducible assumption | (with_reducible exact Env.below (by assumption)) | (with_reducible refine below_new ?_ _) | (with_reducible refine below_drew ?_) | (with_reducible refine below_drewN ?_ _) | (with_reducible refine below_put ?_ ?_ _; rotate_left 1; (dsimp only; omega)) | (with_reducible refine below_then ?_ (by assumption))))⟩
      have d4 : decide (100 < (n4 : Int)) = false := by simp; omega
      by_cases q2 : 20 < n2
      · have d2 : decide (20 < (n2 : Int)) = true := by simp; omega
        clear q2 q3 q4
        go_wp2_with fail
        go_ret
        exact ⟨true, rfl, fun h => (by cases h), (by repeat (first | with_reducible exact Below.refl _ _ | with_reducible assumption | (with_reducible exact Env.below (by assumption)) | (with_reducible refine below_new ?_ _) | (with_reducible refine below_drew ?_) | (with_reducible refine below_drewN ?_ _) | (with_reducible refine below_put ?_ ?_ _; rotate_left 1; (dsimp only; omega)) | (with_reducible refine below_then ?_ (by assumption))))⟩
      have d2 : decide (20 < (n2 : Int)) = false := by simp; omega
      have HQ := Lib.hid (And.intro (Nat.not_lt.1 q3) (And.intro (Nat.not_lt.1 q4) (Nat.not_lt.1 q2)))
      clear q2 q3 q4
      go_wp2_with fail
      go_ret
      exact ⟨false, rfl, fun _ => ⟨HP.out.1, HP.out.2.1, HP.out.2.2, HQ.out⟩, (by repeat (first | with_reducible exact Below.refl _ _ | with_reducible assumption | (with_reducible exact Env.below (by assumption)) | (with_reducible refine below_new ?_ _) | (with_reducible refine below_drew ?_) | (with_reducible refine below_drewN ?_ _) | (with_reducible refine below_put ?_ ?_ _; rotate_left 1; (dsimp only; omega)) | (with_reducible refine below_then ?_ (by assumption))))⟩
end Go.Proofs.Ytffehibdeogjeaa
