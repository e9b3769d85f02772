/- The walk of SinkTakes: New and Take are the reference's; printed by wip/gen_sinktakes.py. No condition. -/
import Derived.Test.YtffehibdeogjeaaSinkRTake
import Derived.Test.YtffehibdeogjeaaTaskSame
import Derived.Test.YtffehibdeogjeaaSinkNew
import Derived.Test.YtffehibdeogjeaaOpenTask
namespace Go.Proofs.Ytffehibdeogjeaa
open Go.RowKit Go.ChangeShapes Go.WideShapes Go.ChangeAt Go.Deep

/-- A task as a result, with an error, written out. -/
def TakeX (kd n turn : Int) (ps : List Sd) (ms : List Int) (st : List En) (es : List Ev) (rs : List Rw) (ls : List Rc) (n1 n2 n3 n4 n5 n6 : Nat) (e : Int) (w : World) (r : Ending) (w' : World) : Prop :=
  ∃ (P M S E R L : Option Addr) (cp cm cs ce cr cl : Nat), r = .returned (.tuple #[.agg #[.int .u8 kd, .int .i64 n, .int .i64 turn, .slice P n1 cp, .slice M n2 cm, .slice S n3 cs, .slice E n4 ce, .slice R n5 cr, .slice L n6 cl], .int .i64 e]) ∧ (Rd sdenc 11 w' w'.heap.size P ps ∧ Rd ienc 1 w' w'.heap.size M ms ∧ Rd enenc 11 w' w'.heap.size S st ∧ Rd evenc 5 w' w'.heap.size E es ∧ Rd wenc 5 w' w'.heap.size R rs ∧ Rd renc 3 w' w'.heap.size L ls) ∧ Below w.heap.size w w'
theorem take_x {kd n turn : Int} {ps : List Sd} {ms : List Int} {st : List En} {es : List Ev} {rs : List Rw} {ls : List Rc} {n1 n2 n3 n4 n5 n6 : Nat} {e : Int} {w w' : World} {r : Ending} (h1 : ps.length = n1) (h2 : ms.length = n2) (h3 : st.length = n3) (h4 : es.length = n4) (h5 : rs.length = n5) (h6 : ls.length = n6)
    (h : TakeQ ⟨kd, n, turn, ps, ms, st, es, rs, ls⟩ e w r w') : TakeX kd n turn ps ms st es rs ls n1 n2 n3 n4 n5 n6 e w r w' := by
  subst h1 h2 h3 h4 h5 h6
  obtain ⟨⟨P, cp, M, cm, S, cs, E, ce, R, cr, L, cl⟩, rfl, ⟨g1, g2, g3, g4, g5, g6⟩, -, hb, -, -⟩ := h
  exact ⟨P, M, S, E, R, L, cp, cm, cs, ce, cr, cl, rfl, ⟨g1, g2, g3, g4, g5, g6⟩, hb⟩
theorem take_len {t t' : Tk} {m : Ms} {e : Int} (h : takeP t m = (t', e)) : t'.ps.length ≤ t.ps.length ∧ t'.ms.length ≤ t.ms.length ∧ t'.st.length ≤ t.st.length ∧ t'.es.length ≤ t.es.length ∧ t'.rs.length ≤ t.rs.length + 1 ∧ t'.ls.length ≤ t.ls.length + 1 := by
  unfold takeP at h
  split at h
  · cases h; simp [tk0]
  split at h
  · split at h
    · split at h
      · cases h; simp [tk0]
      · cases h; simp
    · cases h; simp [tk0]
  split at h
  · split at h
    · split at h
      · cases h; simp [tk0]
      · cases h; simp
    · cases h; simp [tk0]
  · cases h; simp [tk0]
set_option maxHeartbeats 32000000 in
set_option maxRecDepth 100000 in
theorem sinkTakes_main (kd n turn : Int) (ps : List Sd) (ms : List Int) (st : List En) (es : List Ev) (rs : List Rw) (ls : List Rc) (P M S E R L : Option Addr) (cp cm cs ce cr cl n1 n2 n3 n4 n5 n6 : Nat) (m : Ms) (late : Bool) (w : World)
    (h1 : ps.length = n1) (h2 : ms.length = n2) (h3 : st.length = n3) (h4 : es.length = n4) (h5 : rs.length = n5) (h6 : ls.length = n6)
    (z1 : P = none → cp = 0) (z2 : M = none → cm = 0) (z3 : S = none → cs = 0) (z4 : E = none → ce = 0) (z5 : R = none → cr = 0) (z6 : L = none → cl = 0)
    (r1 : Rd sdenc 11 w w.heap.size P ps) (r2 : Rd ienc 1 w w.heap.size M ms) (r3 : Rd enenc 11 w w.heap.size S st) (r4 : Rd evenc 5 w w.heap.size E es) (r5 : Rd wenc 5 w w.heap.size R rs) (r6 : Rd renc 3 w w.heap.size L ls) :
    Calls Try.prog 9 #[.agg #[.int .u8 kd, .int .i64 n, .int .i64 turn, .slice P n1 cp, .slice M n2 cm, .slice S n3 cs, .slice E n4 ce, .slice R n5 cr, .slice L n6 cl], .agg #[.int .u8 m.kind, .int .i64 m.k, .int .i64 m.t, .int .i64 m.v, .int .i64 m.time, .int .i64 m.rk, .int .i64 m.rs, .int .i64 m.re, .int .i64 m.ra, .int .i64 m.rb], .bool late] w fun r w' => r = .returned (.bool true) ∧ Below w.heap.size w w' := by
  have hg := fun W => great27_any kd n turn P M S E R L cp cm cs ce cr cl n1 n2 n3 n4 n5 n6 W
  obtain ⟨W0, hW0, hl0, hb0⟩ : ∃ W0, W0 = (w.alloc (.cells #[.int .u8 kd, .int .i64 n, .int .i64 turn, .slice P n1 cp, .slice M n2 cm, .slice S n3 cs, .slice E n4 ce, .slice R n5 cr, .slice L n6 cl] 67)).alloc (.cells #[.int .u8 m.kind, .int .i64 m.k, .int .i64 m.t, .int .i64 m.v, .int .i64 m.time, .int .i64 m.rk, .int .i64 m.rs, .int .i64 m.re, .int .i64 m.ra, .int .i64 m.rb] 74) ∧ Loc W0 [(w.heap.size, [.int .u8 kd, .int .i64 n, .int .i64 turn, .slice P n1 cp, .slice M n2 cm, .slice S n3 cs, .slice E n4 ce, .slice R n5 cr, .slice L n6 cl]), (w.heap.size + 1, [.int .u8 m.kind, .int .i64 m.k, .int .i64 m.t, .int .i64 m.v, .int .i64 m.time, .int .i64 m.rk, .int .i64 m.rs, .int .i64 m.re, .int .i64 m.ra, .int .i64 m.rb])] ∧ Below w.heap.size w W0 := by
    refine ⟨_, rfl, ?_, below_new (below_new (Below.refl _ _) _) _⟩
    have g := ((Loc.nil w).new [.int .u8 kd, .int .i64 n, .int .i64 turn, .slice P n1 cp, .slice M n2 cm, .slice S n3 cs, .slice E n4 ce, .slice R n5 cr, .slice L n6 cl] 67).new [.int .u8 m.kind, .int .i64 m.k, .int .i64 m.t, .int .i64 m.v, .int .i64 m.time, .int .i64 m.rk, .int .i64 m.rs, .int .i64 m.re, .int .i64 m.ra, .int .i64 m.rb] 74
    rw [World.size_alloc] at g
    obtain ⟨a1, a2, a3, e1, e2, e3, -⟩ := g
    exact ⟨e1, e2, e3, a1, a2, a3, trivial⟩
  have HG := Lib.hid hg; have HW0 := Lib.hid hW0
  have hfull := fun (hq : okN n1 ∧ okN n5 ∧ okN n6 ∧ n3 ≤ 100 ∧ n4 ≤ 100 ∧ n2 ≤ 20) => (show n1 ≤ 1099511627776 ∧ n2 ≤ 1099511627776 ∧ n3 ≤ 1099511627776 ∧ n4 ≤ 1099511627776 ∧ n5 ≤ 1099511627776 ∧ n6 ≤ 1099511627776 ∧ n1 ≤ 4010 ∧ n5 ≤ 4010 ∧ n6 ≤ 4010 by unfold okN at hq; omega)
  obtain ⟨⟨⟨kdq, nq, turnq, psq, msq, stq, esq, rsq, lsq⟩, e⟩, hte⟩ : ∃ x, takeP ⟨kd, n, turn, ps, ms, st, es, rs, ls⟩ m = x := ⟨_, rfl⟩
  have hln := take_len hte
  dsimp only at hln
  rw [h1, h2, h3, h4, h5, h6] at hln
  obtain ⟨q1, j1⟩ : ∃ q, psq.length = q := ⟨_, rfl⟩
  obtain ⟨q2, j2⟩ : ∃ q, msq.length = q := ⟨_, rfl⟩
  obtain ⟨q3, j3⟩ : ∃ q, stq.length = q := ⟨_, rfl⟩
  obtain ⟨q4, j4⟩ : ∃ q, esq.length = q := ⟨_, rfl⟩
  obtain ⟨q5, j5⟩ : ∃ q, rsq.length = q := ⟨_, rfl⟩
  obtain ⟨q6, j6⟩ : ∃ q, lsq.length = q := ⟨_, rfl⟩
  rw [j1, j2, j3, j4, j5, j6] at hln
  have HFULL := Lib.hid hfull; have HLN := Lib.hid hln; have HTE := Lib.hid hte
  have HN1 := Lib.hid h1; have HJ1 := Lib.hid j1; have HZ1 := Lib.hid z1
  have HN2 := Lib.hid h2; have HJ2 := Lib.hid j2; have HZ2 := Lib.hid z2
  have HN3 := Lib.hid h3; have HJ3 := Lib.hid j3; have HZ3 := Lib.hid z3
  have HN4 := Lib.hid h4; have HJ4 := Lib.hid j4; have HZ4 := Lib.hid z4
  have HN5 := Lib.hid h5; have HJ5 := Lib.hid j5; have HZ5 := Lib.hid z5
  have HN6 := Lib.hid h6; have HJ6 := Lib.hid j6; have HZ6 := Lib.hid z6
  clear hg hW0 hfull hln hte h1 h2 h3 h4 h5 h6 j1 j2 j3 j4 j5 j6 z1 z2 z3 z4 z5 z6
  go_enter Try.func9, Try.ntmps9
  go_upto_region 1 with (fail)
  rw [← HW0.out]
  have hF := hl0
  (repeat unfold Loc at hF)
  go_wp2_with fail
  go_at_call 39
  refine (HG.out _).mono ?_
  rintro r w1 ⟨bg, rfl, hbg, hb1⟩
  have hl1 := hl0.below hb1; have hbb1 := below_then hb0 hb1
  clear hF hl0 hb0
  have hF := hl1
  (repeat unfold Loc at hF)
  cases bg with
  | true =>
    clear hbg
    go_wp2_with fail
    go_ret
    exact ⟨rfl, hbb1⟩
  | false =>
  have hbn := hbg rfl
  obtain ⟨b1, b2, b3, b4, b5, b6, c1, c5, c6⟩ := HFULL.out hbn
  clear hbg hbn HFULL
  have htw := fun W (g1 : Rd sdenc 11 W W.heap.size P ps) (g2 : Rd ienc 1 W W.heap.size M ms) (g3 : Rd enenc 11 W W.heap.size S st) (g4 : Rd evenc 5 W W.heap.size E es) (g5 : Rd wenc 5 W W.heap.size R rs) (g6 : Rd renc 3 W W.heap.size L ls) => rtwin_any kd n turn ps ms st es rs ls P M S E R L cp cm cs ce cr cl n1 n2 n3 n4 n5 n6 W HN1.out HN2.out HN3.out HN4.out HN5.out HN6.out b1 b2 b3 b4 b5 b6 HZ1.out HZ2.out HZ3.out HZ4.out HZ5.out HZ6.out g1 g2 g3 g4 g5 g6
  have htk := fun W (g1 : Rd sdenc 11 W W.heap.size P ps) (g2 : Rd ienc 1 W W.heap.size M ms) (g3 : Rd enenc 11 W W.heap.size S st) (g4 : Rd evenc 5 W W.heap.size E es) (g5 : Rd wenc 5 W W.heap.size R rs) (g6 : Rd renc 3 W W.heap.size L ls) => sinktake_any kd n turn ps ms st es rs ls P M S E R L cp cm cs ce cr cl n1 n2 n3 n4 n5 n6 m W HN1.out HN2.out HN3.out HN4.out HN5.out HN6.out b1 b2 b3 b4 b5 b6 HZ1.out HZ2.out HZ3.out HZ4.out HZ5.out HZ6.out g1 g2 g3 g4 g5 g6
  rw [HTE.out] at htk
  have HTW := Lib.hid htw; have HTK := Lib.hid htk
  clear htw htk
  go_wp2_with fail
  go_at_call 40
  refine (HTW.out _ (rd_grown r1 hbb1) (rd_grown r2 hbb1) (rd_grown r3 hbb1) (rd_grown r4 hbb1) (rd_grown r5 hbb1) (rd_grown r6 hbb1)).mono ?_
  rintro r w2 ⟨P1, M1, S1, E1, R1, L1, cp1, cm1, cs1, ce1, cr1, cl1, rfl, own, hb2⟩
  have hl2 := hl1.below hb2; have hbb2 := below_then hbb1 hb2
  clear hF hl1 HTW
  have hF := hl2
  (repeat unfold Loc at hF)
  go_upto_region 4 with (fail)
  obtain ⟨Z2, hZ2, hlZ2, hbZ2, own2⟩ : ∃ Z, Z = w2.alloc (.cells #[.int .u8 kd, .int .i64 n, .int .i64 turn, .slice P1 n1 cp1, .slice M1 n2 cm1, .slice S1 n3 cs1, .slice E1 n4 ce1, .slice R1 n5 cr1, .slice L1 n6 cl1] 67) ∧ Loc Z [(w2.heap.size, [.int .u8 kd, .int .i64 n, .int .i64 turn, .slice P1 n1 cp1, .slice M1 n2 cm1, .slice S1 n3 cs1, .slice E1 n4 ce1, .slice R1 n5 cr1, .slice L1 n6 cl1]), (w.heap.size, [.int .u8 kd, .int .i64 n, .int .i64 turn, .slice P n1 cp, .slice M n2 cm, .slice S n3 cs, .slice E n4 ce, .slice R n5 cr, .slice L n6 cl]), (w.heap.size + 1, [.int .u8 m.kind, .int .i64 m.k, .int .i64 m.t, .int .i64 m.v, .int .i64 m.time, .int .i64 m.rk, .int .i64 m.rs, .int .i64 m.re, .int .i64 m.ra, .int .i64 m.rb])] ∧ Below w.heap.size w Z ∧ OwnT Z w1.heap.size P1 M1 S1 E1 R1 L1 cp1 cm1 cs1 ce1 cr1 cl1 n1 n2 n3 n4 n5 n6 ps ms st es rs ls := ⟨_, rfl, hl2.new [.int .u8 kd, .int .i64 n, .int .i64 turn, .slice P1 n1 cp1, .slice M1 n2 cm1, .slice S1 n3 cs1, .slice E1 n4 ce1, .slice R1 n5 cr1, .slice L1 n6 cl1] 67, below_new hbb2 _, own.below (below_new (Below.refl _ _) _)⟩
  rw [← hZ2]
  clear hZ2 hF hl2 hbb2 own hb2 hbb1 hb1
  obtain ⟨⟨o1, y1⟩, ⟨o2, y2⟩, ⟨o3, y3⟩, ⟨o4, y4⟩, ⟨o5, y5⟩, ⟨o6, y6⟩, -⟩ := own2
  have s1 := Own.rd sdenc_len o1
  have s2 := Own.rd ienc_len34 o2
  have s3 := Own.rd enenc_len o3
  have s4 := Own.rd evenc_len o4
  have s5 := Own.rd wenc_len o5
  have s6 := Own.rd renc_len o6
  clear o1 o2 o3 o4 o5 o6
  have hrk := fun W (g1 : Rd sdenc 11 W W.heap.size P1 ps) (g2 : Rd ienc 1 W W.heap.size M1 ms) (g3 : Rd enenc 11 W W.heap.size S1 st) (g4 : Rd evenc 5 W W.heap.size E1 es) (g5 : Rd wenc 5 W W.heap.size R1 rs) (g6 : Rd renc 3 W W.heap.size L1 ls) => rsinktake_any kd n turn ps ms st es rs ls P1 M1 S1 E1 R1 L1 cp1 cm1 cs1 ce1 cr1 cl1 n1 n2 n3 n4 n5 n6 m W HN1.out HN2.out HN3.out HN4.out HN5.out HN6.out b1 b2 b3 b4 b5 b6 y1 y2 y3 y4 y5 y6 g1 g2 g3 g4 g5 g6
  rw [HTE.out] at hrk
  have HRK := Lib.hid hrk
  clear hrk y1 y2 y3 y4 y5 y6
  have hF := hlZ2
  (repeat unfold Loc at hF)
  go_wp2_with fail
  go_at_call 41
  refine (HTK.out _ (rd_grown r1 hbZ2) (rd_grown r2 hbZ2) (rd_grown r3 hbZ2) (rd_grown r4 hbZ2) (rd_grown r5 hbZ2) (rd_grown r6 hbZ2)).mono ?_
  intro r w3 ht3
  obtain ⟨P2, M2, S2, E2, R2, L2, cp2, cm2, cs2, ce2, cr2, cl2, rfl, ⟨u1, u2, u3, u4, u5, u6⟩, hb3⟩ := take_x HJ1.out HJ2.out HJ3.out HJ4.out HJ5.out HJ6.out ht3
  have hl3 := hlZ2.below hb3; have hbb3 := below_then hbZ2 hb3
  clear hF hlZ2 HTK
  have hF := hl3
  (repeat unfold Loc at hF)
  go_upto_region 5 with (fail)
  obtain ⟨Z3, hZ3, hlZ3, hbZ3, hX3⟩ : ∃ Z, Z = w3.alloc (.cells #[.int .u8 kdq, .int .i64 nq, .int .i64 turnq, .slice P2 q1 cp2, .slice M2 q2 cm2, .slice S2 q3 cs2, .slice E2 q4 ce2, .slice R2 q5 cr2, .slice L2 q6 cl2] 67) ∧ Loc Z [(w3.heap.size, [.int .u8 kdq, .int .i64 nq, .int .i64 turnq, .slice P2 q1 cp2, .slice M2 q2 cm2, .slice S2 q3 cs2, .slice E2 q4 ce2, .slice R2 q5 cr2, .slice L2 q6 cl2]), (w2.heap.size, [.int .u8 kd, .int .i64 n, .int .i64 turn, .slice P1 n1 cp1, .slice M1 n2 cm1, .slice S1 n3 cs1, .slice E1 n4 ce1, .slice R1 n5 cr1, .slice L1 n6 cl1]), (w.heap.size, [.int .u8 kd, .int .i64 n, .int .i64 turn, .slice P n1 cp, .slice M n2 cm, .slice S n3 cs, .slice E n4 ce, .slice R n5 cr, .slice L n6 cl]), (w.heap.size + 1, [.int .u8 m.kind, .int .i64 m.k, .int .i64 m.t, .int .i64 m.v, .int .i64 m.time, .int .i64 m.rk, .int .i64 m.rs, .int .i64 m.re, .int .i64 m.ra, .int .i64 m.rb])] ∧ Below w.heap.size w Z ∧ Below w3.heap.size w3 Z := ⟨_, rfl, hl3.new [.int .u8 kdq, .int .i64 nq, .int .i64 turnq, .slice P2 q1 cp2, .slice M2 q2 cm2, .slice S2 q3 cs2, .slice E2 q4 ce2, .slice R2 q5 cr2, .slice L2 q6 cl2] 67, below_new hbb3 _, below_new (Below.refl _ _) _⟩
  rw [← hZ3]
  have hX23 : Below Z2.heap.size Z2 Z3 := below_then hb3 hX3
  clear hZ3 hF hl3 hbb3
  have hF := hlZ3
  (repeat unfold Loc at hF)
  go_wp2_with fail
  go_at_call 42
  refine (HRK.out _ (rd_grown (s1.more (by first | exact Nat.le_refl _ | omega)) hX23) (rd_grown (s2.more (by first | exact Nat.le_refl _ | omega)) hX23) (rd_grown (s3.more (by first | exact Nat.le_refl _ | omega)) hX23) (rd_grown (s4.more (by first | exact Nat.le_refl _ | omega)) hX23) (rd_grown (s5.more (by first | exact Nat.le_refl _ | omega)) hX23) (rd_grown (s6.more (by first | exact Nat.le_refl _ | omega)) hX23)).mono ?_
  intro r w4 ht4
  obtain ⟨P3, M3, S3, E3, R3, L3, cp3, cm3, cs3, ce3, cr3, cl3, rfl, ⟨v1, v2, v3, v4, v5, v6⟩, hb4⟩ := take_x HJ1.out HJ2.out HJ3.out HJ4.out HJ5.out HJ6.out ht4
  have hl4 := hlZ3.below hb4; have hbb4 := below_then hbZ3 hb4
  clear hF hlZ3 HRK
  have hF := hl4
  (repeat unfold Loc at hF)
  go_upto_region 6 with (fail)
  obtain ⟨Z4, hZ4, hlZ4, hbZ4, hX4⟩ : ∃ Z, Z = w4.alloc (.cells #[.int .u8 kdq, .int .i64 nq, .int .i64 turnq, .slice P3 q1 cp3, .slice M3 q2 cm3, .slice S3 q3 cs3, .slice E3 q4 ce3, .slice R3 q5 cr3, .slice L3 q6 cl3] 67) ∧ Loc Z [(w4.heap.size, [.int .u8 kdq, .int .i64 nq, .int .i64 turnq, .slice P3 q1 cp3, .slice M3 q2 cm3, .slice S3 q3 cs3, .slice E3 q4 ce3, .slice R3 q5 cr3, .slice L3 q6 cl3]), (w3.heap.size, [.int .u8 kdq, .int .i64 nq, .int .i64 turnq, .slice P2 q1 cp2, .slice M2 q2 cm2, .slice S2 q3 cs2, .slice E2 q4 ce2, .slice R2 q5 cr2, .slice L2 q6 cl2]), (w2.heap.size, [.int .u8 kd, .int .i64 n, .int .i64 turn, .slice P1 n1 cp1, .slice M1 n2 cm1, .slice S1 n3 cs1, .slice E1 n4 ce1, .slice R1 n5 cr1, .slice L1 n6 cl1]), (w.heap.size, [.int .u8 kd, .int .i64 n, .int .i64 turn, .slice P n1 cp, .slice M n2 cm, .slice S n3 cs, .slice E n4 ce, .slice R n5 cr, .slice L n6 cl]), (w.heap.size + 1, [.int .u8 m.kind, .int .i64 m.k, .int .i64 m.t, .int .i64 m.v, .int .i64 m.time, .int .i64 m.rk, .int .i64 m.rs, .int .i64 m.re, .int .i64 m.ra, .int .i64 m.rb])] ∧ Below w.heap.size w Z ∧ Below w4.heap.size w4 Z := ⟨_, rfl, hl4.new [.int .u8 kdq, .int .i64 nq, .int .i64 turnq, .slice P3 q1 cp3, .slice M3 q2 cm3, .slice S3 q3 cs3, .slice E3 q4 ce3, .slice R3 q5 cr3, .slice L3 q6 cl3] 67, below_new hbb4 _, below_new (Below.refl _ _) _⟩
  rw [← hZ4]
  have hX34 : Below Z3.heap.size Z3 Z4 := below_then hb4 hX4
  have hX24 : Below Z2.heap.size Z2 Z4 := below_then hX23 hX34
  have hY3 : Below w3.heap.size w3 Z4 := below_then hX3 hX34
  clear hZ4 hF hl4 hbb4 ht3 ht4
  obtain ⟨a1, a2, a3, a4, a5, a6⟩ := HLN.out
  have c1 : q1 ≤ 1099511627776 := by omega
  have c2 : q2 ≤ 1099511627776 := by omega
  have c3 : q3 ≤ 1099511627776 := by omega
  have c4 : q4 ≤ 1099511627776 := by omega
  have c5 : q5 ≤ 1099511627776 := by omega
  have c6 : q6 ≤ 1099511627776 := by omega
  have hsa := rtksame_any kdq nq turnq psq msq stq esq rsq lsq P2 M2 S2 E2 R2 L2 P3 M3 S3 E3 R3 L3 cp2 cm2 cs2 ce2 cr2 cl2 cp3 cm3 cs3 ce3 cr3 cl3 q1 q2 q3 q4 q5 q6 Z4 HJ1.out HJ2.out HJ3.out HJ4.out HJ5.out HJ6.out c1 c2 c3 c4 c5 c6 (rd_grown u1 hY3) (rd_grown u2 hY3) (rd_grown u3 hY3) (rd_grown u4 hY3) (rd_grown u5 hY3) (rd_grown u6 hY3) (rd_grown v1 hX4) (rd_grown v2 hX4) (rd_grown v3 hX4) (rd_grown v4 hX4) (rd_grown v5 hX4) (rd_grown v6 hX4)
  have hde : (e == e) = true := by simp
  have hsb := fun W (hb : Below Z4.heap.size Z4 W) => rtksame_any kd n turn ps ms st es rs ls P M S E R L P1 M1 S1 E1 R1 L1 cp cm cs ce cr cl cp1 cm1 cs1 ce1 cr1 cl1 n1 n2 n3 n4 n5 n6 W HN1.out HN2.out HN3.out HN4.out HN5.out HN6.out b1 b2 b3 b4 b5 b6 (rd_grown r1 (below_then hbZ4 hb)) (rd_grown r2 (below_then hbZ4 hb)) (rd_grown r3 (below_then hbZ4 hb)) (rd_grown r4 (below_then hbZ4 hb)) (rd_grown r5 (below_then hbZ4 hb)) (rd_grown r6 (below_then hbZ4 hb)) (rd_grown (s1.more (by first | exact Nat.le_refl _ | omega)) (below_then hX24 hb)) (rd_grown (s2.more (by first | exact Nat.le_refl _ | omega)) (below_then hX24 hb)) (rd_grown (s3.more (by first | exact Nat.le_refl _ | omega)) (below_then hX24 hb)) (rd_grown (s4.more (by first | exact Nat.le_refl _ | omega)) (below_then hX24 hb)) (rd_grown (s5.more (by first | exact Nat.le_refl _ | omega)) (below_then hX24 hb)) (rd_grown (s6.more (by first | exact Nat.le_refl _ | omega)) (below_then hX24 hb))
  have hsn := fun W => rtksame_any (newK late) 0 0 [] [] [] [] [] [] none none none none none none none none none none none none 0 0 0 0 0 0 0 0 0 0 0 0 0 0 0 0 0 0 W rfl rfl rfl rfl rfl rfl (by omega) (by omega) (by omega) (by omega) (by omega) (by omega) Rd.nil Rd.nil Rd.nil Rd.nil Rd.nil Rd.nil Rd.nil Rd.nil Rd.nil Rd.nil Rd.nil Rd.nil
  have HSA := Lib.hid hsa; have HSB := Lib.hid hsb; have HSN := Lib.hid hsn
  clear hsa hsb hsn u1 u2 u3 u4 u5 u6 v1 v2 v3 v4 v5 v6 s1 s2 s3 s4 s5 s6 r1 r2 r3 r4 r5 r6 hX34 hX24 hY3 hX4 hX23 hX3 hb4 hb3
  have hF := hlZ4
  (repeat unfold Loc at hF)
  go_wp2_with fail
  go_at_call 43
  refine HSA.out.mono ?_
  rintro r w5 ⟨rfl, hb5⟩
  have hl5 := hlZ4.below hb5
  clear hF hlZ4
  have hF := hl5
  (repeat unfold Loc at hF)
  go_wp2_with fail
  go_at_call 44
  refine (new34_any late _).mono ?_
  rintro r w6 ⟨rfl, hb6⟩
  go_wp2_with fail
  go_at_call 45
  refine (rnew34_any late _).mono ?_
  rintro r w7 ⟨rfl, hb7⟩
  go_wp2_with fail
  go_at_call 43
  refine (HSN.out _).mono ?_
  rintro r w8 ⟨rfl, hb8⟩
  have hb58 := below_then (below_then hb6 hb7) hb8
  have hl8 := hl5.below hb58
  clear hF hl5
  have hF := hl8
  (repeat unfold Loc at hF)
  go_wp2_with fail
  go_at_call 43
  refine (HSB.out _ (below_then hb5 hb58)).mono ?_
  rintro r w9 ⟨rfl, hb9⟩
  go_wp2_with fail
  go_ret
  exact ⟨rfl, below_then (below_then (below_then hbZ4 hb5) hb58) hb9⟩
theorem sinkTakes_walk {w : World} (x : Tk × Pl) (hx : RdT w x.2 x.1 ∧ NzT x.2) (a0 : Int) (_w0 : (Lit.int .u8 a0).wf = true) (a1 : Int) (_w1 : (Lit.int .i64 a1).wf = true) (a2 : Int) (_w2 : (Lit.int .i64 a2).wf = true) (a3 : Int) (_w3 : (Lit.int .i64 a3).wf = true) (a4 : Int) (_w4 : (Lit.int .i64 a4).wf = true) (a5 : Int) (_w5 : (Lit.int .i64 a5).wf = true) (a6 : Int) (_w6 : (Lit.int .i64 a6).wf = true) (a7 : Int) (_w7 : (Lit.int .i64 a7).wf = true) (a8 : Int) (_w8 : (Lit.int .i64 a8).wf = true) (a9 : Int) (_w9 : (Lit.int .i64 a9).wf = true) (late : Bool) :
    Calls Try.prog 9 #[.agg (tkcells x.1 x.2).toArray, .agg #[.int .u8 a0, .int .i64 a1, .int .i64 a2, .int .i64 a3, .int .i64 a4, .int .i64 a5, .int .i64 a6, .int .i64 a7, .int .i64 a8, .int .i64 a9], .bool late] w fun r w' => r = .returned (.bool true) ∧ Below w.heap.size w w' := by
  obtain ⟨⟨kd, n, turn, ps, ms, st, es, rs, ls⟩, ⟨P, cp, M, cm, S, cs, E, ce, R, cr, L, cl⟩⟩ := x
  obtain ⟨⟨r1, r2, r3, r4, r5, r6⟩, z1, z2, z3, z4, z5, z6⟩ := hx
  exact sinkTakes_main kd n turn ps ms st es rs ls P M S E R L cp cm cs ce cr cl ps.length ms.length st.length es.length rs.length ls.length ⟨a0, a1, a2, a3, a4, a5, a6, a7, a8, a9⟩ late w rfl rfl rfl rfl rfl rfl z1 z2 z3 z4 z5 z6 r1 r2 r3 r4 r5 r6
end Go.Proofs.Ytffehibdeogjeaa
