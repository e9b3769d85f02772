/- ref27.Check (chapter 27), printed by wip/gen_taskrcheck.py. Condition: lists of at most 2^40. -/
import Derived.Test.YtffehibdeogjeaaTaskRef
namespace Go.Proofs.Ytffehibdeogjeaa
open Go.RowKit

theorem tkok_parts (t : Tk) : tkok t = (decide (0 ≤ t.turn ∧ t.turn < 20 ∧ 0 ≤ t.n ∧ t.n < 4 ∧ t.ps.length ≤ 4000) && keptN t.kd t.ms.length t.st.length t.es.length t.rs.length t.ls.length && t.ps.all sdok
  && (((t.ms.all lowmark && t.es.all evok) && t.rs.all (fun x => isrow x.s x.e)) && t.ls.all (fun x => istime x.t)) && decide (enchk t.st = 0) && t.st.all (fun x => !decide (t.kd = 4) || decide (x.c2 = 0))) := by
  unfold tkok lone
  rw [kept_n]
  generalize decide (0 ≤ t.turn ∧ t.turn < 20 ∧ 0 ≤ t.n ∧ t.n < 4 ∧ t.ps.length ≤ 4000) = a1
  generalize keptN t.kd t.ms.length t.st.length t.es.length t.rs.length t.ls.length = a2
  generalize t.ps.all sdok = a3
  generalize t.ms.all lowmark = a4
  generalize t.es.all evok = a5
  generalize (t.rs.all fun x => isrow x.s x.e) = a6
  generalize (t.ls.all fun x => istime x.t) = a7
  generalize decide (enchk t.st = 0) = a8
  generalize (t.st.all fun x => !decide (t.kd = 4) || decide (x.c2 = 0)) = a9
  cases a1 <;> cases a2 <;> cases a3 <;> cases a4 <;> cases a5 <;> cases a6 <;> cases a7 <;> cases a8 <;> rfl
set_option maxHeartbeats 32000000 in
set_option maxRecDepth 100000 in
theorem rtkcheck_any (kd n turn : Int) (ps : List Sd) (ms : List Int) (st : List En) (es : List Ev) (rs : List Rw) (ls : List Rc) (P M S E R_ L : Option Addr) (cp cm cs ce cr cl n1 n2 n3 n4 n5 n6 : Nat) (w : World)
    (h1 : ps.length = n1) (h2 : ms.length = n2) (h3 : st.length = n3) (h4 : es.length = n4) (h5 : rs.length = n5) (h6 : ls.length = n6)
    (b1 : n1 ≤ 1099511627776) (b2 : n2 ≤ 1099511627776) (b3 : n3 ≤ 1099511627776) (b4 : n4 ≤ 1099511627776) (b5 : n5 ≤ 1099511627776) (b6 : n6 ≤ 1099511627776)
    (r1 : Rd sdenc 11 w w.heap.size P ps) (r2 : Rd ienc 1 w w.heap.size M ms) (r3 : Rd enenc 11 w w.heap.size S st) (r4 : Rd evenc 5 w w.heap.size E es) (r5 : Rd wenc 5 w w.heap.size R_ rs) (r6 : Rd renc 3 w w.heap.size L ls) :
    Calls Try.prog 82 #[.agg #[.int .u8 kd, .int .i64 n, .int .i64 turn, .slice P n1 cp, .slice M n2 cm, .slice S n3 cs, .slice E n4 ce, .slice R_ n5 cr, .slice L n6 cl]] w fun e w' => e = .returned (.int .i64 (err8 (tkok ⟨kd, n, turn, ps, ms, st, es, rs, ls⟩))) ∧ Below w.heap.size w w' := by
  obtain ⟨R, hR⟩ : ∃ R, R = tkok ⟨kd, n, turn, ps, ms, st, es, rs, ls⟩ := ⟨_, rfl⟩
  have hRp := hR
  rw [tkok_parts] at hRp
  rw [← hR]
  dsimp only at hRp
  rw [h1, h2, h3, h4, h5, h6] at hRp
  have hk := fun W => rkept_any kd n turn P M S E R_ L cp cm cs ce cr cl n1 n2 n3 n4 n5 n6 W b2 b4 b5
  have hs := fun W (g : Rd sdenc 11 W W.heap.size P ps) => rsends_any P cp n1 ps W h1 b1 g
  have hl := fun W (g2 : Rd ienc 1 W W.heap.size M ms) (g4 : Rd evenc 5 W W.heap.size E es) (g5 : Rd wenc 5 W W.heap.size R_ rs) (g6 : Rd renc 3 W W.heap.size L ls) => rlists_any kd n turn ms es rs ls P M S E R_ L cp cm cs ce cr cl n1 n2 n3 n4 n5 n6 W h2 h4 h5 h6 b2 b4 b5 b6 g2 g4 g5 g6
  have hst := fun W (g : Rd enenc 11 W W.heap.size S st) => rstorecheck_any S cs n3 st W h3 b3 g
  obtain ⟨K, hK⟩ : ∃ K, K = keptN kd n2 n3 n4 n5 n6 := ⟨_, rfl⟩
  obtain ⟨V, hV⟩ : ∃ V, V = ps.all sdok := ⟨_, rfl⟩
  obtain ⟨U, hU⟩ : ∃ U, U = (((ms.all lowmark && es.all evok) && rs.all (fun x => isrow x.s x.e)) && ls.all (fun x => istime x.t)) := ⟨_, rfl⟩
  obtain ⟨F, hF0⟩ : ∃ F, F = enchk st := ⟨_, rfl⟩
  rw [← hK] at hk hRp
  rw [← hV] at hs hRp
  rw [← hU] at hl hRp
  rw [← hF0] at hst hRp
  obtain ⟨G, hG⟩ : ∃ G, G = st.all (fun x => !decide (kd = 4) || decide (x.c2 = 0)) := ⟨_, rfl⟩
  rw [← hG] at hRp
  have HR := Lib.hid hRp; have HK := Lib.hid hk; have HS := Lib.hid hs; have HL := Lib.hid hl; have HST := Lib.hid hst; have HG := Lib.hid hG; have HN3 := Lib.hid h3
  clear hR hRp hk hs hl hst hK hV hU hF0 hG h1 h2 h3 h4 h5 h6
  have hl0 : Loc (w.alloc (.cells #[.int .u8 kd, .int .i64 n, .int .i64 turn, .slice P n1 cp, .slice M n2 cm, .slice S n3 cs, .slice E n4 ce, .slice R_ n5 cr, .slice L n6 cl] 67)) [(w.heap.size, [.int .u8 kd, .int .i64 n, .int .i64 turn, .slice P n1 cp, .slice M n2 cm, .slice S n3 cs, .slice E n4 ce, .slice R_ n5 cr, .slice L n6 cl])] := (Loc.nil w).new [.int .u8 kd, .int .i64 n, .int .i64 turn, .slice P n1 cp, .slice M n2 cm, .slice S n3 cs, .slice E n4 ce, .slice R_ n5 cr, .slice L n6 cl] 67
  have hb0 : Below w.heap.size w (w.alloc (.cells #[.int .u8 kd, .int .i64 n, .int .i64 turn, .slice P n1 cp, .slice M n2 cm, .slice S n3 cs, .slice E n4 ce, .slice R_ n5 cr, .slice L n6 cl] 67)) := below_new (Below.refl _ _) _
  have HL0 := Lib.hid hl0; have HB0 := Lib.hid hb0
  clear hl0 hb0
  by_cases q0 : turn < 0
  · have d0 : decide (turn < 0) = true := by simp; omega
    have hv : R = false := by rw [HR.out]; rw [(decide_eq_false (by omega) : decide (0 ≤ turn ∧ turn < 20 ∧ 0 ≤ n ∧ n < 4 ∧ n1 ≤ 4000) = false)]; simp only [Bool.false_and]
    subst hv
    go_enter Try.func82, Try.ntmps82
    go_upto_region 1 with (fail)
    obtain ⟨W1, hW1⟩ : ∃ W1, W1 = w.alloc (.cells #[.int .u8 kd, .int .i64 n, .int .i64 turn, .slice P n1 cp, .slice M n2 cm, .slice S n3 cs, .slice E n4 ce, .slice R_ n5 cr, .slice L n6 cl] 67) := ⟨_, rfl⟩
    have hl0 := HL0.out; have hb0 := HB0.out
    rw [← hW1] at hl0 hb0 ⊢
    clear hW1 HL0 HB0
    have hF := hl0
    (repeat unfold Loc at hF)
    clear q0
    go_wp2_with fail
    go_ret
    exact ⟨rfl, (by repeat (first | with_reducible exact Below.refl _ _ | with_reducible assumption | (with_reducible exact Env.below (by assumption)) | (with_reducible refine below_new ?_ _) | (with_reducible refine below_drew ?_) | (with_reducible refine below_drewN ?_ _) | (with_reducible refine below_put ?_ ?_ _; rotate_left 1; (dsimp only; omega)) | (with_reducible refine below_then ?_ (by assumption))))⟩
  have d0 : decide (turn < 0) = false := by simp; omega
  by_cases q1 : 20 ≤ turn
  · have d1 : decide (20 ≤ turn) = true := by simp; omega
    have hv : R = false := by rw [HR.out]; rw [(decide_eq_false (by omega) : decide (0 ≤ turn ∧ turn < 20 ∧ 0 ≤ n ∧ n < 4 ∧ n1 ≤ 4000) = false)]; simp only [Bool.false_and]
    subst hv
    go_enter Try.func82, Try.ntmps82
    go_upto_region 1 with (fail)
    obtain ⟨W1, hW1⟩ : ∃ W1, W1 = w.alloc (.cells #[.int .u8 kd, .int .i64 n, .int .i64 turn, .slice P n1 cp, .slice M n2 cm, .slice S n3 cs, .slice E n4 ce, .slice R_ n5 cr, .slice L n6 cl] 67) := ⟨_, rfl⟩
    have hl0 := HL0.out; have hb0 := HB0.out
    rw [← hW1] at hl0 hb0 ⊢
    clear hW1 HL0 HB0
    have hF := hl0
    (repeat unfold Loc at hF)
    clear q0 q1
    go_wp2_with fail
    go_ret
    exact ⟨rfl, (by repeat (first | with_reducible exact Below.refl _ _ | with_reducible assumption | (with_reducible exact Env.below (by assumption)) | (with_reducible refine below_new ?_ _) | (with_reducible refine below_drew ?_) | (with_reducible refine below_drewN ?_ _) | (with_reducible refine below_put ?_ ?_ _; rotate_left 1; (dsimp only; omega)) | (with_reducible refine below_then ?_ (by assumption))))⟩
  have d1 : decide (20 ≤ turn) = false := by simp; omega
  by_cases q2 : 4000 < n1
  · have d2 : decide (4000 < (n1 : Int)) = true := by simp; omega
    have hv : R = false := by rw [HR.out]; rw [(decide_eq_false (by omega) : decide (0 ≤ turn ∧ turn < 20 ∧ 0 ≤ n ∧ n < 4 ∧ n1 ≤ 4000) = false)]; simp only [Bool.false_and]
    subst hv
    go_enter Try.func82, Try.ntmps82
    go_upto_region 1 with (fail)
    obtain ⟨W1, hW1⟩ : ∃ W1, W1 = w.alloc (.cells #[.int .u8 kd, .int .i64 n, .int .i64 turn, .slice P n1 cp, .slice M n2 cm, .slice S n3 cs, .slice E n4 ce, .slice R_ n5 cr, .slice L n6 cl] 67) := ⟨_, rfl⟩
    have hl0 := HL0.out; have hb0 := HB0.out
    rw [← hW1] at hl0 hb0 ⊢
    clear hW1 HL0 HB0
    have hF := hl0
    (repeat unfold Loc at hF)
    clear q0 q1 q2
    go_wp2_with fail
    go_ret
    exact ⟨rfl, (by repeat (first | with_reducible exact Below.refl _ _ | with_reducible assumption | (with_reducible exact Env.below (by assumption)) | (with_reducible refine below_new ?_ _) | (with_reducible refine below_drew ?_) | (with_reducible refine below_drewN ?_ _) | (with_reducible refine below_put ?_ ?_ _; rotate_left 1; (dsimp only; omega)) | (with_reducible refine below_then ?_ (by assumption))))⟩
  have d2 : decide (4000 < (n1 : Int)) = false := by simp; omega
  by_cases q3 : n < 0
  · have d3 : decide (n < 0) = true := by simp; omega
    have hv : R = false := by rw [HR.out]; rw [(decide_eq_false (by omega) : decide (0 ≤ turn ∧ turn < 20 ∧ 0 ≤ n ∧ n < 4 ∧ n1 ≤ 4000) = false)]; simp only [Bool.false_and]
    subst hv
    go_enter Try.func82, Try.ntmps82
    go_upto_region 1 with (fail)
    obtain ⟨W1, hW1⟩ : ∃ W1, W1 = w.alloc (.cells #[.int .u8 kd, .int .i64 n, .int .i64 turn, .slice P n1 cp, .slice M n2 cm, .slice S n3 cs, .slice E n4 ce, .slice R_ n5 cr, .slice L n6 cl] 67) := ⟨_, rfl⟩
    have hl0 := HL0.out; have hb0 := HB0.out
    rw [← hW1] at hl0 hb0 ⊢
    clear hW1 HL0 HB0
    have hF := hl0
    (repeat unfold Loc at hF)
    clear q0 q1 q2 q3
    go_wp2_with fail
    go_ret
    exact ⟨rfl, (by repeat (first | with_reducible exact Below.refl _ _ | with_reducible assumption | (with_reducible exact Env.below (by assumption)) | (with_reducible refine below_new ?_ _) | (with_reducible refine below_drew ?_) | (with_reducible refine below_drewN ?_ _) | (with_reducible refine below_put ?_ ?_ _; rotate_left 1; (dsimp only; omega)) | (with_reducible refine below_then ?_ (by assumption))))⟩
  have d3 : decide (n < 0) = false := by simp; omega
  by_cases q4 : 4 ≤ n
  · have d4 : decide (4 ≤ n) = true := by simp; omega
    have hv : R = false := by rw [HR.out]; rw [(decide_eq_false (by omega) : decide (0 ≤ turn ∧ turn < 20 ∧ 0 ≤ n ∧ n < 4 ∧ n1 ≤ 4000) = false)]; simp only [Bool.false_and]
    subst hv
    go_enter Try.func82, Try.ntmps82
    go_upto_region 1 with (fail)
    obtain ⟨W1, hW1⟩ : ∃ W1, W1 = w.alloc (.cells #[.int .u8 kd, .int .i64 n, .int .i64 turn, .slice P n1 cp, .slice M n2 cm, .slice S n3 cs, .slice E n4 ce, .slice R_ n5 cr, .slice L n6 cl] 67) := ⟨_, rfl⟩
    have hl0 := HL0.out; have hb0 := HB0.out
    rw [← hW1] at hl0 hb0 ⊢
    clear hW1 HL0 HB0
    have hF := hl0
    (repeat unfold Loc at hF)
    clear q0 q1 q2 q3 q4
    go_wp2_with fail
    go_ret
    exact ⟨rfl, (by repeat (first | with_reducible exact Below.refl _ _ | with_reducible assumption | (with_reducible exact Env.below (by assumption)) | (with_reducible refine below_new ?_ _) | (with_reducible refine below_drew ?_) | (with_reducible refine below_drewN ?_ _) | (with_reducible refine below_put ?_ ?_ _; rotate_left 1; (dsimp only; omega)) | (with_reducible refine below_then ?_ (by assumption))))⟩
  have d4 : decide (4 ≤ n) = false := by simp; omega
  have e0 : decide (0 ≤ turn ∧ turn < 20 ∧ 0 ≤ n ∧ n < 4 ∧ n1 ≤ 4000) = true := decide_eq_true (by omega)
  have HE0 := Lib.hid e0
  clear e0 q0 q1 q2 q3 q4
  cases K with
  | false =>
    have hv : R = false := by rw [HR.out]; simp only [Bool.and_false, Bool.false_and]
    subst hv
    go_enter Try.func82, Try.ntmps82
    go_upto_region 1 with (fail)
    obtain ⟨W1, hW1⟩ : ∃ W1, W1 = w.alloc (.cells #[.int .u8 kd, .int .i64 n, .int .i64 turn, .slice P n1 cp, .slice M n2 cm, .slice S n3 cs, .slice E n4 ce, .slice R_ n5 cr, .slice L n6 cl] 67) := ⟨_, rfl⟩
    have hl0 := HL0.out; have hb0 := HB0.out
    rw [← hW1] at hl0 hb0 ⊢
    clear hW1 HL0 HB0
    have hF := hl0
    (repeat unfold Loc at hF)
    go_wp2_with fail
    go_at_call 115
    refine (HK.out _).mono ?_
    rintro r w2 ⟨rfl, hb2⟩
    have hl2 := hl0.below hb2; have hb02 := below_then hb0 hb2
    clear hF hl0 hb0
    have hF := hl2
    (repeat unfold Loc at hF)
    go_wp2_with fail
    go_ret
    exact ⟨rfl, (by repeat (first | with_reducible exact Below.refl _ _ | with_reducible assumption | (with_reducible exact Env.below (by assumption)) | (with_reducible refine below_new ?_ _) | (with_reducible refine below_drew ?_) | (with_reducible refine below_drewN ?_ _) | (with_reducible refine below_put ?_ ?_ _; rotate_left 1; (dsimp only; omega)) | (with_reducible refine below_then ?_ (by assumption))))⟩
  | true =>
  cases V with
  | false =>
    have hv : R = false := by rw [HR.out]; simp only [Bool.and_false, Bool.false_and]
    subst hv
    go_enter Try.func82, Try.ntmps82
    go_upto_region 1 with (fail)
    obtain ⟨W1, hW1⟩ : ∃ W1, W1 = w.alloc (.cells #[.int .u8 kd, .int .i64 n, .int .i64 turn, .slice P n1 cp, .slice M n2 cm, .slice S n3 cs, .slice E n4 ce, .slice R_ n5 cr, .slice L n6 cl] 67) := ⟨_, rfl⟩
    have hl0 := HL0.out; have hb0 := HB0.out
    rw [← hW1] at hl0 hb0 ⊢
    clear hW1 HL0 HB0
    have hF := hl0
    (repeat unfold Loc at hF)
    go_wp2_with fail
    go_at_call 115
    refine (HK.out _).mono ?_
    rintro r w2 ⟨rfl, hb2⟩
    have hl2 := hl0.below hb2; have hb02 := below_then hb0 hb2
    clear hF hl0 hb0
    have hF := hl2
    (repeat unfold Loc at hF)
    go_wp2_with fail
    go_at_call 116
    refine (HS.out _ (rd_grown r1 hb02)).mono ?_
    rintro r w3 ⟨rfl, hb3⟩
    have hl3 := hl2.below hb3; have hb03 := below_then hb02 hb3
    clear hF hl2 hb02
    have hF := hl3
    (repeat unfold Loc at hF)
    go_wp2_with fail
    go_ret
    exact ⟨rfl, (by repeat (first | with_reducible exact Below.refl _ _ | with_reducible assumption | (with_reducible exact Env.below (by assumption)) | (with_reducible refine below_new ?_ _) | (with_reducible refine below_drew ?_) | (with_reducible refine below_drewN ?_ _) | (with_reducible refine below_put ?_ ?_ _; rotate_left 1; (dsimp only; omega)) | (with_reducible refine below_then ?_ (by assumption))))⟩
  | true =>
  cases U with
  | false =>
    have hv : R = false := by rw [HR.out]; simp only [Bool.and_false, Bool.false_and]
    subst hv
    go_enter Try.func82, Try.ntmps82
    go_upto_region 1 with (fail)
    obtain ⟨W1, hW1⟩ : ∃ W1, W1 = w.alloc (.cells #[.int .u8 kd, .int .i64 n, .int .i64 turn, .slice P n1 cp, .slice M n2 cm, .slice S n3 cs, .slice E n4 ce, .slice R_ n5 cr, .slice L n6 cl] 67) := ⟨_, rfl⟩
    have hl0 := HL0.out; have hb0 := HB0.out
    rw [← hW1] at hl0 hb0 ⊢
    clear hW1 HL0 HB0
    have hF := hl0
    (repeat unfold Loc at hF)
    go_wp2_with fail
    go_at_call 115
    refine (HK.out _).mono ?_
    rintro r w2 ⟨rfl, hb2⟩
    have hl2 := hl0.below hb2; have hb02 := below_then hb0 hb2
    clear hF hl0 hb0
    have hF := hl2
    (repeat unfold Loc at hF)
    go_wp2_with fail
    go_at_call 116
    refine (HS.out _ (rd_grown r1 hb02)).mono ?_
    rintro r w3 ⟨rfl, hb3⟩
    have hl3 := hl2.below hb3; have hb03 := below_then hb02 hb3
    clear hF hl2 hb02
    have hF := hl3
    (repeat unfold Loc at hF)
    go_wp2_with fail
    go_at_call 117
    refine (HL.out _ (rd_grown r2 hb03) (rd_grown r4 hb03) (rd_grown r5 hb03) (rd_grown r6 hb03)).mono ?_
    rintro r w4 ⟨rfl, hb4⟩
    have hl4 := hl3.below hb4; have hb04 := below_then hb03 hb4
    clear hF hl3 hb03
    have hF := hl4
    (repeat unfold Loc at hF)
    go_wp2_with fail
    go_ret
    exact ⟨rfl, (by repeat (first | with_reducible exact Below.refl _ _ | with_reducible assumption | (with_reducible exact Env.below (by assumption)) | (with_reducible refine below_new ?_ _) | (with_reducible refine below_drew ?_) | (with_reducible refine below_drewN ?_ _) | (with_reducible refine below_put ?_ ?_ _; rotate_left 1; (dsimp only; omega)) | (with_reducible refine below_then ?_ (by assumption))))⟩
  | true =>
  by_cases hf : F = 0
  rotate_left 1
  · have df : (F != 0) = true := by simp [hf]
    have hv : R = false := by rw [HR.out]; rw [decide_eq_false hf]; simp only [Bool.and_false, Bool.false_and]
    subst hv
    clear hf
    go_enter Try.func82, Try.ntmps82
    go_upto_region 1 with (fail)
    obtain ⟨W1, hW1⟩ : ∃ W1, W1 = w.alloc (.cells #[.int .u8 kd, .int .i64 n, .int .i64 turn, .slice P n1 cp, .slice M n2 cm, .slice S n3 cs, .slice E n4 ce, .slice R_ n5 cr, .slice L n6 cl] 67) := ⟨_, rfl⟩
    have hl0 := HL0.out; have hb0 := HB0.out
    rw [← hW1] at hl0 hb0 ⊢
    clear hW1 HL0 HB0
    have hF := hl0
    (repeat unfold Loc at hF)
    go_wp2_with fail
    go_at_call 115
    refine (HK.out _).mono ?_
    rintro r w2 ⟨rfl, hb2⟩
    have hl2 := hl0.below hb2; have hb02 := below_then hb0 hb2
    clear hF hl0 hb0
    have hF := hl2
    (repeat unfold Loc at hF)
    go_wp2_with fail
    go_at_call 116
    refine (HS.out _ (rd_grown r1 hb02)).mono ?_
    rintro r w3 ⟨rfl, hb3⟩
    have hl3 := hl2.below hb3; have hb03 := below_then hb02 hb3
    clear hF hl2 hb02
    have hF := hl3
    (repeat unfold Loc at hF)
    go_wp2_with fail
    go_at_call 117
    refine (HL.out _ (rd_grown r2 hb03) (rd_grown r4 hb03) (rd_grown r5 hb03) (rd_grown r6 hb03)).mono ?_
    rintro r w4 ⟨rfl, hb4⟩
    have hl4 := hl3.below hb4; have hb04 := below_then hb03 hb4
    clear hF hl3 hb03
    have hF := hl4
    (repeat unfold Loc at hF)
    go_wp2_with fail
    go_at_call 118
    refine (HST.out _ (rd_grown r3 hb04)).mono ?_
    rintro r w5 ⟨rfl, hb5⟩
    have hl5 := hl4.below hb5; have hb05 := below_then hb04 hb5
    clear hF hl4 hb04
    have hF := hl5
    (repeat unfold Loc at hF)
    go_wp2_with fail
    go_ret
    exact ⟨rfl, (by repeat (first | with_reducible exact Below.refl _ _ | with_reducible assumption | (with_reducible exact Env.below (by assumption)) | (with_reducible refine below_new ?_ _) | (with_reducible refine below_drew ?_) | (with_reducible refine below_drewN ?_ _) | (with_reducible refine below_put ?_ ?_ _; rotate_left 1; (dsimp only; omega)) | (with_reducible refine below_then ?_ (by assumption))))⟩
  have hRG : R = G := by rw [HR.out, HE0.out, decide_eq_true hf]; simp only [Bool.true_and]
  subst hf
  subst hRG
  go_enter Try.func82, Try.ntmps82
  go_upto_region 1 with (fail)
  obtain ⟨W1, hW1⟩ : ∃ W1, W1 = w.alloc (.cells #[.int .u8 kd, .int .i64 n, .int .i64 turn, .slice P n1 cp, .slice M n2 cm, .slice S n3 cs, .slice E n4 ce, .slice R_ n5 cr, .slice L n6 cl] 67) := ⟨_, rfl⟩
  have hl0 := HL0.out; have hb0 := HB0.out
  rw [← hW1] at hl0 hb0 ⊢
  clear hW1 HL0 HB0
  have hF := hl0
  (repeat unfold Loc at hF)
  go_wp2_with fail
  go_at_call 115
  refine (HK.out _).mono ?_
  rintro r w2 ⟨rfl, hb2⟩
  have hl2 := hl0.below hb2; have hb02 := below_then hb0 hb2
  clear hF hl0 hb0
  have hF := hl2
  (repeat unfold Loc at hF)
  go_wp2_with fail
  go_at_call 116
  refine (HS.out _ (rd_grown r1 hb02)).mono ?_
  rintro r w3 ⟨rfl, hb3⟩
  have hl3 := hl2.below hb3; have hb03 := below_then hb02 hb3
  clear hF hl2 hb02
  have hF := hl3
  (repeat unfold Loc at hF)
  go_wp2_with fail
  go_at_call 117
  refine (HL.out _ (rd_grown r2 hb03) (rd_grown r4 hb03) (rd_grown r5 hb03) (rd_grown r6 hb03)).mono ?_
  rintro r w4 ⟨rfl, hb4⟩
  have hl4 := hl3.below hb4; have hb04 := below_then hb03 hb4
  clear hF hl3 hb03
  have hF := hl4
  (repeat unfold Loc at hF)
  go_wp2_with fail
  go_at_call 118
  refine (HST.out _ (rd_grown r3 hb04)).mono ?_
  rintro r w5 ⟨rfl, hb5⟩
  have hl5 := hl4.below hb5; have hb05 := below_then hb04 hb5
  clear hF hl4 hb04
  have hF := hl5
  (repeat unfold Loc at hF)
  go_wp2_with fail
  go_loopw [3] (fun iv wr => ∃ k : Nat, k ≤ n3 ∧ iv = .int .i64 k ∧ (st.take k).all (fun x => !decide (kd = 4) || decide (x.c2 = 0)) = true ∧ Below w5.heap.size w5 wr) (fun iv _ => n3 - (intOf iv).toNat)
  case atStart => exact ⟨0, Nat.zero_le _, rfl, by simp, Below.refl _ _⟩
  case round =>
    obtain ⟨k, hk, rfl, hall, hb⟩ := hrel
    have HA := Lib.hid hall
    clear hall hF
    have hbW : Below w.heap.size w wr := below_then hb05 hb
    have hlW := hl5.below hb
    have hF := hlW
    (repeat unfold Loc at hF)
    by_cases hlt : k < n3
    · obtain ⟨x, hx⟩ : ∃ x, st[k]? = some x := ⟨_, List.getElem?_eq_getElem (by rw [HN3.out]; exact hlt)⟩
      obtain ⟨b, off, rfl, hbb, f0, f1, f2, f3, f4, f5, f6, f7, f8, f9, f10⟩ := en_cells (rd_grown r3 hbW) hx
      have d11 : decide ((k : Int) < (n3 : Int)) = true := by simp; omega
      have d11' : decide (k < n3) = true := by simp [hlt]
      have k1 : (0 : Int) ≤ (k : Int) := by omega
      have k2 : (k : Int) < (n3 : Int) := by omega
      have e1 : IntKind.i64.wrap ((k : Int) + 1) = (k : Int) + 1 := IntWalk.i64_in _ (by omega)
      have HX := Lib.hid hx
      clear hx hlt
      by_cases h4 : kd = 4
      · have d4 : (kd == 4) = true := by simp [h4]
        by_cases hc : x.c2 = 0
        · have dc : (x.c2 != 0) = false := by simp [hc]
          have hnx : (st.take (k + 1)).all (fun x => !decide (kd = 4) || decide (x.c2 = 0)) = true := by rw [all_snoc27 _ HX.out, HA.out]; simp [h4, hc]
          have HNX := Lib.hid hnx
          clear hnx h4 hc
          go_wp2_with fail
          go_roundw
          case rel => exact ⟨k + 1, by omega, by go_num, HNX.out, (by repeat (first | with_reducible exact Below.refl _ _ | with_reducible assumption | (with_reducible exact Env.below (by assumption)) | (with_reducible refine below_new ?_ _) | (with_reducible refine below_drew ?_) | (with_reducible refine below_drewN ?_ _) | (with_reducible refine below_put ?_ ?_ _; rotate_left 1; (dsimp only; omega)) | (with_reducible refine below_then ?_ (by assumption))))⟩
          case measure => simp [intOf] <;> omega
        · have dc : (x.c2 != 0) = true := by simp [hc]
          have hv : R = false := by rw [HG.out]; exact all_not27 HX.out (by simp [h4, hc])
          subst hv
          clear h4 hc
          go_wp2_with fail
          go_ret
          exact ⟨rfl, (by repeat (first | with_reducible exact Below.refl _ _ | with_reducible assumption | (with_reducible exact Env.below (by assumption)) | (with_reducible refine below_new ?_ _) | (with_reducible refine below_drew ?_) | (with_reducible refine below_drewN ?_ _) | (with_reducible refine below_put ?_ ?_ _; rotate_left 1; (dsimp only; omega)) | (with_reducible refine below_then ?_ (by assumption))))⟩
      · have d4 : (kd == 4) = false := by simp [h4]
        have hnx : (st.take (k + 1)).all (fun x => !decide (kd = 4) || decide (x.c2 = 0)) = true := by rw [all_snoc27 _ HX.out, HA.out]; simp [h4]
        have HNX := Lib.hid hnx
        clear hnx h4
        go_wp2_with fail
        go_roundw
        case rel => exact ⟨k + 1, by omega, by go_num, HNX.out, (by repeat (first | with_reducible exact Below.refl _ _ | with_reducible assumption | (with_reducible exact Env.below (by assumption)) | (with_reducible refine below_new ?_ _) | (with_reducible refine below_drew ?_) | (with_reducible refine below_drewN ?_ _) | (with_reducible refine below_put ?_ ?_ _; rotate_left 1; (dsimp only; omega)) | (with_reducible refine below_then ?_ (by assumption))))⟩
        case measure => simp [intOf] <;> omega
    · obtain rfl : n3 = k := by omega
      have d11 : decide ((n3 : Int) < (n3 : Int)) = false := by simp
      have d11' : decide (n3 < n3) = false := by simp
      have hv : R = true := by rw [HG.out]; have h := HA.out; rwa [List.take_of_length_le (by rw [HN3.out]; exact Nat.le_refl _)] at h
      subst hv
      clear hlt
      go_wp2_with fail
      go_ret
      exact ⟨rfl, (by repeat (first | with_reducible exact Below.refl _ _ | with_reducible assumption | (with_reducible exact Env.below (by assumption)) | (with_reducible refine below_new ?_ _) | (with_reducible refine below_drew ?_) | (with_reducible refine below_drewN ?_ _) | (with_reducible refine below_put ?_ ?_ _; rotate_left 1; (dsimp only; omega)) | (with_reducible refine below_then ?_ (by assumption))))⟩
end Go.Proofs.Ytffehibdeogjeaa
