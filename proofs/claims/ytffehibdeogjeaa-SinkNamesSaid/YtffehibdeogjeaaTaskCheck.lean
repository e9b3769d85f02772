/- task.Check (chapter 27), printed by wip/gen_taskcheck.py. Condition: lists of at most 2^40. -/
import Derived.Test.YtffehibdeogjeaaTaskFuncs
import Derived.Test.YtffehibdeogjeaaEntriesCheck
import Derived.Test.YtffehibdeogjeaaSinkSame
import Derived.Deep.DeepCutAuto
namespace Go.Proofs.Ytffehibdeogjeaa
open Go.RowKit

/-- A task whose lists have at most 2^40. -/
def SmallT (t : Tk) : Prop := t.ps.length ≤ 1099511627776 ∧ t.ms.length ≤ 1099511627776 ∧ t.st.length ≤ 1099511627776 ∧ t.es.length ≤ 1099511627776 ∧ t.rs.length ≤ 1099511627776 ∧ t.ls.length ≤ 1099511627776
def sizT (Z : Lim) (n1 n2 n3 n4 n5 n6 : Nat) : Bool := decide ((n1 : Int) ≤ 4000 ∧ Z.least ≤ (n2 : Int) ∧ (n2 : Int) ≤ Z.most ∧ (n3 : Int) ≤ roomT Z.keeps 4000 ∧ (n4 : Int) ≤ roomT Z.events 60 ∧ (n5 : Int) ≤ roomT Z.rows 4000 ∧ (n6 : Int) ≤ roomT Z.late 4000)
theorem enchk_len {l : List En} (h : enchk l = 0) : l.length ≤ 4000 := by
  unfold enchk at h
  split at h
  · cases h
  · omega
theorem siz_kept {t : Tk} (h : enchk t.st = 0) : sizT (limT t.kd) t.ps.length t.ms.length t.st.length t.es.length t.rs.length t.ls.length = (decide (t.ps.length ≤ 4000) && kept t) := by
  have hl := enchk_len h
  unfold sizT kept limT
  generalize t.ps.length = m1
  generalize t.ms.length = m2
  generalize t.st.length = m3 at hl ⊢
  generalize t.es.length = m4
  generalize t.rs.length = m5
  generalize t.ls.length = m6
  rw [Bool.eq_iff_iff]
  simp only [Bool.and_eq_true, decide_eq_true_eq]
  by_cases h1 : t.kd = 1
  · simp [h1, roomT]; omega
  by_cases h2 : t.kd = 2
  · simp [h2, roomT]; omega
  by_cases h3 : t.kd = 3
  · simp [h3, roomT]; omega
  by_cases h4 : t.kd = 4
  · simp [h4, roomT]; omega
  by_cases h5 : t.kd = 5
  · simp [h5, roomT]; omega
  by_cases h6 : t.kd = 6
  · simp [h6, roomT]; omega
  by_cases h7 : t.kd = 7
  · simp [h7, roomT]; omega
  simp [h1, h2, h3, h4, h5, h6, h7, roomT]; omega
theorem tkok_num {t : Tk} (h : decide (0 ≤ t.turn ∧ t.turn < 20 ∧ 0 ≤ t.n ∧ t.n < 4) = false) : tkok t = false := by
  unfold tkok
  have e : decide (0 ≤ t.turn ∧ t.turn < 20 ∧ 0 ≤ t.n ∧ t.n < 4 ∧ t.ps.length ≤ 4000) = false := by
    rw [decide_eq_false_iff_not] at h ⊢
    intro hh
    exact h ⟨hh.1, hh.2.1, hh.2.2.1, hh.2.2.2.1⟩
  rw [e]
  simp only [Bool.false_and]
theorem tkok_siz {t : Tk} (h : sizT (limT t.kd) t.ps.length t.ms.length t.st.length t.es.length t.rs.length t.ls.length = false) : tkok t = false := by
  by_cases he : enchk t.st = 0
  · rw [siz_kept he] at h
    unfold tkok
    by_cases h1 : t.ps.length ≤ 4000
    · have h2 : kept t = false := by simpa [h1] using h
      rw [h2]
      simp only [Bool.and_false, Bool.false_and]
    · have e : decide (0 ≤ t.turn ∧ t.turn < 20 ∧ 0 ≤ t.n ∧ t.n < 4 ∧ t.ps.length ≤ 4000) = false := by
        rw [decide_eq_false_iff_not]
        intro hh
        exact h1 hh.2.2.2.2
      rw [e]
      simp only [Bool.false_and]
  · unfold tkok
    have e : decide (enchk t.st = 0) = false := decide_eq_false he
    rw [e]
    simp only [Bool.and_false, Bool.false_and]
theorem tkok_ps {t : Tk} (h : t.ps.all sdok = false) : tkok t = false := by
  unfold tkok
  rw [h]
  simp only [Bool.and_false, Bool.false_and]
theorem tkok_st {t : Tk} (h : ¬ enchk t.st = 0) : tkok t = false := by
  unfold tkok
  have e : decide (enchk t.st = 0) = false := decide_eq_false h
  rw [e]
  simp only [Bool.and_false, Bool.false_and]
theorem tkok_all {t : Tk} (h1 : decide (0 ≤ t.turn ∧ t.turn < 20 ∧ 0 ≤ t.n ∧ t.n < 4) = true) (h2 : sizT (limT t.kd) t.ps.length t.ms.length t.st.length t.es.length t.rs.length t.ls.length = true) (h3 : t.ps.all sdok = true) (h4 : enchk t.st = 0) :
    tkok t = (((((true && t.ms.all lowmark) && t.es.all evok) && t.rs.all (fun x => isrow x.s x.e)) && t.ls.all (fun x => istime x.t)) && t.st.all (fun x => !decide (t.kd = 4) || decide (x.c2 = 0))) := by
  rw [siz_kept h4] at h2
  simp only [Bool.and_eq_true, decide_eq_true_eq] at h1 h2
  unfold tkok lone
  have e : decide (0 ≤ t.turn ∧ t.turn < 20 ∧ 0 ≤ t.n ∧ t.n < 4 ∧ t.ps.length ≤ 4000) = true := decide_eq_true ⟨h1.1, h1.2.1, h1.2.2.1, h1.2.2.2, h2.1⟩
  have e4 : decide (enchk t.st = 0) = true := decide_eq_true h4
  rw [e, h2.2, h3, e4]
  rfl
set_option maxHeartbeats 32000000 in
set_option maxRecDepth 100000 in
theorem tkcheck_any (kd n turn : Int) (ps : List Sd) (ms : List Int) (st : List En) (es : List Ev) (rs : List Rw) (ls : List Rc) (P M S E R L : Option Addr) (cp cm cs ce cr cl n1 n2 n3 n4 n5 n6 : Nat) (w : World)
    (h1 : ps.length = n1) (h2 : ms.length = n2) (h3 : st.length = n3) (h4 : es.length = n4) (h5 : rs.length = n5) (h6 : ls.length = n6)
    (b1 : n1 ≤ 1099511627776) (b2 : n2 ≤ 1099511627776) (b3 : n3 ≤ 1099511627776) (b4 : n4 ≤ 1099511627776) (b5 : n5 ≤ 1099511627776) (b6 : n6 ≤ 1099511627776)
    (r1 : Rd sdenc 11 w w.heap.size P ps) (r2 : Rd ienc 1 w w.heap.size M ms) (r3 : Rd enenc 11 w w.heap.size S st) (r4 : Rd evenc 5 w w.heap.size E es) (r5 : Rd wenc 5 w w.heap.size R rs) (r6 : Rd renc 3 w w.heap.size L ls) :
    Calls Try.prog 79 #[.agg #[.int .u8 kd, .int .i64 n, .int .i64 turn, .slice P n1 cp, .slice M n2 cm, .slice S n3 cs, .slice E n4 ce, .slice R n5 cr, .slice L n6 cl]] w fun e w' => e = .returned (.int .i64 (err8 (tkok ⟨kd, n, turn, ps, ms, st, es, rs, ls⟩))) ∧ Below w.heap.size w w' := by
  have hsc := fun W (g : Rd sdenc 11 W W.heap.size P ps) => sends_any P cp n1 ps W h1 b1 g
  obtain ⟨V, hV⟩ : ∃ V, V = ps.all sdok := ⟨_, rfl⟩
  rw [← hV] at hsc
  have htc := fun W (g : Rd enenc 11 W W.heap.size S st) => storecheck_any S cs n3 st W h3 b3 g
  obtain ⟨F, hF0⟩ : ∃ F, F = enchk st := ⟨_, rfl⟩
  rw [← hF0] at htc
  have hlim := fun W => limits_any kd W
  obtain ⟨Z, hZ⟩ : ∃ Z, Z = limT kd := ⟨_, rfl⟩
  rw [← hZ] at hlim
  obtain ⟨N0, hN0⟩ : ∃ N0, N0 = decide (0 ≤ turn ∧ turn < 20 ∧ 0 ≤ n ∧ n < 4) := ⟨_, rfl⟩
  obtain ⟨S0, hS0⟩ : ∃ S0, S0 = sizT Z n1 n2 n3 n4 n5 n6 := ⟨_, rfl⟩
  have hno : N0 = false → tkok ⟨kd, n, turn, ps, ms, st, es, rs, ls⟩ = false := fun h => tkok_num (by rw [← h, hN0])
  have hsi : S0 = false → tkok ⟨kd, n, turn, ps, ms, st, es, rs, ls⟩ = false := fun h => tkok_siz (by rw [h1, h2, h3, h4, h5, h6, ← h, hS0, hZ])
  have hps : V = false → tkok ⟨kd, n, turn, ps, ms, st, es, rs, ls⟩ = false := fun h => tkok_ps (by rw [← h, hV])
  have hst : ¬ F = 0 → tkok ⟨kd, n, turn, ps, ms, st, es, rs, ls⟩ = false := fun h => tkok_st (by rw [← hF0]; exact h)
  have hok : N0 = true → S0 = true → V = true → F = 0 → tkok ⟨kd, n, turn, ps, ms, st, es, rs, ls⟩ = (((((true && ms.all lowmark) && es.all evok) && rs.all (fun x => isrow x.s x.e)) && ls.all (fun x => istime x.t)) && st.all (fun x => !decide (kd = 4) || decide (x.c2 = 0))) := fun g1 g2 g3 g4 => tkok_all (t := ⟨kd, n, turn, ps, ms, st, es, rs, ls⟩) (by rw [← g1, hN0]) (by rw [h1, h2, h3, h4, h5, h6, ← g2, hS0, hZ]) (by rw [← g3, hV]) (by rw [← g4, hF0])
  have hrm : ∀ (has : Bool) (n : Int) (W : World), Calls Try.prog 107 #[.bool has, .int .i64 n] W fun r w' => r = .returned (.int .i64 (roomT has n)) ∧ w' = W := fun has n W => (room27_any has n W).mono fun _ _ h => ⟨h.1, h.2.symm⟩
  have HRM := Lib.hid hrm
  have HNO := Lib.hid hno; have HSI := Lib.hid hsi; have HPS := Lib.hid hps; have HST := Lib.hid hst; have HOK0 := Lib.hid hok
  have HSC := Lib.hid hsc; have HTC := Lib.hid htc; have HLIM := Lib.hid hlim
  have HN1 := Lib.hid h1; have HN2 := Lib.hid h2; have HN3 := Lib.hid h3; have HN4 := Lib.hid h4; have HN5 := Lib.hid h5; have HN6 := Lib.hid h6
  have HN0 := Lib.hid hN0; have HS0 := Lib.hid hS0
  clear hrm hno hsi hps hst hok hsc htc hlim h1 h2 h3 h4 h5 h6 hN0 hS0 hV hF0 hZ
  obtain ⟨lo, hi, k1, k2, k3, k4⟩ := Z
  have hl0 : Loc (w.alloc (.cells #[.int .u8 kd, .int .i64 n, .int .i64 turn, .slice P n1 cp, .slice M n2 cm, .slice S n3 cs, .slice E n4 ce, .slice R n5 cr, .slice L n6 cl] 67)) [(w.heap.size, [.int .u8 kd, .int .i64 n, .int .i64 turn, .slice P n1 cp, .slice M n2 cm, .slice S n3 cs, .slice E n4 ce, .slice R n5 cr, .slice L n6 cl])] := (Loc.nil w).new [.int .u8 kd, .int .i64 n, .int .i64 turn, .slice P n1 cp, .slice M n2 cm, .slice S n3 cs, .slice E n4 ce, .slice R n5 cr, .slice L n6 cl] 67
  have hb0 : Below w.heap.size w (w.alloc (.cells #[.int .u8 kd, .int .i64 n, .int .i64 turn, .slice P n1 cp, .slice M n2 cm, .slice S n3 cs, .slice E n4 ce, .slice R n5 cr, .slice L n6 cl] 67)) := below_new (Below.refl _ _) _
  go_enter Try.func79, Try.ntmps79
  go_wp2_with fail
  go_at_call 106
  refine (HLIM.out _).mono ?_
  rintro r w1 ⟨rfl, rfl⟩
  go_upto_region 2 with (fail)
  obtain ⟨W1, hW1⟩ : ∃ W1, W1 = w.alloc (.cells #[.int .u8 kd, .int .i64 n, .int .i64 turn, .slice P n1 cp, .slice M n2 cm, .slice S n3 cs, .slice E n4 ce, .slice R n5 cr, .slice L n6 cl] 67) := ⟨_, rfl⟩
  rw [← hW1] at hl0 hb0 ⊢
  clear hW1
  have hF := hl0
  (repeat unfold Loc at hF)
  go_cut [9] from 33 to 52 (fun v wx => v = .bool N0 ∧ wx = W1)
  case first =>
    go_wp2_with fail
    all_goals (go_meet; case rel => exact ⟨congrArg Value.bool (by rw [HN0.out]; grind), rfl⟩)
  case rest =>
    obtain ⟨rfl, rfl⟩ := hcut
    go_upto_region 3 with (fail)
    go_cut [10] from 53 to 102 (fun v wx => v = .bool S0 ∧ ∃ m, wx = wc.drewN m)
    case first =>
      rcases Bool.eq_false_or_eq_true (decide ((n1 : Int) ≤ 4000)) with q0 | q0
      rotate_left 1
      · go_quiet ((go_at_call 107; exact Calls.quiet_of_same (HRM.out _ _ _)))
        go_wp2
        go_meet
        case rel => exact ⟨congrArg Value.bool (by rw [HS0.out]; exact (decide_eq_false (fun hh => by obtain ⟨g0, g1, g2, g3, g4, g5, g6⟩ := hh; simp_all)).symm), _, rfl⟩
      rcases Bool.eq_false_or_eq_true (decide (lo ≤ (n2 : Int))) with q1 | q1
      rotate_left 1
      · go_quiet ((go_at_call 107; exact Calls.quiet_of_same (HRM.out _ _ _)))
        go_wp2
        go_meet
        case rel => exact ⟨congrArg Value.bool (by rw [HS0.out]; exact (decide_eq_false (fun hh => by obtain ⟨g0, g1, g2, g3, g4, g5, g6⟩ := hh; simp_all)).symm), _, rfl⟩
      rcases Bool.eq_false_or_eq_true (decide ((n2 : Int) ≤ hi)) with q2 | q2
      rotate_left 1
      · go_quiet ((go_at_call 107; exact Calls.quiet_of_same (HRM.out _ _ _)))
        go_wp2
        go_meet
        case rel => exact ⟨congrArg Value.bool (by rw [HS0.out]; exact (decide_eq_false (fun hh => by obtain ⟨g0, g1, g2, g3, g4, g5, g6⟩ := hh; simp_all)).symm), _, rfl⟩
      rcases Bool.eq_false_or_eq_true (decide ((n3 : Int) ≤ roomT k1 4000)) with q3 | q3
      rotate_left 1
      · go_quiet ((go_at_call 107; exact Calls.quiet_of_same (HRM.out _ _ _)))
        go_wp2
        go_meet
        case rel => exact ⟨congrArg Value.bool (by rw [HS0.out]; exact (decide_eq_false (fun hh => by obtain ⟨g0, g1, g2, g3, g4, g5, g6⟩ := hh; simp_all)).symm), _, rfl⟩
      rcases Bool.eq_false_or_eq_true (decide ((n4 : Int) ≤ roomT k2 60)) with q4 | q4
      rotate_left 1
      · go_quiet ((go_at_call 107; exact Calls.quiet_of_same (HRM.out _ _ _)))
        go_wp2
        go_meet
        case rel => exact ⟨congrArg Value.bool (by rw [HS0.out]; exact (decide_eq_false (fun hh => by obtain ⟨g0, g1, g2, g3, g4, g5, g6⟩ := hh; simp_all)).symm), _, rfl⟩
      rcases Bool.eq_false_or_eq_true (decide ((n5 : Int) ≤ roomT k3 4000)) with q5 | q5
      rotate_left 1
      · go_quiet ((go_at_call 107; exact Calls.quiet_of_same (HRM.out _ _ _)))
        go_wp2
        go_meet
        case rel => exact ⟨congrArg Value.bool (by rw [HS0.out]; exact (decide_eq_false (fun hh => by obtain ⟨g0, g1, g2, g3, g4, g5, g6⟩ := hh; simp_all)).symm), _, rfl⟩
      rcases Bool.eq_false_or_eq_true (decide ((n6 : Int) ≤ roomT k4 4000)) with q6 | q6
      rotate_left 1
      · go_quiet ((go_at_call 107; exact Calls.quiet_of_same (HRM.out _ _ _)))
        go_wp2
        go_meet
        case rel => exact ⟨congrArg Value.bool (by rw [HS0.out]; exact (decide_eq_false (fun hh => by obtain ⟨g0, g1, g2, g3, g4, g5, g6⟩ := hh; simp_all)).symm), _, rfl⟩
      go_quiet ((go_at_call 107; exact Calls.quiet_of_same (HRM.out _ _ _)))
      go_wp2
      go_meet
      case rel => exact ⟨congrArg Value.bool (by rw [HS0.out]; exact (decide_eq_true ⟨of_decide_eq_true q0, of_decide_eq_true q1, of_decide_eq_true q2, of_decide_eq_true q3, of_decide_eq_true q4, of_decide_eq_true q5, of_decide_eq_true q6⟩).symm), _, rfl⟩
    case rest =>
      obtain ⟨rfl, mq, rfl⟩ := hcut
      obtain ⟨W2, hW2⟩ : ∃ W2, W2 = wc.drewN mq := ⟨_, rfl⟩
      rw [← hW2]
      have hl2 : Loc W2 _ := (by rw [hW2]; exact hl0.below (below_drewN (Below.refl _ _) _))
      have hb2 : Below w.heap.size w W2 := by rw [hW2]; exact below_drewN hb0 _
      clear hW2 hl0 hb0 hF
      have hF := hl2
      (repeat unfold Loc at hF)
      cases N0 with
      | false =>
        have hv := HNO.out rfl
        have HV := Lib.hid hv
        clear hv
        go_wp2_with fail
        go_ret
        exact ⟨by rw [HV.out]; rfl, hb2⟩
      | true =>
      cases S0 with
      | false =>
        have hv := HSI.out rfl
        have HV := Lib.hid hv
        clear hv
        go_wp2_with fail
        go_ret
        exact ⟨by rw [HV.out]; rfl, hb2⟩
      | true =>
      go_wp2_with fail
      go_at_call 108
      refine (HSC.out _ (rd_grown r1 hb2)).mono ?_
      rintro r w3 ⟨rfl, hb3⟩
      have hl3 := hl2.below hb3
      have hb03 := below_then hb2 hb3
      clear hF hl2 hb2 hb3
      have hF := hl3
      (repeat unfold Loc at hF)
      cases V with
      | false =>
        have hv := HPS.out rfl
        have HV := Lib.hid hv
        clear hv
        go_wp2_with fail
        go_ret
        exact ⟨by rw [HV.out]; rfl, hb03⟩
      | true =>
      go_wp2_with fail
      go_at_call 109
      refine (HTC.out _ (rd_grown r3 hb03)).mono ?_
      rintro r wA ⟨rfl, hb4⟩
      have hlA := hl3.below hb4
      have hbA := below_then hb03 hb4
      clear hF hl3 hb03 hb4
      have hF := hlA
      (repeat unfold Loc at hF)
      by_cases hF0 : F = 0
      rotate_left 1
      · have hv := HST.out hF0
        have HV := Lib.hid hv
        have dF : (F != 0) = true := by simp [hF0]
        clear hv hF0
        go_wp2_with fail
        go_ret
        exact ⟨by rw [HV.out]; rfl, hbA⟩
      subst hF0
      have hok := HOK0.out (by first | rfl | trivial) (by first | rfl | trivial) (by first | rfl | trivial) (by first | rfl | trivial)
      have HOK := Lib.hid hok
      clear hok
      go_wp2_with fail
      go_loopw [11, 124] (fun ov iv wr => ∃ k : Nat, k ≤ n2 ∧ iv = .int .i64 k ∧ ov = .bool (true && (ms.take k).all lowmark) ∧ Below wA.heap.size wA wr) (fun _ iv _ => n2 - (intOf iv).toNat)
      case atStart => exact ⟨0, Nat.zero_le _, rfl, by simp, Below.refl _ _⟩
      case round =>
        obtain ⟨k, hk, rfl, rfl, hb⟩ := hrel
        obtain ⟨B1, hB⟩ : ∃ B, B = (true && (ms.take k).all lowmark) := ⟨_, rfl⟩
        rw [← hB]
        have HB1 := Lib.hid hB
        clear hB
        have hbW : Below w.heap.size w wr := below_then hbA hb
        have hlW := hlA.below hb
        by_cases hlt : k < n2
        · obtain ⟨x, hx⟩ : ∃ x, ms[k]? = some x := ⟨_, List.getElem?_eq_getElem (by rw [HN2.out]; exact hlt)⟩
          obtain ⟨b, off, rfl, hbb, f0⟩ := mk_at (rd_grown r2 hbW) hx
          have d1 : decide ((k : Int) < (n2 : Int)) = true := by simp; omega
          have d1' : decide (k < n2) = true := by simp [hlt]
          have k1 : (0 : Int) ≤ (k : Int) := by omega
          have k2 : (k : Int) < (n2 : Int) := by omega
          have e1 : IntKind.i64.wrap ((k : Int) + 1) = (k : Int) + 1 := IntWalk.i64_in _ (by omega)
          have hnx : (true && (ms.take (k + 1)).all lowmark) = (B1 && lowmark x) := by rw [all_snoc27 lowmark hx, ← Bool.and_assoc, ← HB1.out]
          obtain ⟨D, hD⟩ : ∃ D, D = lowmark x := ⟨_, rfl⟩
          rw [← hD] at hnx
          have hcm := fun W => tismark_any x W
          rw [← hD] at hcm
          have HC := Lib.hid hcm; have HNX := Lib.hid hnx
          clear hx hcm hnx hD hlt
          cases B1 with
          | false =>
            clear hlW
            go_wp2_with fail
            go_roundw
            case rel => exact ⟨k + 1, by omega, by go_num, congrArg Value.bool HNX.out.symm, (by repeat (first | with_reducible exact Below.refl _ _ | with_reducible assumption | (with_reducible exact Env.below (by assumption)) | (with_reducible refine below_new ?_ _) | (with_reducible refine below_drew ?_) | (with_reducible refine below_drewN ?_ _) | (with_reducible refine below_put ?_ ?_ _; rotate_left 1; (dsimp only; omega)) | (with_reducible refine below_then ?_ (by assumption))))⟩
            case measure => simp [intOf] <;> omega
          | true =>
            cases D with
            | false =>
              clear hlW
              go_wp2_with fail
              go_at_call 110
              refine (HC.out _).mono ?_
              rintro r w2 ⟨rfl, hb2⟩
              go_wp2_with fail
              go_roundw
              case rel => exact ⟨k + 1, by omega, by go_num, congrArg Value.bool HNX.out.symm, (by repeat (first | with_reducible exact Below.refl _ _ | with_reducible assumption | (with_reducible exact Env.below (by assumption)) | (with_reducible refine below_new ?_ _) | (with_reducible refine below_drew ?_) | (with_reducible refine below_drewN ?_ _) | (with_reducible refine below_put ?_ ?_ _; rotate_left 1; (dsimp only; omega)) | (with_reducible refine below_then ?_ (by assumption))))⟩
              case measure => simp [intOf] <;> omega
            | true =>
              clear hlW
              go_wp2_with fail
              go_at_call 110
              refine (HC.out _).mono ?_
              rintro r w2 ⟨rfl, hb2⟩
              go_wp2_with fail
              go_roundw
              case rel => exact ⟨k + 1, by omega, by go_num, congrArg Value.bool HNX.out.symm, (by repeat (first | with_reducible exact Below.refl _ _ | with_reducible assumption | (with_reducible exact Env.below (by assumption)) | (with_reducible refine below_new ?_ _) | (with_reducible refine below_drew ?_) | (with_reducible refine below_drewN ?_ _) | (with_reducible refine below_put ?_ ?_ _; rotate_left 1; (dsimp only; omega)) | (with_reducible refine below_then ?_ (by assumption))))⟩
              case measure => simp [intOf] <;> omega
        · obtain rfl : n2 = k := by omega
          have d1 : decide ((n2 : Int) < (n2 : Int)) = false := by simp
          have d1' : decide (n2 < n2) = false := by simp
          have hC : B1 = (true && ms.all lowmark) := by have h := HB1.out; rwa [List.take_of_length_le (by rw [HN2.out]; exact Nat.le_refl _)] at h
          have HC1 := Lib.hid hC
          obtain ⟨wB1, rfl⟩ : ∃ wA, wA = wr := ⟨_, rfl⟩
          clear hC HB1 hlt hb hk
          have hbV1 := hbW; have hlV1 := hlW
          clear hbW hlW hlA
          have hF := hlV1
          (repeat unfold Loc at hF)
          go_wp2_with fail
          go_loopw [11, 137] (fun ov iv wr => ∃ k : Nat, k ≤ n4 ∧ iv = .int .i64 k ∧ ov = .bool (B1 && (es.take k).all evok) ∧ Below wB1.heap.size wB1 wr) (fun _ iv _ => n4 - (intOf iv).toNat)
          case atStart => exact ⟨0, Nat.zero_le _, rfl, by simp, Below.refl _ _⟩
          case round =>
            obtain ⟨k, hk, rfl, rfl, hb⟩ := hrel
            obtain ⟨B2, hB⟩ : ∃ B, B = (B1 && (es.take k).all evok) := ⟨_, rfl⟩
            rw [← hB]
            have HB2 := Lib.hid hB
            clear hB
            have hbW : Below w.heap.size w wr := below_then hbV1 hb
            have hlW := hlV1.below hb
            by_cases hlt : k < n4
            · obtain ⟨x, hx⟩ : ∃ x, es[k]? = some x := ⟨_, List.getElem?_eq_getElem (by rw [HN4.out]; exact hlt)⟩
              obtain ⟨b, off, rfl, hbb, f0, f1, f2, f3, f4⟩ := ev_cells (rd_grown r4 hbW) hx
              have d1 : decide ((k : Int) < (n4 : Int)) = true := by simp; omega
              have d1' : decide (k < n4) = true := by simp [hlt]
              have k1 : (0 : Int) ≤ (k : Int) := by omega
              have k2 : (k : Int) < (n4 : Int) := by omega
              have e1 : IntKind.i64.wrap ((k : Int) + 1) = (k : Int) + 1 := IntWalk.i64_in _ (by omega)
              have hnx : (B1 && (es.take (k + 1)).all evok) = (B2 && evok x) := by rw [all_snoc27 evok hx, ← Bool.and_assoc, ← HB2.out]
              obtain ⟨D, hD⟩ : ∃ D, D = evok x := ⟨_, rfl⟩
              rw [← hD] at hnx
              have hcm := fun W => mevent_any x.ism x.time x.k x.t x.v W
              rw [show (⟨x.ism, x.time, x.k, x.t, x.v⟩ : Ev) = x from rfl] at hcm
              rw [← hD] at hcm
              have HC := Lib.hid hcm; have HNX := Lib.hid hnx
              clear hx hcm hnx hD hlt
              cases B2 with
              | false =>
                clear hlW
                go_wp2_with fail
                go_roundw
                case rel => exact ⟨k + 1, by omega, by go_num, congrArg Value.bool HNX.out.symm, (by repeat (first | with_reducible exact Below.refl _ _ | with_reducible assumption | (with_reducible exact Env.below (by assumption)) | (with_reducible refine below_new ?_ _) | (with_reducible refine below_drew ?_) | (with_reducible refine below_drewN ?_ _) | (with_reducible refine below_put ?_ ?_ _; rotate_left 1; (dsimp only; omega)) | (with_reducible refine below_then ?_ (by assumption))))⟩
                case measure => simp [intOf] <;> omega
              | true =>
                cases D with
                | false =>
                  clear hlW
                  go_wp2_with fail
                  go_at_call 111
                  refine (HC.out _).mono ?_
                  rintro r w2 ⟨rfl, hb2⟩
                  go_wp2_with fail
                  go_roundw
                  case rel => exact ⟨k + 1, by omega, by go_num, congrArg Value.bool HNX.out.symm, (by repeat (first | with_reducible exact Below.refl _ _ | with_reducible assumption | (with_reducible exact Env.below (by assumption)) | (with_reducible refine below_new ?_ _) | (with_reducible refine below_drew ?_) | (with_reducible refine below_drewN ?_ _) | (with_reducible refine below_put ?_ ?_ _; rotate_left 1; (dsimp only; omega)) | (with_reducible refine below_then ?_ (by assumption))))⟩
                  case measure => simp [intOf] <;> omega
                | true =>
                  clear hlW
                  go_wp2_with fail
                  go_at_call 111
                  refine (HC.out _).mono ?_
                  rintro r w2 ⟨rfl, hb2⟩
                  go_wp2_with fail
                  go_roundw
                  case rel => exact ⟨k + 1, by omega, by go_num, congrArg Value.bool HNX.out.symm, (by repeat (first | with_reducible exact Below.refl _ _ | with_reducible assumption | (with_reducible exact Env.below (by assumption)) | (with_reducible refine below_new ?_ _) | (with_reducible refine below_drew ?_) | (with_reducible refine below_drewN ?_ _) | (with_reducible refine below_put ?_ ?_ _; rotate_left 1; (dsimp only; omega)) | (with_reducible refine below_then ?_ (by assumption))))⟩
                  case measure => simp [intOf] <;> omega
            · obtain rfl : n4 = k := by omega
              have d1 : decide ((n4 : Int) < (n4 : Int)) = false := by simp
              have d1' : decide (n4 < n4) = false := by simp
              have hC : B2 = (B1 && es.all evok) := by have h := HB2.out; rwa [List.take_of_length_le (by rw [HN4.out]; exact Nat.le_refl _)] at h
              have HC2 := Lib.hid hC
              obtain ⟨wB2, rfl⟩ : ∃ wA, wA = wr := ⟨_, rfl⟩
              clear hC HB2 hlt hb hk
              have hbV2 := hbW; have hlV2 := hlW
              clear hbW hlW hlV1
              have hF := hlV2
              (repeat unfold Loc at hF)
              go_wp2_with fail
              go_loopw [11, 151] (fun ov iv wr => ∃ k : Nat, k ≤ n5 ∧ iv = .int .i64 k ∧ ov = .bool (B2 && (rs.take k).all (fun x => isrow x.s x.e)) ∧ Below wB2.heap.size wB2 wr) (fun _ iv _ => n5 - (intOf iv).toNat)
              case atStart => exact ⟨0, Nat.zero_le _, rfl, by simp, Below.refl _ _⟩
              case round =>
                obtain ⟨k, hk, rfl, rfl, hb⟩ := hrel
                obtain ⟨B3, hB⟩ : ∃ B, B = (B2 && (rs.take k).all (fun x => isrow x.s x.e)) := ⟨_, rfl⟩
                rw [← hB]
                have HB3 := Lib.hid hB
                clear hB
                have hbW : Below w.heap.size w wr := below_then hbV2 hb
                have hlW := hlV2.below hb
                by_cases hlt : k < n5
                · obtain ⟨x, hx⟩ : ∃ x, rs[k]? = some x := ⟨_, List.getElem?_eq_getElem (by rw [HN5.out]; exact hlt)⟩
                  obtain ⟨b, off, rfl, hbb, f0, f1, f2, f3, f4⟩ := rw_cells (rd_grown r5 hbW) hx
                  have d1 : decide ((k : Int) < (n5 : Int)) = true := by simp; omega
                  have d1' : decide (k < n5) = true := by simp [hlt]
                  have k1 : (0 : Int) ≤ (k : Int) := by omega
                  have k2 : (k : Int) < (n5 : Int) := by omega
                  have e1 : IntKind.i64.wrap ((k : Int) + 1) = (k : Int) + 1 := IntWalk.i64_in _ (by omega)
                  have hnx : (B2 && (rs.take (k + 1)).all (fun x => isrow x.s x.e)) = (B3 && (fun x => isrow x.s x.e) x) := by rw [all_snoc27 (fun x => isrow x.s x.e) hx, ← Bool.and_assoc, ← HB3.out]
                  obtain ⟨D, hD⟩ : ∃ D, D = (fun x => isrow x.s x.e) x := ⟨_, rfl⟩
                  rw [← hD] at hnx
                  have hcm := fun W => mcheck_any 3 0 0 0 0 x.k x.s x.e x.a x.b W
                  rw [show msok (⟨3, 0, 0, 0, 0, x.k, x.s, x.e, x.a, x.b⟩ : Ms) = (fun x => isrow x.s x.e) x by simp [msok]] at hcm
                  rw [← hD] at hcm
                  have HC := Lib.hid hcm; have HNX := Lib.hid hnx
                  clear hx hcm hnx hD hlt
                  cases B3 with
                  | false =>
                    clear hlW
                    go_wp2_with fail
                    go_roundw
                    case rel => exact ⟨k + 1, by omega, by go_num, congrArg Value.bool HNX.out.symm, (by repeat (first | with_reducible exact Below.refl _ _ | with_reducible assumption | (with_reducible exact Env.below (by assumption)) | (with_reducible refine below_new ?_ _) | (with_reducible refine below_drew ?_) | (with_reducible refine below_drewN ?_ _) | (with_reducible refine below_put ?_ ?_ _; rotate_left 1; (dsimp only; omega)) | (with_reducible refine below_then ?_ (by assumption))))⟩
                    case measure => simp [intOf] <;> omega
                  | true =>
                    cases D with
                    | false =>
                      clear hlW
                      go_wp2_with fail
                      go_at_call 80
                      refine (HC.out _).mono ?_
                      rintro r w2 ⟨rfl, hb2⟩
                      go_wp2_with fail
                      go_roundw
                      case rel => exact ⟨k + 1, by omega, by go_num, congrArg Value.bool HNX.out.symm, (by repeat (first | with_reducible exact Below.refl _ _ | with_reducible assumption | (with_reducible exact Env.below (by assumption)) | (with_reducible refine below_new ?_ _) | (with_reducible refine below_drew ?_) | (with_reducible refine below_drewN ?_ _) | (with_reducible refine below_put ?_ ?_ _; rotate_left 1; (dsimp only; omega)) | (with_reducible refine below_then ?_ (by assumption))))⟩
                      case measure => simp [intOf] <;> omega
                    | true =>
                      clear hlW
                      go_wp2_with fail
                      go_at_call 80
                      refine (HC.out _).mono ?_
                      rintro r w2 ⟨rfl, hb2⟩
                      go_wp2_with fail
                      go_roundw
                      case rel => exact ⟨k + 1, by omega, by go_num, congrArg Value.bool HNX.out.symm, (by repeat (first | with_reducible exact Below.refl _ _ | with_reducible assumption | (with_reducible exact Env.below (by assumption)) | (with_reducible refine below_new ?_ _) | (with_reducible refine below_drew ?_) | (with_reducible refine below_drewN ?_ _) | (with_reducible refine below_put ?_ ?_ _; rotate_left 1; (dsimp only; omega)) | (with_reducible refine below_then ?_ (by assumption))))⟩
                      case measure => simp [intOf] <;> omega
                · obtain rfl : n5 = k := by omega
                  have d1 : decide ((n5 : Int) < (n5 : Int)) = false := by simp
                  have d1' : decide (n5 < n5) = false := by simp
                  have hC : B3 = (B2 && rs.all (fun x => isrow x.s x.e)) := by have h := HB3.out; rwa [List.take_of_length_le (by rw [HN5.out]; exact Nat.le_refl _)] at h
                  have HC3 := Lib.hid hC
                  obtain ⟨wB3, rfl⟩ : ∃ wA, wA = wr := ⟨_, rfl⟩
                  clear hC HB3 hlt hb hk
                  have hbV3 := hbW; have hlV3 := hlW
                  clear hbW hlW hlV2
                  have hF := hlV3
                  (repeat unfold Loc at hF)
                  go_wp2_with fail
                  go_loopw [11, 166] (fun ov iv wr => ∃ k : Nat, k ≤ n6 ∧ iv = .int .i64 k ∧ ov = .bool (B3 && (ls.take k).all (fun x => istime x.t)) ∧ Below wB3.heap.size wB3 wr) (fun _ iv _ => n6 - (intOf iv).toNat)
                  case atStart => exact ⟨0, Nat.zero_le _, rfl, by simp, Below.refl _ _⟩
                  case round =>
                    obtain ⟨k, hk, rfl, rfl, hb⟩ := hrel
                    obtain ⟨B4, hB⟩ : ∃ B, B = (B3 && (ls.take k).all (fun x => istime x.t)) := ⟨_, rfl⟩
                    rw [← hB]
                    have HB4 := Lib.hid hB
                    clear hB
                    have hbW : Below w.heap.size w wr := below_then hbV3 hb
                    have hlW := hlV3.below hb
                    by_cases hlt : k < n6
                    · obtain ⟨x, hx⟩ : ∃ x, ls[k]? = some x := ⟨_, List.getElem?_eq_getElem (by rw [HN6.out]; exact hlt)⟩
                      obtain ⟨b, off, rfl, hbb, f0, f1, f2⟩ := rc_cells (rd_grown r6 hbW) hx
                      have d1 : decide ((k : Int) < (n6 : Int)) = true := by simp; omega
                      have d1' : decide (k < n6) = true := by simp [hlt]
                      have k1 : (0 : Int) ≤ (k : Int) := by omega
                      have k2 : (k : Int) < (n6 : Int) := by omega
                      have e1 : IntKind.i64.wrap ((k : Int) + 1) = (k : Int) + 1 := IntWalk.i64_in _ (by omega)
                      have hnx : (B3 && (ls.take (k + 1)).all (fun x => istime x.t)) = (B4 && (fun x => istime x.t) x) := by rw [all_snoc27 (fun x => istime x.t) hx, ← Bool.and_assoc, ← HB4.out]
                      obtain ⟨D, hD⟩ : ∃ D, D = (fun x => istime x.t) x := ⟨_, rfl⟩
                      rw [← hD] at hnx
                      have hcm := fun W => mcheck_any 4 x.k x.t x.v 0 0 0 0 0 0 W
                      rw [show msok (⟨4, x.k, x.t, x.v, 0, 0, 0, 0, 0, 0⟩ : Ms) = (fun x => istime x.t) x by simp [msok]] at hcm
                      rw [← hD] at hcm
                      have HC := Lib.hid hcm; have HNX := Lib.hid hnx
                      clear hx hcm hnx hD hlt
                      cases B4 with
                      | false =>
                        clear hlW
                        go_wp2_with fail
                        go_roundw
                        case rel => exact ⟨k + 1, by omega, by go_num, congrArg Value.bool HNX.out.symm, (by repeat (first | with_reducible exact Below.refl _ _ | with_reducible assumption | (with_reducible exact Env.below (by assumption)) | (with_reducible refine below_new ?_ _) | (with_reducible refine below_drew ?_) | (with_reducible refine below_drewN ?_ _) | (with_reducible refine below_put ?_ ?_ _; rotate_left 1; (dsimp only; omega)) | (with_reducible refine below_then ?_ (by assumption))))⟩
                        case measure => simp [intOf] <;> omega
                      | true =>
                        cases D with
                        | false =>
                          clear hlW
                          go_wp2_with fail
                          go_at_call 80
                          refine (HC.out _).mono ?_
                          rintro r w2 ⟨rfl, hb2⟩
                          go_wp2_with fail
                          go_roundw
                          case rel => exact ⟨k + 1, by omega, by go_num, congrArg Value.bool HNX.out.symm, (by repeat (first | with_reducible exact Below.refl _ _ | with_reducible assumption | (with_reducible exact Env.below (by assumption)) | (with_reducible refine below_new ?_ _) | (with_reducible refine below_drew ?_) | (with_reducible refine below_drewN ?_ _) | (with_reducible refine below_put ?_ ?_ _; rotate_left 1; (dsimp only; omega)) | (with_reducible refine below_then ?_ (by assumption))))⟩
                          case measure => simp [intOf] <;> omega
                        | true =>
                          clear hlW
                          go_wp2_with fail
                          go_at_call 80
                          refine (HC.out _).mono ?_
                          rintro r w2 ⟨rfl, hb2⟩
                          go_wp2_with fail
                          go_roundw
                          case rel => exact ⟨k + 1, by omega, by go_num, congrArg Value.bool HNX.out.symm, (by repeat (first | with_reducible exact Below.refl _ _ | with_reducible assumption | (with_reducible exact Env.below (by assumption)) | (with_reducible refine below_new ?_ _) | (with_reducible refine below_drew ?_) | (with_reducible refine below_drewN ?_ _) | (with_reducible refine below_put ?_ ?_ _; rotate_left 1; (dsimp only; omega)) | (with_reducible refine below_then ?_ (by assumption))))⟩
                          case measure => simp [intOf] <;> omega
                    · obtain rfl : n6 = k := by omega
                      have d1 : decide ((n6 : Int) < (n6 : Int)) = false := by simp
                      have d1' : decide (n6 < n6) = false := by simp
                      have hC : B4 = (B3 && ls.all (fun x => istime x.t)) := by have h := HB4.out; rwa [List.take_of_length_le (by rw [HN6.out]; exact Nat.le_refl _)] at h
                      have HC4 := Lib.hid hC
                      obtain ⟨wB4, rfl⟩ : ∃ wA, wA = wr := ⟨_, rfl⟩
                      clear hC HB4 hlt hb hk
                      have hbV4 := hbW; have hlV4 := hlW
                      clear hbW hlW hlV3
                      have hF := hlV4
                      (repeat unfold Loc at hF)
                      go_wp2_with fail
                      go_loopw [11, 181] (fun ov iv wr => ∃ k : Nat, k ≤ n3 ∧ iv = .int .i64 k ∧ ov = .bool (B4 && (st.take k).all (fun x => !decide (kd = 4) || decide (x.c2 = 0))) ∧ Below wB4.heap.size wB4 wr) (fun _ iv _ => n3 - (intOf iv).toNat)
                      case atStart => exact ⟨0, Nat.zero_le _, rfl, by simp, Below.refl _ _⟩
                      case round =>
                        obtain ⟨k, hk, rfl, rfl, hb⟩ := hrel
                        obtain ⟨B5, hB⟩ : ∃ B, B = (B4 && (st.take k).all (fun x => !decide (kd = 4) || decide (x.c2 = 0))) := ⟨_, rfl⟩
                        rw [← hB]
                        have HB5 := Lib.hid hB
                        clear hB
                        have hbW : Below w.heap.size w wr := below_then hbV4 hb
                        have hlW := hlV4.below hb
                        by_cases hlt : k < n3
                        · obtain ⟨x, hx⟩ : ∃ x, st[k]? = some x := ⟨_, List.getElem?_eq_getElem (by rw [HN3.out]; exact hlt)⟩
                          obtain ⟨b, off, rfl, hbb, f0, f1, f2, f3, f4, f5, f6, f7, f8, f9, f10⟩ := en_cells (rd_grown r3 hbW) hx
                          have d1 : decide ((k : Int) < (n3 : Int)) = true := by simp; omega
                          have d1' : decide (k < n3) = true := by simp [hlt]
                          have k1 : (0 : Int) ≤ (k : Int) := by omega
                          have k2 : (k : Int) < (n3 : Int) := by omega
                          have e1 : IntKind.i64.wrap ((k : Int) + 1) = (k : Int) + 1 := IntWalk.i64_in _ (by omega)
                          have hnx : (B4 && (st.take (k + 1)).all (fun x => !decide (kd = 4) || decide (x.c2 = 0))) = (B5 && (fun x => !decide (kd = 4) || decide (x.c2 = 0)) x) := by rw [all_snoc27 (fun x => !decide (kd = 4) || decide (x.c2 = 0)) hx, ← Bool.and_assoc, ← HB5.out]
                          obtain ⟨D, hD⟩ : ∃ D, D = (fun x => !decide (kd = 4) || decide (x.c2 = 0)) x := ⟨_, rfl⟩
                          rw [← hD] at hnx
                          have HD := Lib.hid hD; have HNX := Lib.hid hnx
                          clear hx hnx hD hlt
                          cases B5 with
                          | false =>
                            clear hlW
                            go_wp2_with fail
                            go_roundw
                            case rel => exact ⟨k + 1, by omega, by go_num, congrArg Value.bool HNX.out.symm, (by repeat (first | with_reducible exact Below.refl _ _ | with_reducible assumption | (with_reducible exact Env.below (by assumption)) | (with_reducible refine below_new ?_ _) | (with_reducible refine below_drew ?_) | (with_reducible refine below_drewN ?_ _) | (with_reducible refine below_put ?_ ?_ _; rotate_left 1; (dsimp only; omega)) | (with_reducible refine below_then ?_ (by assumption))))⟩
                            case measure => simp [intOf] <;> omega
                          | true =>
                            have hF := hlW
                            (repeat unfold Loc at hF)
                            by_cases h4 : kd = 4
                            · have d4 : (kd != 4) = false := by simp [h4]
                              by_cases hc : x.c2 = 0
                              · have dc : (x.c2 == 0) = true := by simp [hc]
                                obtain rfl : D = true := by rw [HD.out]; simp [h4, hc]
                                clear hlW h4 hc
                                go_wp2_with fail
                                go_roundw
                                case rel => exact ⟨k + 1, by omega, by go_num, congrArg Value.bool HNX.out.symm, (by repeat (first | with_reducible exact Below.refl _ _ | with_reducible assumption | (with_reducible exact Env.below (by assumption)) | (with_reducible refine below_new ?_ _) | (with_reducible refine below_drew ?_) | (with_reducible refine below_drewN ?_ _) | (with_reducible refine below_put ?_ ?_ _; rotate_left 1; (dsimp only; omega)) | (with_reducible refine below_then ?_ (by assumption))))⟩
                                case measure => simp [intOf] <;> omega
                              · have dc : (x.c2 == 0) = false := by simp [hc]
                                obtain rfl : D = false := by rw [HD.out]; simp [h4, hc]
                                clear hlW h4 hc
                                go_wp2_with fail
                                go_roundw
                                case rel => exact ⟨k + 1, by omega, by go_num, congrArg Value.bool HNX.out.symm, (by repeat (first | with_reducible exact Below.refl _ _ | with_reducible assumption | (with_reducible exact Env.below (by assumption)) | (with_reducible refine below_new ?_ _) | (with_reducible refine below_drew ?_) | (with_reducible refine below_drewN ?_ _) | (with_reducible refine below_put ?_ ?_ _; rotate_left 1; (dsimp only; omega)) | (with_reducible refine below_then ?_ (by assumption))))⟩
                                case measure => simp [intOf] <;> omega
                            · have d4 : (kd != 4) = true := by simp [h4]
                              obtain rfl : D = true := by rw [HD.out]; simp [h4]
                              clear hlW h4
                              go_wp2_with fail
                              go_roundw
                              case rel => exact ⟨k + 1, by omega, by go_num, congrArg Value.bool HNX.out.symm, (by repeat (first | with_reducible exact Below.refl _ _ | with_reducible assumption | (with_reducible exact Env.below (by assumption)) | (with_reducible refine below_new ?_ _) | (with_reducible refine below_drew ?_) | (with_reducible refine below_drewN ?_ _) | (with_reducible refine below_put ?_ ?_ _; rotate_left 1; (dsimp only; omega)) | (with_reducible refine below_then ?_ (by assumption))))⟩
                              case measure => simp [intOf] <;> omega
                        · obtain rfl : n3 = k := by omega
                          have d1 : decide ((n3 : Int) < (n3 : Int)) = false := by simp
                          have d1' : decide (n3 < n3) = false := by simp
                          have hC : B5 = (B4 && st.all (fun x => !decide (kd = 4) || decide (x.c2 = 0))) := by have h := HB5.out; rwa [List.take_of_length_le (by rw [HN3.out]; exact Nat.le_refl _)] at h
                          have HC5 := Lib.hid hC
                          obtain ⟨wB5, rfl⟩ : ∃ wA, wA = wr := ⟨_, rfl⟩
                          clear hC HB5 hlt hb hk
                          have hbV5 := hbW; have hlV5 := hlW
                          clear hbW hlW hlV4
                          have hF := hlV5
                          (repeat unfold Loc at hF)
                          have hR : B5 = tkok ⟨kd, n, turn, ps, ms, st, es, rs, ls⟩ := by rw [HOK.out, HC5.out, HC4.out, HC3.out, HC2.out, HC1.out]
                          have HR := Lib.hid hR
                          clear hR
                          cases B5 with
                          | false =>
                            go_wp2_with fail
                            go_ret
                            exact ⟨by rw [← HR.out]; rfl, (by repeat (first | with_reducible exact Below.refl _ _ | with_reducible assumption | (with_reducible exact Env.below (by assumption)) | (with_reducible refine below_new ?_ _) | (with_reducible refine below_drew ?_) | (with_reducible refine below_drewN ?_ _) | (with_reducible refine below_put ?_ ?_ _; rotate_left 1; (dsimp only; omega)) | (with_reducible refine below_then ?_ (by assumption))))⟩
                          | true =>
                            go_wp2_with fail
                            go_ret
                            exact ⟨by rw [← HR.out]; rfl, (by repeat (first | with_reducible exact Below.refl _ _ | with_reducible assumption | (with_reducible exact Env.below (by assumption)) | (with_reducible refine below_new ?_ _) | (with_reducible refine below_drew ?_) | (with_reducible refine below_drewN ?_ _) | (with_reducible refine below_put ?_ ?_ _; rotate_left 1; (dsimp only; omega)) | (with_reducible refine below_then ?_ (by assumption))))⟩
end Go.Proofs.Ytffehibdeogjeaa
