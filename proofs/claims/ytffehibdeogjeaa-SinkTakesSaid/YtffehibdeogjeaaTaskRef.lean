/- ref27.kept, ref27.lists (chapter 27), printed by wip/gen_taskref.py. Condition: lists of at most 2^40. -/
import Derived.Test.YtffehibdeogjeaaTaskCheck
import Derived.Test.YtffehibdeogjeaaStoreRCheck
namespace Go.Proofs.Ytffehibdeogjeaa
open Go.RowKit

def keptN (kd : Int) (n2 n3 n4 n5 n6 : Nat) : Bool :=
  if kd = 1 then decide (n2 = 0 ∧ n3 = 0 ∧ n4 ≤ 60 ∧ n5 = 0 ∧ n6 = 0)
  else if kd = 2 then decide (n2 = 1 ∧ n3 = 0 ∧ n4 = 0 ∧ n5 = 0 ∧ n6 = 0)
  else if kd = 3 then decide (n2 = 0 ∧ n3 = 0 ∧ n4 = 0 ∧ n5 = 0 ∧ n6 = 0)
  else if kd = 4 then decide (1 ≤ n2 ∧ n2 ≤ 4 ∧ n4 = 0 ∧ n5 = 0 ∧ n6 = 0)
  else if kd = 5 then decide (n2 = 2 ∧ n4 = 0 ∧ n5 = 0 ∧ n6 = 0)
  else if kd = 6 then decide (n2 = 0 ∧ n3 = 0 ∧ n4 = 0 ∧ n5 ≤ 4000 ∧ n6 = 0)
  else if kd = 7 then decide (n2 = 0 ∧ n3 = 0 ∧ n4 = 0 ∧ n5 = 0 ∧ n6 ≤ 4000)
  else false
theorem keptN_4 (n2 n3 n4 n5 n6 : Nat) : keptN 4 n2 n3 n4 n5 n6 = decide (1 ≤ n2 ∧ n2 ≤ 4 ∧ n4 = 0 ∧ n5 = 0 ∧ n6 = 0) := rfl
theorem kept_n (t : Tk) : kept t = keptN t.kd t.ms.length t.st.length t.es.length t.rs.length t.ls.length := rfl
set_option maxHeartbeats 8000000 in
set_option maxRecDepth 100000 in
theorem rkept_any (kd n turn : Int) (P M S E R L : Option Addr) (cp cm cs ce cr cl n1 n2 n3 n4 n5 n6 : Nat) (w : World) (b2 : n2 ≤ 1099511627776) (b4 : n4 ≤ 1099511627776) (b5 : n5 ≤ 1099511627776) :
    Calls Try.prog 115 #[.agg #[.int .u8 kd, .int .i64 n, .int .i64 turn, .slice P n1 cp, .slice M n2 cm, .slice S n3 cs, .slice E n4 ce, .slice R n5 cr, .slice L n6 cl]] w fun e w' => e = .returned (.bool (keptN kd n2 n3 n4 n5 n6)) ∧ Below w.heap.size w w' := by
  by_cases h1 : kd = 1
  · subst h1
    go_enter Try.func115, Try.ntmps115
    go_upto_region 19 with (fail)
    go_wp2_with fail
    all_goals (go_ret; exact ⟨ret_bool (by simp [keptN] <;> (first | omega | grind)), (by repeat (first | with_reducible exact Below.refl _ _ | with_reducible assumption | (with_reducible exact Env.below (by assumption)) | (with_reducible refine below_new ?_ _) | (with_reducible refine below_drew ?_) | (with_reducible refine below_drewN ?_ _) | (with_reducible refine below_put ?_ ?_ _; rotate_left 1; (dsimp only; omega)) | (with_reducible refine below_then ?_ (by assumption))))⟩)
  by_cases h2 : kd = 2
  · subst h2
    go_enter Try.func115, Try.ntmps115
    go_upto_region 19 with (fail)
    go_wp2_with fail
    all_goals (go_ret; exact ⟨ret_bool (by simp [keptN] <;> (first | omega | grind)), (by repeat (first | with_reducible exact Below.refl _ _ | with_reducible assumption | (with_reducible exact Env.below (by assumption)) | (with_reducible refine below_new ?_ _) | (with_reducible refine below_drew ?_) | (with_reducible refine below_drewN ?_ _) | (with_reducible refine below_put ?_ ?_ _; rotate_left 1; (dsimp only; omega)) | (with_reducible refine below_then ?_ (by assumption))))⟩)
  by_cases h3 : kd = 3
  · subst h3
    go_enter Try.func115, Try.ntmps115
    go_upto_region 19 with (fail)
    go_wp2_with fail
    all_goals (go_ret; exact ⟨ret_bool (by simp [keptN] <;> (first | omega | grind)), (by repeat (first | with_reducible exact Below.refl _ _ | with_reducible assumption | (with_reducible exact Env.below (by assumption)) | (with_reducible refine below_new ?_ _) | (with_reducible refine below_drew ?_) | (with_reducible refine below_drewN ?_ _) | (with_reducible refine below_put ?_ ?_ _; rotate_left 1; (dsimp only; omega)) | (with_reducible refine below_then ?_ (by assumption))))⟩)
  by_cases h4 : kd = 4
  · subst h4
    obtain ⟨mx, hmx⟩ : ∃ m : Int, max 1 (n2 : Int) = m := ⟨_, rfl⟩
    obtain ⟨mm, hmm⟩ : ∃ m : Int, min 4 mx = m := ⟨_, rfl⟩
    obtain ⟨c0, hc0⟩ : ∃ c, decide (1 ≤ n2 ∧ n2 ≤ 4) = c := ⟨_, rfl⟩
    have hq : ((n2 : Int) == mm) = c0 := by rw [← hc0, Bool.eq_iff_iff]; simp only [beq_iff_eq, decide_eq_true_eq]; omega
    have hk4 : keptN 4 n2 n3 n4 n5 n6 = (c0 && decide (n4 = 0 ∧ n5 = 0 ∧ n6 = 0)) := by rw [keptN_4, ← hc0, Bool.eq_iff_iff]; simp only [Bool.and_eq_true, decide_eq_true_eq]; omega
    have HK4 := Lib.hid hk4
    clear hc0 hk4
    cases c0
    all_goals
      go_enter Try.func115, Try.ntmps115
      go_wp2_with fail
      all_goals (go_ret; exact ⟨ret_bool (by rw [HK4.out]; simp <;> (first | omega | grind)), (by repeat (first | with_reducible exact Below.refl _ _ | with_reducible assumption | (with_reducible exact Env.below (by assumption)) | (with_reducible refine below_new ?_ _) | (with_reducible refine below_drew ?_) | (with_reducible refine below_drewN ?_ _) | (with_reducible refine below_put ?_ ?_ _; rotate_left 1; (dsimp only; omega)) | (with_reducible refine below_then ?_ (by assumption))))⟩)
  by_cases h5 : kd = 5
  · subst h5
    go_enter Try.func115, Try.ntmps115
    go_upto_region 19 with (fail)
    go_wp2_with fail
    all_goals (go_ret; exact ⟨ret_bool (by simp [keptN] <;> (first | omega | grind)), (by repeat (first | with_reducible exact Below.refl _ _ | with_reducible assumption | (with_reducible exact Env.below (by assumption)) | (with_reducible refine below_new ?_ _) | (with_reducible refine below_drew ?_) | (with_reducible refine below_drewN ?_ _) | (with_reducible refine below_put ?_ ?_ _; rotate_left 1; (dsimp only; omega)) | (with_reducible refine below_then ?_ (by assumption))))⟩)
  by_cases h6 : kd = 6
  · subst h6
    go_enter Try.func115, Try.ntmps115
    go_upto_region 19 with (fail)
    go_wp2_with fail
    all_goals (go_ret; exact ⟨ret_bool (by simp [keptN] <;> (first | omega | grind)), (by repeat (first | with_reducible exact Below.refl _ _ | with_reducible assumption | (with_reducible exact Env.below (by assumption)) | (with_reducible refine below_new ?_ _) | (with_reducible refine below_drew ?_) | (with_reducible refine below_drewN ?_ _) | (with_reducible refine below_put ?_ ?_ _; rotate_left 1; (dsimp only; omega)) | (with_reducible refine below_then ?_ (by assumption))))⟩)
  by_cases h7 : kd = 7
  · subst h7
    go_enter Try.func115, Try.ntmps115
    go_upto_region 19 with (fail)
    go_wp2_with fail
    all_goals (go_ret; exact ⟨ret_bool (by simp [keptN] <;> (first | omega | grind)), (by repeat (first | with_reducible exact Below.refl _ _ | with_reducible assumption | (with_reducible exact Env.below (by assumption)) | (with_reducible refine below_new ?_ _) | (with_reducible refine below_drew ?_) | (with_reducible refine below_drewN ?_ _) | (with_reducible refine below_put ?_ ?_ _; rotate_left 1; (dsimp only; omega)) | (with_reducible refine below_then ?_ (by assumption))))⟩)
  have e : keptN kd n2 n3 n4 n5 n6 = false := by unfold keptN; simp [h1, h2, h3, h4, h5, h6, h7]
  rw [e]
  have d1 : (kd == 1) = false := by simp [h1]
  have d2 : (kd == 2) = false := by simp [h2]
  have d3 : (kd == 3) = false := by simp [h3]
  have d4 : (kd == 4) = false := by simp [h4]
  have d5 : (kd == 5) = false := by simp [h5]
  have d6 : (kd == 6) = false := by simp [h6]
  have d7 : (kd == 7) = false := by simp [h7]
  clear h1 h2 h3 h4 h5 h6 h7 e
  go_enter Try.func115, Try.ntmps115
  go_wp2_with fail
  go_ret
  exact ⟨rfl, (by repeat (first | with_reducible exact Below.refl _ _ | with_reducible assumption | (with_reducible exact Env.below (by assumption)) | (with_reducible refine below_new ?_ _) | (with_reducible refine below_drew ?_) | (with_reducible refine below_drewN ?_ _) | (with_reducible refine below_put ?_ ?_ _; rotate_left 1; (dsimp only; omega)) | (with_reducible refine below_then ?_ (by assumption))))⟩
set_option maxHeartbeats 16000000 in
set_option maxRecDepth 100000 in
theorem rlists_any (kd n turn : Int)  (ms : List Int)  (es : List Ev) (rs : List Rw) (ls : List Rc) (P M S E R L : Option Addr) (cp cm cs ce cr cl n1 n2 n3 n4 n5 n6 : Nat) (w : World)
    (h2 : ms.length = n2) (h4 : es.length = n4) (h5 : rs.length = n5) (h6 : ls.length = n6)
    (b2 : n2 ≤ 1099511627776) (b4 : n4 ≤ 1099511627776) (b5 : n5 ≤ 1099511627776) (b6 : n6 ≤ 1099511627776)
    (r2 : Rd ienc 1 w w.heap.size M ms) (r4 : Rd evenc 5 w w.heap.size E es) (r5 : Rd wenc 5 w w.heap.size R rs) (r6 : Rd renc 3 w w.heap.size L ls) :
    Calls Try.prog 117 #[.agg #[.int .u8 kd, .int .i64 n, .int .i64 turn, .slice P n1 cp, .slice M n2 cm, .slice S n3 cs, .slice E n4 ce, .slice R n5 cr, .slice L n6 cl]] w fun e w' => e = .returned (.bool (((ms.all lowmark && es.all evok) && rs.all (fun x => isrow x.s x.e)) && ls.all (fun x => istime x.t))) ∧ Below w.heap.size w w' := by
  obtain ⟨V, hV⟩ : ∃ V, V = (((ms.all lowmark && es.all evok) && rs.all (fun x => isrow x.s x.e)) && ls.all (fun x => istime x.t)) := ⟨_, rfl⟩
  rw [← hV]
  have hl0 : Loc (w.alloc (.cells #[.int .u8 kd, .int .i64 n, .int .i64 turn, .slice P n1 cp, .slice M n2 cm, .slice S n3 cs, .slice E n4 ce, .slice R n5 cr, .slice L n6 cl] 67)) [(w.heap.size, [.int .u8 kd, .int .i64 n, .int .i64 turn, .slice P n1 cp, .slice M n2 cm, .slice S n3 cs, .slice E n4 ce, .slice R n5 cr, .slice L n6 cl])] := (Loc.nil w).new [.int .u8 kd, .int .i64 n, .int .i64 turn, .slice P n1 cp, .slice M n2 cm, .slice S n3 cs, .slice E n4 ce, .slice R n5 cr, .slice L n6 cl] 67
  have hb0 : Below w.heap.size w (w.alloc (.cells #[.int .u8 kd, .int .i64 n, .int .i64 turn, .slice P n1 cp, .slice M n2 cm, .slice S n3 cs, .slice E n4 ce, .slice R n5 cr, .slice L n6 cl] 67)) := below_new (Below.refl _ _) _
  have HV := Lib.hid hV; have HN2 := Lib.hid h2; have HN4 := Lib.hid h4; have HN5 := Lib.hid h5; have HN6 := Lib.hid h6
  clear hV h2 h4 h5 h6
  go_enter Try.func117, Try.ntmps117
  go_upto_region 1 with (fail)
  obtain ⟨W1, hW1⟩ : ∃ W1, W1 = w.alloc (.cells #[.int .u8 kd, .int .i64 n, .int .i64 turn, .slice P n1 cp, .slice M n2 cm, .slice S n3 cs, .slice E n4 ce, .slice R n5 cr, .slice L n6 cl] 67) := ⟨_, rfl⟩
  rw [← hW1] at hl0 hb0 ⊢
  clear hW1
  have hF := hl0
  (repeat unfold Loc at hF)
  go_wp2_with fail
  go_loopw [3] (fun iv wr => ∃ k : Nat, k ≤ n2 ∧ iv = .int .i64 k ∧ (ms.take k).all lowmark = true ∧ Below W1.heap.size W1 wr) (fun iv _ => n2 - (intOf iv).toNat)
  case atStart => exact ⟨0, Nat.zero_le _, rfl, by simp, Below.refl _ _⟩
  case round =>
    obtain ⟨k, hk, rfl, hall, hb⟩ := hrel
    have HA := Lib.hid hall
    clear hall hF
    have hbW : Below w.heap.size w wr := below_then hb0 hb
    have hlW := hl0.below hb
    by_cases hlt : k < n2
    · obtain ⟨x, hx⟩ : ∃ x, ms[k]? = some x := ⟨_, List.getElem?_eq_getElem (by rw [HN2.out]; exact hlt)⟩
      obtain ⟨b, off, rfl, hbb, f0⟩ := mk_at (rd_grown r2 hbW) hx
      have d1 : decide ((k : Int) < (n2 : Int)) = true := by simp; omega
      have d1' : decide (k < n2) = true := by simp [hlt]
      have k1 : (0 : Int) ≤ (k : Int) := by omega
      have k2 : (k : Int) < (n2 : Int) := by omega
      have e1 : IntKind.i64.wrap ((k : Int) + 1) = (k : Int) + 1 := IntWalk.i64_in _ (by omega)
      obtain ⟨D, hD⟩ : ∃ D, D = lowmark x := ⟨_, rfl⟩
      have hcm := fun W => rleast_any x W
      rw [← hD] at hcm
      have HC := Lib.hid hcm; have HX := Lib.hid hx; have HD := Lib.hid hD
      have hF := hlW
      (repeat unfold Loc at hF)
      clear hx hcm hD hlt hlW
      cases D with
      | false =>
        have hv : V = false := by rw [HV.out, all_not27 (p := lowmark) HX.out HD.out.symm]; simp
        subst hv
        go_wp2_with fail
        go_at_call 137
        refine (HC.out _).mono ?_
        rintro r w2 ⟨rfl, rfl⟩
        go_wp2_with fail
        go_ret
        exact ⟨rfl, (by repeat (first | with_reducible exact Below.refl _ _ | with_reducible assumption | (with_reducible exact Env.below (by assumption)) | (with_reducible refine below_new ?_ _) | (with_reducible refine below_drew ?_) | (with_reducible refine below_drewN ?_ _) | (with_reducible refine below_put ?_ ?_ _; rotate_left 1; (dsimp only; omega)) | (with_reducible refine below_then ?_ (by assumption))))⟩
      | true =>
        have hnx : (ms.take (k + 1)).all lowmark = true := by rw [all_snoc27 lowmark HX.out, HA.out]; exact HD.out.symm
        have HNX := Lib.hid hnx
        clear hnx
        go_wp2_with fail
        go_at_call 137
        refine (HC.out _).mono ?_
        rintro r w2 ⟨rfl, rfl⟩
        go_wp2_with fail
        go_roundw
        case rel => exact ⟨k + 1, by omega, by go_num, HNX.out, (by repeat (first | with_reducible exact Below.refl _ _ | with_reducible assumption | (with_reducible exact Env.below (by assumption)) | (with_reducible refine below_new ?_ _) | (with_reducible refine below_drew ?_) | (with_reducible refine below_drewN ?_ _) | (with_reducible refine below_put ?_ ?_ _; rotate_left 1; (dsimp only; omega)) | (with_reducible refine below_then ?_ (by assumption))))⟩
        case measure => simp [intOf] <;> omega
    · obtain rfl : n2 = k := by omega
      have d1 : decide ((n2 : Int) < (n2 : Int)) = false := by simp
      have d1' : decide (n2 < n2) = false := by simp
      have hC : ms.all lowmark = true := by have h := HA.out; rwa [List.take_of_length_le (by rw [HN2.out]; exact Nat.le_refl _)] at h
      have HC1 := Lib.hid hC
      obtain ⟨wB1, rfl⟩ : ∃ wA, wA = wr := ⟨_, rfl⟩
      clear hC hlt hb hk HA
      have hbV1 := hbW; have hlV1 := hlW
      clear hbW hlW hl0
      have hF := hlV1
      (repeat unfold Loc at hF)
      go_wp2_with fail
      go_loopw [4] (fun iv wr => ∃ k : Nat, k ≤ n4 ∧ iv = .int .i64 k ∧ (es.take k).all evok = true ∧ Below wB1.heap.size wB1 wr) (fun iv _ => n4 - (intOf iv).toNat)
      case atStart => exact ⟨0, Nat.zero_le _, rfl, by simp, Below.refl _ _⟩
      case round =>
        obtain ⟨k, hk, rfl, hall, hb⟩ := hrel
        have HA := Lib.hid hall
        clear hall hF
        have hbW : Below w.heap.size w wr := below_then hbV1 hb
        have hlW := hlV1.below hb
        by_cases hlt : k < n4
        · obtain ⟨x, hx⟩ : ∃ x, es[k]? = some x := ⟨_, List.getElem?_eq_getElem (by rw [HN4.out]; exact hlt)⟩
          obtain ⟨b, off, rfl, hbb, f0, f1, f2, f3, f4⟩ := ev_cells (rd_grown r4 hbW) hx
          have d1 : decide ((k : Int) < (n4 : Int)) = true := by simp; omega
          have d1' : decide (k < n4) = true := by simp [hlt]
          have k1 : (0 : Int) ≤ (k : Int) := by omega
          have k2 : (k : Int) < (n4 : Int) := by omega
          have e1 : IntKind.i64.wrap ((k : Int) + 1) = (k : Int) + 1 := IntWalk.i64_in _ (by omega)
          obtain ⟨D, hD⟩ : ∃ D, D = evok x := ⟨_, rfl⟩
          have hcm := fun W => revent_any x.ism x.time x.k x.t x.v W
          rw [show (⟨x.ism, x.time, x.k, x.t, x.v⟩ : Ev) = x from rfl] at hcm
          rw [← hD] at hcm
          have HC := Lib.hid hcm; have HX := Lib.hid hx; have HD := Lib.hid hD
          have hF := hlW
          (repeat unfold Loc at hF)
          clear hx hcm hD hlt hlW
          cases D with
          | false =>
            have hv : V = false := by rw [HV.out, all_not27 (p := evok) HX.out HD.out.symm]; simp
            subst hv
            go_wp2_with fail
            go_at_call 138
            refine (HC.out _).mono ?_
            rintro r w2 ⟨rfl, hb2⟩
            go_wp2_with fail
            go_ret
            exact ⟨rfl, (by repeat (first | with_reducible exact Below.refl _ _ | with_reducible assumption | (with_reducible exact Env.below (by assumption)) | (with_reducible refine below_new ?_ _) | (with_reducible refine below_drew ?_) | (with_reducible refine below_drewN ?_ _) | (with_reducible refine below_put ?_ ?_ _; rotate_left 1; (dsimp only; omega)) | (with_reducible refine below_then ?_ (by assumption))))⟩
          | true =>
            have hnx : (es.take (k + 1)).all evok = true := by rw [all_snoc27 evok HX.out, HA.out]; exact HD.out.symm
            have HNX := Lib.hid hnx
            clear hnx
            go_wp2_with fail
            go_at_call 138
            refine (HC.out _).mono ?_
            rintro r w2 ⟨rfl, hb2⟩
            go_wp2_with fail
            go_roundw
            case rel => exact ⟨k + 1, by omega, by go_num, HNX.out, (by repeat (first | with_reducible exact Below.refl _ _ | with_reducible assumption | (with_reducible exact Env.below (by assumption)) | (with_reducible refine below_new ?_ _) | (with_reducible refine below_drew ?_) | (with_reducible refine below_drewN ?_ _) | (with_reducible refine below_put ?_ ?_ _; rotate_left 1; (dsimp only; omega)) | (with_reducible refine below_then ?_ (by assumption))))⟩
            case measure => simp [intOf] <;> omega
        · obtain rfl : n4 = k := by omega
          have d1 : decide ((n4 : Int) < (n4 : Int)) = false := by simp
          have d1' : decide (n4 < n4) = false := by simp
          have hC : es.all evok = true := by have h := HA.out; rwa [List.take_of_length_le (by rw [HN4.out]; exact Nat.le_refl _)] at h
          have HC2 := Lib.hid hC
          obtain ⟨wB2, rfl⟩ : ∃ wA, wA = wr := ⟨_, rfl⟩
          clear hC hlt hb hk HA
          have hbV2 := hbW; have hlV2 := hlW
          clear hbW hlW hlV1
          have hF := hlV2
          (repeat unfold Loc at hF)
          go_wp2_with fail
          go_loopw [5] (fun iv wr => ∃ k : Nat, k ≤ n5 ∧ iv = .int .i64 k ∧ (rs.take k).all (fun x => isrow x.s x.e) = true ∧ Below wB2.heap.size wB2 wr) (fun iv _ => n5 - (intOf iv).toNat)
          case atStart => exact ⟨0, Nat.zero_le _, rfl, by simp, Below.refl _ _⟩
          case round =>
            obtain ⟨k, hk, rfl, hall, hb⟩ := hrel
            have HA := Lib.hid hall
            clear hall hF
            have hbW : Below w.heap.size w wr := below_then hbV2 hb
            have hlW := hlV2.below hb
            by_cases hlt : k < n5
            · obtain ⟨x, hx⟩ : ∃ x, rs[k]? = some x := ⟨_, List.getElem?_eq_getElem (by rw [HN5.out]; exact hlt)⟩
              obtain ⟨b, off, rfl, hbb, f0, f1, f2, f3, f4⟩ := rw_cells (rd_grown r5 hbW) hx
              have d1 : decide ((k : Int) < (n5 : Int)) = true := by simp; omega
              have d1' : decide (k < n5) = true := by simp [hlt]
              have k1 : (0 : Int) ≤ (k : Int) := by omega
              have k2 : (k : Int) < (n5 : Int) := by omega
              have e1 : IntKind.i64.wrap ((k : Int) + 1) = (k : Int) + 1 := IntWalk.i64_in _ (by omega)
              obtain ⟨D, hD⟩ : ∃ D, D = isrow x.s x.e := ⟨_, rfl⟩
              have hcm := fun W => rrow25_any x.k x.s x.e x.a x.b W
              rw [← hD] at hcm
              have HC := Lib.hid hcm; have HX := Lib.hid hx; have HD := Lib.hid hD
              have hF := hlW
              (repeat unfold Loc at hF)
              clear hx hcm hD hlt hlW
              cases D with
              | false =>
                have hv : V = false := by rw [HV.out, all_not27 (p := (fun x => isrow x.s x.e)) HX.out HD.out.symm]; simp
                subst hv
                go_wp2_with fail
                go_at_call 104
                refine (HC.out _).mono ?_
                rintro r w2 ⟨rfl, hb2⟩
                go_wp2_with fail
                go_ret
                exact ⟨rfl, (by repeat (first | with_reducible exact Below.refl _ _ | with_reducible assumption | (with_reducible exact Env.below (by assumption)) | (with_reducible refine below_new ?_ _) | (with_reducible refine below_drew ?_) | (with_reducible refine below_drewN ?_ _) | (with_reducible refine below_put ?_ ?_ _; rotate_left 1; (dsimp only; omega)) | (with_reducible refine below_then ?_ (by assumption))))⟩
              | true =>
                have hnx : (rs.take (k + 1)).all (fun x => isrow x.s x.e) = true := by rw [all_snoc27 (fun x => isrow x.s x.e) HX.out, HA.out]; exact HD.out.symm
                have HNX := Lib.hid hnx
                clear hnx
                go_wp2_with fail
                go_at_call 104
                refine (HC.out _).mono ?_
                rintro r w2 ⟨rfl, hb2⟩
                go_wp2_with fail
                go_roundw
                case rel => exact ⟨k + 1, by omega, by go_num, HNX.out, (by repeat (first | with_reducible exact Below.refl _ _ | with_reducible assumption | (with_reducible exact Env.below (by assumption)) | (with_reducible refine below_new ?_ _) | (with_reducible refine below_drew ?_) | (with_reducible refine below_drewN ?_ _) | (with_reducible refine below_put ?_ ?_ _; rotate_left 1; (dsimp only; omega)) | (with_reducible refine below_then ?_ (by assumption))))⟩
                case measure => simp [intOf] <;> omega
            · obtain rfl : n5 = k := by omega
              have d1 : decide ((n5 : Int) < (n5 : Int)) = false := by simp
              have d1' : decide (n5 < n5) = false := by simp
              have hC : rs.all (fun x => isrow x.s x.e) = true := by have h := HA.out; rwa [List.take_of_length_le (by rw [HN5.out]; exact Nat.le_refl _)] at h
              have HC3 := Lib.hid hC
              obtain ⟨wB3, rfl⟩ : ∃ wA, wA = wr := ⟨_, rfl⟩
              clear hC hlt hb hk HA
              have hbV3 := hbW; have hlV3 := hlW
              clear hbW hlW hlV2
              have hF := hlV3
              (repeat unfold Loc at hF)
              go_wp2_with fail
              go_loopw [6] (fun iv wr => ∃ k : Nat, k ≤ n6 ∧ iv = .int .i64 k ∧ (ls.take k).all (fun x => istime x.t) = true ∧ Below wB3.heap.size wB3 wr) (fun iv _ => n6 - (intOf iv).toNat)
              case atStart => exact ⟨0, Nat.zero_le _, rfl, by simp, Below.refl _ _⟩
              case round =>
                obtain ⟨k, hk, rfl, hall, hb⟩ := hrel
                have HA := Lib.hid hall
                clear hall hF
                have hbW : Below w.heap.size w wr := below_then hbV3 hb
                have hlW := hlV3.below hb
                by_cases hlt : k < n6
                · obtain ⟨x, hx⟩ : ∃ x, ls[k]? = some x := ⟨_, List.getElem?_eq_getElem (by rw [HN6.out]; exact hlt)⟩
                  obtain ⟨b, off, rfl, hbb, f0, f1, f2⟩ := rc_cells (rd_grown r6 hbW) hx
                  have d1 : decide ((k : Int) < (n6 : Int)) = true := by simp; omega
                  have d1' : decide (k < n6) = true := by simp [hlt]
                  have k1 : (0 : Int) ≤ (k : Int) := by omega
                  have k2 : (k : Int) < (n6 : Int) := by omega
                  have e1 : IntKind.i64.wrap ((k : Int) + 1) = (k : Int) + 1 := IntWalk.i64_in _ (by omega)
                  obtain ⟨D, hD⟩ : ∃ D, D = istime x.t := ⟨_, rfl⟩
                  have hcm := fun W => rright25_any x.k x.t x.v W
                  rw [← hD] at hcm
                  have HC := Lib.hid hcm; have HX := Lib.hid hx; have HD := Lib.hid hD
                  have hF := hlW
                  (repeat unfold Loc at hF)
                  clear hx hcm hD hlt hlW
                  cases D with
                  | false =>
                    have hv : V = false := by rw [HV.out, all_not27 (p := (fun x => istime x.t)) HX.out HD.out.symm]; simp
                    subst hv
                    go_wp2_with fail
                    go_at_call 102
                    refine (HC.out _).mono ?_
                    rintro r w2 ⟨rfl, hb2⟩
                    go_wp2_with fail
                    go_ret
                    exact ⟨rfl, (by repeat (first | with_reducible exact Below.refl _ _ | with_reducible assumption | (with_reducible exact Env.below (by assumption)) | (with_reducible refine below_new ?_ _) | (with_reducible refine below_drew ?_) | (with_reducible refine below_drewN ?_ _) | (with_reducible refine below_put ?_ ?_ _; rotate_left 1; (dsimp only; omega)) | (with_reducible refine below_then ?_ (by assumption))))⟩
                  | true =>
                    have hnx : (ls.take (k + 1)).all (fun x => istime x.t) = true := by rw [all_snoc27 (fun x => istime x.t) HX.out, HA.out]; exact HD.out.symm
                    have HNX := Lib.hid hnx
                    clear hnx
                    go_wp2_with fail
                    go_at_call 102
                    refine (HC.out _).mono ?_
                    rintro r w2 ⟨rfl, hb2⟩
                    go_wp2_with fail
                    go_roundw
                    case rel => exact ⟨k + 1, by omega, by go_num, HNX.out, (by repeat (first | with_reducible exact Below.refl _ _ | with_reducible assumption | (with_reducible exact Env.below (by assumption)) | (with_reducible refine below_new ?_ _) | (with_reducible refine below_drew ?_) | (with_reducible refine below_drewN ?_ _) | (with_reducible refine below_put ?_ ?_ _; rotate_left 1; (dsimp only; omega)) | (with_reducible refine below_then ?_ (by assumption))))⟩
                    case measure => simp [intOf] <;> omega
                · obtain rfl : n6 = k := by omega
                  have d1 : decide ((n6 : Int) < (n6 : Int)) = false := by simp
                  have d1' : decide (n6 < n6) = false := by simp
                  have hC : ls.all (fun x => istime x.t) = true := by have h := HA.out; rwa [List.take_of_length_le (by rw [HN6.out]; exact Nat.le_refl _)] at h
                  have HC4 := Lib.hid hC
                  obtain ⟨wB4, rfl⟩ : ∃ wA, wA = wr := ⟨_, rfl⟩
                  clear hC hlt hb hk HA
                  have hbV4 := hbW; have hlV4 := hlW
                  clear hbW hlW hlV3
                  have hv : V = true := by rw [HV.out, HC1.out, HC2.out, HC3.out, HC4.out]; rfl
                  subst hv
                  have hF := hlV4
                  (repeat unfold Loc at hF)
                  go_wp2_with fail
                  go_ret
                  exact ⟨rfl, (by repeat (first | with_reducible exact Below.refl _ _ | with_reducible assumption | (with_reducible exact Env.below (by assumption)) | (with_reducible refine below_new ?_ _) | (with_reducible refine below_drew ?_) | (with_reducible refine below_drewN ?_ _) | (with_reducible refine below_put ?_ ?_ _; rotate_left 1; (dsimp only; omega)) | (with_reducible refine below_then ?_ (by assumption))))⟩
end Go.Proofs.Ytffehibdeogjeaa
