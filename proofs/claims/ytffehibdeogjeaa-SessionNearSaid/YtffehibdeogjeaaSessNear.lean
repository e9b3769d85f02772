/- The walk of SessionNear (chapter 15). No condition. -/
import Derived.Test.YtffehibdeogjeaaSessHelp
import Derived.Test.YtffehibdeogjeaaSessPlain2
namespace Go.Proofs.Ytffehibdeogjeaa
open Go.RowKit

/-- The next time behind t among those of a list, if there is one. -/
def NextOk (t : Int) (l : List Int) (b : Bool) (u : Int) : Prop := (b = true → u ∈ l ∧ t < u ∧ ∀ v ∈ l, t < v → u ≤ v) ∧ (b = false → ∀ v ∈ l, v ≤ t)
theorem next_nil (t u : Int) : NextOk t [] false u := ⟨(fun h => by cases h), (fun _ v hv => absurd hv (List.not_mem_nil))⟩
theorem mem_succ {ts : List Int} {k : Nat} {v : Int} (hv : ts[k]? = some v) (x : Int) : x ∈ ts.take (k + 1) ↔ x ∈ ts.take k ∨ x = v := by
  rw [List.take_add_one, hv]
  simp
theorem next_skip {t : Int} {ts : List Int} {k : Nat} {b : Bool} {u v : Int} (h : NextOk t (ts.take k) b u) (hv : ts[k]? = some v) (hs : v ≤ t ∨ (b = true ∧ u ≤ v)) : NextOk t (ts.take (k + 1)) b u := by
  refine ⟨fun hb => ?_, fun hb x hx => ?_⟩
  · obtain ⟨h1, h2, h3⟩ := h.1 hb
    refine ⟨(mem_succ hv u).2 (.inl h1), h2, fun x hx htx => ?_⟩
    rcases (mem_succ hv x).1 hx with hx | rfl
    · exact h3 x hx htx
    · omega
  · rcases (mem_succ hv x).1 hx with hx | rfl
    · exact h.2 hb x hx
    · rcases hs with hs | ⟨hs, _⟩
      · exact hs
      · rw [hb] at hs; cases hs
theorem next_take {t : Int} {ts : List Int} {k : Nat} {b : Bool} {u v : Int} (h : NextOk t (ts.take k) b u) (hv : ts[k]? = some v) (htv : t < v) (hs : b = true → v < u) : NextOk t (ts.take (k + 1)) true v := by
  refine ⟨fun _ => ⟨(mem_succ hv v).2 (.inr rfl), htv, fun x hx htx => ?_⟩, fun hb => by cases hb⟩
  rcases (mem_succ hv x).1 hx with hx | rfl
  · cases b with
    | false => have := h.2 rfl x hx; omega
    | true =>
      have h1 := (h.1 rfl).2.2 x hx htx
      have h2 := hs rfl
      omega
  · exact Int.le_refl _

set_option maxHeartbeats 8000000 in
set_option maxRecDepth 100000 in
theorem sessionNear_yes (w : World) (A : Option Addr) (c n : Nat) (ts : List Int) (hn : ts.length = n) (lr : Rd ienc 1 w w.heap.size A ts) (g : Int)
    (h60 : n ≤ 60) (hall : ∀ t ∈ ts, sck t g = 0) (h0 : sck 0 g = 0) :
    Calls Try.prog 14 #[.slice A n c, .int .i64 g] w fun r w' => r = .returned (.bool true) ∧ Below w.heap.size w w' := by
  have hg1 : 1 ≤ g := (sck_zero h0).1
  have hfe := fun W (h : Rd ienc 1 W W.heap.size A ts) => slfew_any A c n ts g W hn h
  rw [show sfewB ts g = true from decide_eq_true ⟨by omega, hall, h0⟩] at hfe
  have hof := fun W (h : Rd ienc 1 W W.heap.size A ts) => sof_any A c n ts g W hn h
  rw [sof_few h0 (by omega) hall] at hof
  obtain ⟨m, hm⟩ : ∃ m, (canon (stimes g ts)).length = m := ⟨_, rfl⟩
  have hnear : ∀ t u, t ∈ ts → NextOk t ts true u → ((canon (stimes g ts)).any (fun x => decide (x.1 ≤ t) && decide (u < x.2))) = decide (u - t < g) := by
    intro t u ht hu
    obtain ⟨h1, h2, h3⟩ := hu.1 rfl
    have h := times_near hg1 ht h1 h2 h3
    rw [Bool.eq_iff_iff, List.any_eq_true, decide_eq_true_eq, ← h]
    constructor
    · rintro ⟨x, hx, h⟩; exact ⟨x, hx, by simpa using h⟩
    · rintro ⟨x, hx, h⟩; exact ⟨x, hx, by simpa using h⟩
  have hbd : ∀ t ∈ ts, -1099511627776 ≤ t ∧ t ≤ 1099511627776 := fun t ht => by obtain ⟨-, -, h1, h2⟩ := sck_zero (hall t ht); exact ⟨h1, h2⟩
  have l0 : m ≤ n := by have := canon_len (stimes g ts); rw [stimes_len, hm] at this; omega
  obtain ⟨S, hS⟩ : ∃ S, S = canon (stimes g ts) := ⟨_, rfl⟩
  rw [← hS] at hof hm hnear
  have HFE := Lib.hid hfe; have HOF := Lib.hid hof; have HNEAR := Lib.hid hnear; have HBD := Lib.hid hbd
  have HN := Lib.hid hn; have HM := Lib.hid hm
  clear hfe hof hnear hn hm hall hS h0 hbd
  have hL : Loc w [] := trivial
  go_enter Try.func14, Try.ntmps14
  go_wp2_with fail
  go_at_call 57
  refine (salive_any _).mono ?_
  rintro r w1 ⟨rfl, hb1⟩
  go_wp2_with fail
  go_at_call 58
  refine (HFE.out _ (rd_grown lr (by repeat (first | with_reducible exact Below.refl _ _ | with_reducible assumption | (with_reducible exact Env.below (by assumption)) | (with_reducible refine below_new ?_ _) | (with_reducible refine below_drew ?_) | (with_reducible refine below_drewN ?_ _) | (with_reducible refine below_put ?_ ?_ _; rotate_left 1; (dsimp only; omega)) | (with_reducible refine below_then ?_ (by assumption)))))).mono ?_
  rintro r w2 ⟨rfl, hb2⟩
  go_wp2_with fail
  go_at_call 59
  refine (HOF.out _ (rd_grown lr (by repeat (first | with_reducible exact Below.refl _ _ | with_reducible assumption | (with_reducible exact Env.below (by assumption)) | (with_reducible refine below_new ?_ _) | (with_reducible refine below_drew ?_) | (with_reducible refine below_drewN ?_ _) | (with_reducible refine below_put ?_ ?_ _; rotate_left 1; (dsimp only; omega)) | (with_reducible refine below_then ?_ (by assumption)))))).mono ?_
  rintro r w4 ⟨v3, rfl, own3, hb3⟩
  obtain ⟨A3, e3, rfl, -, z3⟩ := own_shape_z own3 HM.out
  have hb04 : Below w.heap.size w w4 := (by repeat (first | with_reducible exact Below.refl _ _ | with_reducible assumption | (with_reducible exact Env.below (by assumption)) | (with_reducible refine below_new ?_ _) | (with_reducible refine below_drew ?_) | (with_reducible refine below_drewN ?_ _) | (with_reducible refine below_put ?_ ?_ _; rotate_left 1; (dsimp only; omega)) | (with_reducible refine below_then ?_ (by assumption))))
  have rdS := Own.rd senc_len own3
  have rdT := rd_grown lr hb04
  clear hb1 hb2 hb3 own3 z3 lr hL
  go_wp2_with fail
  go_loopw [8] (fun i wr => ∃ k : Nat, k ≤ n ∧ i = .int .i64 k ∧ ∃ q, wr = w4.drewN q) (fun i _ => n - (intOf i).toNat)
  case atStart => exact ⟨0, Nat.zero_le _, rfl, 0, rfl⟩
  case round =>
    obtain ⟨k, hk, rfl, q, rfl⟩ := hrel
    by_cases hlt : k < n
    · have dk : decide ((k : Int) < (n : Int)) = true := by simp; omega
      have dk' : decide (k < n) = true := by simp [hlt]
      obtain ⟨t, ht⟩ : ∃ t, ts[k]? = some t := ⟨_, List.getElem?_eq_getElem (by rw [HN.out]; omega)⟩
      obtain ⟨b, off, rfl, hbB, f1⟩ := int_at rdT ht
      have HT := Lib.hid (List.mem_of_getElem? ht)
      have hbt := HBD.out t HT.out
      clear ht
      have i1 : (0 : Int) ≤ (k : Int) := by omega
      have i2 : (k : Int) < (n : Int) := by omega
      have ek : IntKind.i64.wrap ((k : Int) + 1) = (k : Int) + 1 := IntWalk.i64_in _ (by omega)
      obtain ⟨wq, hwq⟩ : ∃ wq, wq = w4.drewN q := ⟨_, rfl⟩
      rw [← hwq]
      have rdS' : Rd senc 2 wq wq.heap.size A3 S := by rw [hwq]; exact rdS
      have rdT' : Rd ienc 1 wq wq.heap.size (some ⟨b, off, none⟩) ts := by rw [hwq]; exact rdT
      have f1' : wq.cell? ⟨b, off + k, none⟩ = some (.int .i64 t) := by rw [hwq]; exact f1
      have HWQ := Lib.hid hwq
      clear hwq f1
      go_wp2_with fail
      go_loopw [9, 10, 11] (fun nn is jj wr => ∃ (j : Nat) (u : Int) (bb : Bool), j ≤ n ∧ jj = .int .i64 j ∧ nn = .int .i64 u ∧ is = .bool bb ∧ NextOk t (ts.take j) bb u ∧ ∃ q, wr = wq.drewN q) (fun _ _ jj _ => n - (intOf jj).toNat)
      case atStart => exact ⟨0, 0, false, Nat.zero_le _, rfl, rfl, rfl, next_nil t 0, 0, rfl⟩
      case round =>
        obtain ⟨j, u, bb, hj, rfl, rfl, rfl, hnx, q', rfl⟩ := hrel
        by_cases hjn : j < n
        · have dj : decide ((j : Int) < (n : Int)) = true := by simp; omega
          have dj' : decide (j < n) = true := by simp [hjn]
          obtain ⟨v, hv⟩ : ∃ v, ts[j]? = some v := ⟨_, List.getElem?_eq_getElem (by rw [HN.out]; omega)⟩
          obtain ⟨b', off', e', hbS, g1⟩ := int_at rdT' hv
          simp only [Option.some.injEq, Addr.mk.injEq, and_true] at e'
          obtain ⟨rfl, rfl⟩ := e'
          have j1 : (0 : Int) ≤ (j : Int) := by omega
          have j2 : (j : Int) < (n : Int) := by omega
          have e1 : IntKind.i64.wrap ((j : Int) + 1) = (j : Int) + 1 := IntWalk.i64_in _ (by omega)
          by_cases hv1 : t < v
          · have da : decide (t < v) = true := decide_eq_true hv1
            cases bb with
            | false =>
              have HX := Lib.hid (next_take hnx hv hv1 (fun h => by cases h))
              clear hnx hv
              go_wp2_with fail
              go_quiet (fail)
              go_wp2
              go_roundw
              case rel => exact ⟨j + 1, _, _, by omega, by go_num, rfl, rfl, HX.out, _, rfl⟩
              case measure => simp [intOf]; omega
            | true =>
              by_cases hvu : v < u
              · have db : decide (v < u) = true := decide_eq_true hvu
                have HX := Lib.hid (next_take hnx hv hv1 (fun _ => hvu))
                clear hnx hv
                go_wp2_with fail
                go_quiet (fail)
                go_wp2
                go_roundw
                case rel => exact ⟨j + 1, _, _, by omega, by go_num, rfl, rfl, HX.out, _, rfl⟩
                case measure => simp [intOf]; omega
              · have db : decide (v < u) = false := decide_eq_false hvu
                have HX := Lib.hid (next_skip hnx hv (.inr ⟨rfl, by omega⟩))
                clear hnx hv
                go_wp2_with fail
                go_quiet (fail)
                go_wp2
                go_roundw
                case rel => exact ⟨j + 1, _, _, by omega, by go_num, rfl, rfl, HX.out, _, rfl⟩
                case measure => simp [intOf]; omega
          · have da : decide (t < v) = false := decide_eq_false hv1
            have HX := Lib.hid (next_skip hnx hv (.inl (by omega)))
            clear hnx hv
            go_wp2_with fail
            go_quiet (fail)
            go_wp2
            go_roundw
            case rel => exact ⟨j + 1, _, _, by omega, by go_num, rfl, rfl, HX.out, _, rfl⟩
            case measure => simp [intOf]; omega
        · obtain rfl : n = j := by omega
          have dj : decide ((n : Int) < (n : Int)) = false := by simp
          have dj' : decide (n < n) = false := by simp
          rw [List.take_of_length_le (by rw [HN.out]; exact Nat.le_refl _)] at hnx
          cases bb with
          | false =>
            have hq2 : ∃ q2, wq.drewN q' = w4.drewN q2 := ⟨q + q', by rw [HWQ.out]; exact World.drewN_drewN _ _ _⟩
            obtain ⟨q2, hq2⟩ := hq2
            rw [hq2]
            clear hq2 hnx
            go_wp2
            go_roundw
            case rel => exact ⟨k + 1, by omega, by go_num, _, rfl⟩
            case measure => simp [intOf]; omega
          | true =>
            have hnear := HNEAR.out t u HT.out hnx
            have hbu := HBD.out u (hnx.1 rfl).1
            obtain ⟨db, hdb⟩ : ∃ db, decide (u - t < g) = db := ⟨_, rfl⟩
            rw [hdb] at hnear
            have HNR := Lib.hid hnear
            have eu : IntKind.i64.wrap (u - t) = u - t := IntWalk.i64_in _ (by omega)
            obtain ⟨wp, hwp⟩ : ∃ wp, wp = wq.drewN q' := ⟨_, rfl⟩
            rw [← hwp]
            have rdS2 : Rd senc 2 wp wp.heap.size A3 S := by rw [hwp]; exact rdS'
            have f2 : wp.cell? ⟨b, off + k, none⟩ = some (.int .i64 t) := by rw [hwp]; exact f1'
            have HWP := Lib.hid hwp
            clear hnx hnear hwp f1'
            go_wp2_with fail
            go_loopw [12, 13] (fun tt jj wr => ∃ (j : Nat) (fb : Bool), j ≤ m ∧ jj = .int .i64 j ∧ tt = .bool fb ∧ ((S.take j).any fun x => decide (x.1 ≤ t) && decide (u < x.2)) = fb ∧ ∃ q, wr = wp.drewN q) (fun _ jj _ => m - (intOf jj).toNat)
            case atStart => exact ⟨0, false, Nat.zero_le _, rfl, rfl, rfl, 0, rfl⟩
            case round =>
              obtain ⟨j, fb, hjm', rfl, rfl, hfb, q2, rfl⟩ := hrel
              by_cases hjm : j < m
              · have djm : decide ((j : Int) < (m : Int)) = true := by simp; omega
                have djm' : decide (j < m) = true := by simp [hjm]
                obtain ⟨x, hx⟩ : ∃ x, S[j]? = some x := ⟨_, List.getElem?_eq_getElem (by rw [HM.out]; omega)⟩
                have hsn := any_snoc (fun x : Int × Int => decide (x.1 ≤ t) && decide (u < x.2)) hx
                rw [hfb] at hsn
                obtain ⟨b', off', rfl, hbS, c1, c2⟩ := span_cells rdS2 hx
                obtain ⟨x1, x2⟩ := x
                dsimp only at c1 c2 hsn
                have j1 : (0 : Int) ≤ (j : Int) := by omega
                have j2 : (j : Int) < (m : Int) := by omega
                have e1 : IntKind.i64.wrap ((j : Int) + 1) = (j : Int) + 1 := IntWalk.i64_in _ (by omega)
                obtain ⟨p1, hp1⟩ : ∃ b, decide (x1 ≤ t) = b := ⟨_, rfl⟩
                obtain ⟨p2, hp2⟩ : ∃ b, decide (u < x2) = b := ⟨_, rfl⟩
                rw [hp1, hp2] at hsn
                have HSN := Lib.hid hsn
                clear hx hsn hfb
                rcases fb with _ | _ <;> rcases p1 with _ | _
                all_goals
                  go_wp2_with fail
                  go_quiet (fail)
                  go_wp2
                  go_roundw
                  case rel => exact ⟨j + 1, _, by omega, by go_num, rfl, HSN.out, _, rfl⟩
                  case measure => simp [intOf]; omega
              · obtain rfl : m = j := by omega
                have djm : decide ((m : Int) < (m : Int)) = false := by simp
                have djm' : decide (m < m) = false := by simp
                rw [List.take_of_length_le (by rw [HM.out]; exact Nat.le_refl _), HNR.out] at hfb
                subst hfb
                have hq2 : ∃ q3, wp.drewN q2 = w4.drewN q3 := ⟨q + q' + q2, by rw [HWP.out, HWQ.out, World.drewN_drewN, World.drewN_drewN, Nat.add_assoc]⟩
                obtain ⟨q3, hq3⟩ := hq2
                have f3 : (w4.drewN q3).cell? ⟨b, off + k, none⟩ = some (.int .i64 t) := by rw [← hq3]; exact f2
                rw [hq3]
                clear hq3 f2
                rcases db with _ | _
                all_goals
                  go_wp2
                  go_roundw
                  case rel => exact ⟨k + 1, by omega, by go_num, _, rfl⟩
                  case measure => simp [intOf]; omega
    · obtain rfl : n = k := by omega
      have dk : decide ((n : Int) < (n : Int)) = false := by simp
      have dk' : decide (n < n) = false := by simp
      have hbq : Below w.heap.size w (w4.drewN q) := below_drewN hb04 _
      go_wp2
      go_ret
      exact ⟨rfl, hbq⟩

set_option maxHeartbeats 8000000 in
set_option maxRecDepth 100000 in
theorem sessionNear_walk {w : World} (A : Option Addr) (c : Nat) (ts : List Int) (_lc : ts.length ≤ c) (_lm : c ≤ maxLen) (_lw : ∀ x ∈ ts, i64ok x) (lr : Rd ienc 1 w w.heap.size A ts)
    (g : Int) (_wg : (Lit.int .i64 g).wf = true) :
    Calls Try.prog 14 #[.slice A ts.length c, .int .i64 g] w fun r w' => r = .returned (.bool true) ∧ Below w.heap.size w w' := by
  obtain ⟨n, hn⟩ : ∃ n, ts.length = n := ⟨_, rfl⟩
  rw [hn] at _lc ⊢
  by_cases hf : ts.length ≤ 60 ∧ (∀ t ∈ ts, sck t g = 0) ∧ sck 0 g = 0
  · exact sessionNear_yes w A c n ts hn lr g (by omega) hf.2.1 hf.2.2
  · have hfe := fun W (h : Rd ienc 1 W W.heap.size A ts) => slfew_any A c n ts g W hn h
    rw [show sfewB ts g = false from decide_eq_false hf] at hfe
    have HFE := Lib.hid hfe
    clear hfe hf hn
    go_enter Try.func14, Try.ntmps14
    go_wp2_with fail
    go_at_call 57
    refine (salive_any _).mono ?_
    rintro r w1 ⟨rfl, hb1⟩
    go_wp2_with fail
    go_at_call 58
    refine (HFE.out _ (rd_grown lr (by repeat (first | with_reducible exact Below.refl _ _ | with_reducible assumption | (with_reducible exact Env.below (by assumption)) | (with_reducible refine below_new ?_ _) | (with_reducible refine below_drew ?_) | (with_reducible refine below_drewN ?_ _) | (with_reducible refine below_put ?_ ?_ _; rotate_left 1; (dsimp only; omega)) | (with_reducible refine below_then ?_ (by assumption)))))).mono ?_
    rintro r w2 ⟨rfl, hb2⟩
    go_wp2
    go_ret
    exact ⟨rfl, (by repeat (first | with_reducible exact Below.refl _ _ | with_reducible assumption | (with_reducible exact Env.below (by assumption)) | (with_reducible refine below_new ?_ _) | (with_reducible refine below_drew ?_) | (with_reducible refine below_drewN ?_ _) | (with_reducible refine below_put ?_ ?_ _; rotate_left 1; (dsimp only; omega)) | (with_reducible refine below_then ?_ (by assumption))))⟩
end Go.Proofs.Ytffehibdeogjeaa
