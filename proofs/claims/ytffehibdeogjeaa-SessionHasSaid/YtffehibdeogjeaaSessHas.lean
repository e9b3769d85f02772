/- The walk of SessionHas (chapter 15). No condition. -/
import Derived.Test.YtffehibdeogjeaaSessOrder
namespace Go.Proofs.Ytffehibdeogjeaa
open Go.RowKit

theorem filter_snoc {α : Type} (p : α → Bool) {l : List α} {k : Nat} {x : α} (h : l[k]? = some x) : (l.take (k + 1)).filter p = (l.take k).filter p ++ if p x = true then [x] else [] := by
  rw [List.take_add_one, h, List.filter_append]
  simp only [Option.toList_some, List.filter_cons, List.filter_nil]
theorem any_snoc {α : Type} (p : α → Bool) {l : List α} {k : Nat} {x : α} (h : l[k]? = some x) : (l.take (k + 1)).any p = ((l.take k).any p || p x) := by
  rw [List.take_add_one, h, List.any_append]
  simp
theorem rright_few (A : Option Addr) (c m : Nat) (ts : List Int) (g : Int) (w : World) (h60 : ts.length ≤ 60) (hall : ∀ t ∈ ts, sck t g = 0) (hm : (canon (stimes g ts)).length = m) (hr : Rd senc 2 w w.heap.size A (canon (stimes g ts))) :
    Calls Try.prog 60 #[.slice A m c] w fun e w' => e = .returned (.bool true) ∧ Below w.heap.size w w' := by
  have hl := canon_len (stimes g ts)
  rw [stimes_len, hm] at hl
  have h := rsright_any A c m (canon (stimes g ts)) w hm (by omega) hr
  rw [srt_canon (sok_times hall) (by rw [stimes_len]; omega)] at h
  exact h

set_option maxHeartbeats 8000000 in
set_option maxRecDepth 100000 in
theorem sessionHas_yes (w : World) (A : Option Addr) (c n : Nat) (ts : List Int) (hn : ts.length = n) (lr : Rd ienc 1 w w.heap.size A ts) (g : Int)
    (h60 : n ≤ 60) (hall : ∀ t ∈ ts, sck t g = 0) (h0 : sck 0 g = 0) :
    Calls Try.prog 13 #[.slice A n c, .int .i64 g] w fun r w' => r = .returned (.bool true) ∧ Below w.heap.size w w' := by
  have hg1 : 1 ≤ g := (sck_zero h0).1
  have hfe := fun W (h : Rd ienc 1 W W.heap.size A ts) => slfew_any A c n ts g W hn h
  rw [show sfewB ts g = true from decide_eq_true ⟨by omega, hall, h0⟩] at hfe
  have hof := fun W (h : Rd ienc 1 W W.heap.size A ts) => sof_any A c n ts g W hn h
  rw [sof_few h0 (by omega) hall] at hof
  obtain ⟨m, hm⟩ : ∃ m, (canon (stimes g ts)).length = m := ⟨_, rfl⟩
  have hrr := fun A' c' W h => rright_few A' c' m ts g W (by omega) hall hm h
  have hone : ∀ t ∈ ts, ((canon (stimes g ts)).filter (holdS t)).length = 1 := fun t ht => times_one hg1 ht
  have hends : ∀ x ∈ canon (stimes g ts), x.1 ∈ ts ∧ (∃ t ∈ ts, t + g = x.2) := times_ends
  have l0 : m ≤ n := by have := canon_len (stimes g ts); rw [stimes_len, hm] at this; omega
  obtain ⟨S, hS⟩ : ∃ S, S = canon (stimes g ts) := ⟨_, rfl⟩
  rw [← hS] at hof hm hrr hone hends
  have HFE := Lib.hid hfe; have HOF := Lib.hid hof; have HRR := Lib.hid hrr; have HONE := Lib.hid hone; have HENDS := Lib.hid hends
  have HN := Lib.hid hn; have HM := Lib.hid hm; have HALL := Lib.hid hall
  clear hfe hof hrr hone hends hn hm hall hS h0
  have hL : Loc w [] := trivial
  have d1 : decide ((n : Int) < (m : Int)) = false := by simp; omega
  have d1' : decide (n < m) = false := by simp; omega
  go_enter Try.func13, Try.ntmps13
  go_wp2_with fail
  go_at_call 57
  refine (salive_any _).mono ?_
  rintro r w1 ⟨rfl, hb1⟩
  go_wp2_with fail
  go_at_call 58
  refine (HFE.out _ (rd_grown lr (by repeat (first | with_reducible exact Below.refl _ _ | with_reducible assumption | (with_reducible exact Env.below (by assumption)) | (with_reducible refine below_new ?_ _) | (with_reducible refine below_drew ?_) | (with_reducible refine below_drewN ?_ _) | (with_reducible refine below_put ?_ ?_ _; rotate_left 1; (dsimp only; omega)) | (with_reducible refine below_then ?_ (by assumption)))))).mono ?_
  rintro r w2 ⟨rfl, hb2⟩
  go_wp2_with fail
  go_at_call 59
  refine (HOF.out _ (rd_grown lr (by repeat (first | with_reducible exact Below.refl _ _ | with_reducible assumption | (with_reducible exact Env.below (by assumption)) | (with_reducible refine below_new ?_ _) | (with_reducible refine below_drew ?_) | (with_reducible refine below_drewN ?_ _) | (with_reducible refine below_put ?_ ?_ _; rotate_left 1; (dsimp only; omega)) | (with_reducible refine below_then ?_ (by assumption)))))).mono ?_
  rintro r w3 ⟨v3, rfl, own3, hb3⟩
  obtain ⟨A3, e3, rfl, -, z3⟩ := own_shape_z own3 HM.out
  go_wp2_with fail
  go_at_call 60
  refine (HRR.out _ _ _ (Own.rd senc_len own3)).mono ?_
  rintro r w4 ⟨rfl, hb4⟩
  have hb04 : Below w.heap.size w w4 := (by repeat (first | with_reducible exact Below.refl _ _ | with_reducible assumption | (with_reducible exact Env.below (by assumption)) | (with_reducible refine below_new ?_ _) | (with_reducible refine below_drew ?_) | (with_reducible refine below_drewN ?_ _) | (with_reducible refine below_put ?_ ?_ _; rotate_left 1; (dsimp only; omega)) | (with_reducible refine below_then ?_ (by assumption))))
  have rdS := rd_grown (Own.rd senc_len own3) hb4
  have rdT := rd_grown lr hb04
  clear hb1 hb2 hb3 hb4 own3 z3 lr hL
  go_wp2_with fail
  go_loopw [8] (fun i wr => ∃ k : Nat, k ≤ n ∧ i = .int .i64 k ∧ ∃ q, wr = w4.drewN q) (fun i _ => n - (intOf i).toNat)
  case atStart => exact ⟨0, Nat.zero_le _, rfl, 0, rfl⟩
  case round =>
    obtain ⟨k, hk, rfl, q, rfl⟩ := hrel
    by_cases hlt : k < n
    · have dk : decide ((k : Int) < (n : Int)) = true := by simp; omega
      have dk' : decide (k < n) = true := by simp [hlt]
      obtain ⟨t, ht⟩ : ∃ t, ts[k]? = some t := ⟨_, List.getElem?_eq_getElem (by rw [HN.out]; omega)⟩
      obtain ⟨b, off, rfl, hbB, f1⟩ := int_at rdT ht
      have hone := HONE.out t (List.mem_of_getElem? ht)
      have H1 := Lib.hid hone
      clear ht hone
      have i1 : (0 : Int) ≤ (k : Int) := by omega
      have i2 : (k : Int) < (n : Int) := by omega
      obtain ⟨wq, hwq⟩ : ∃ wq, wq = w4.drewN q := ⟨_, rfl⟩
      rw [← hwq]
      have rdS' : Rd senc 2 wq wq.heap.size A3 S := by rw [hwq]; exact rdS
      have f1' : wq.cell? ⟨b, off + k, none⟩ = some (.int .i64 t) := by rw [hwq]; exact f1
      have HWQ := Lib.hid hwq
      clear hwq f1
      go_wp2_with fail
      go_loopw [9, 10] (fun nn jj wr => ∃ (j z : Nat), j ≤ m ∧ jj = .int .i64 j ∧ nn = .int .i64 z ∧ z ≤ j ∧ ((S.take j).filter (holdS t)).length = z ∧ ∃ q, wr = wq.drewN q) (fun _ jj _ => m - (intOf jj).toNat)
      case atStart => exact ⟨0, 0, Nat.zero_le _, rfl, rfl, Nat.le_refl _, rfl, 0, rfl⟩
      case round =>
        obtain ⟨j, z, hj, rfl, rfl, hzj, hz, q', rfl⟩ := hrel
        have HZ := Lib.hid hz
        clear hz
        by_cases hjm : j < m
        · have dj : decide ((j : Int) < (m : Int)) = true := by simp; omega
          have dj' : decide (j < m) = true := by simp [hjm]
          obtain ⟨x, hx⟩ : ∃ x, S[j]? = some x := ⟨_, List.getElem?_eq_getElem (by rw [HM.out]; omega)⟩
          have hsn := filter_snoc (holdS t) hx
          obtain ⟨b', off', rfl, hbS, c1, c2⟩ := span_cells rdS' hx
          obtain ⟨x1, x2⟩ := x
          dsimp only at c1 c2
          have j1 : (0 : Int) ≤ (j : Int) := by omega
          have j2 : (j : Int) < (m : Int) := by omega
          have e1 : IntKind.i64.wrap ((j : Int) + 1) = (j : Int) + 1 := IntWalk.i64_in _ (by omega)
          have e2 : IntKind.i64.wrap ((z : Int) + 1) = (z : Int) + 1 := IntWalk.i64_in _ (by omega)
          have HSN := Lib.hid hsn
          clear hx hsn
          by_cases ha : x1 ≤ t
          · have da : decide (x1 ≤ t) = true := decide_eq_true ha
            by_cases hb : t < x2
            · have db : decide (t < x2) = true := decide_eq_true hb
              have hh : holdS t (x1, x2) = true := by simp [holdS, ha, hb]
              have hz' : ((S.take (j + 1)).filter (holdS t)).length = z + 1 := by rw [HSN.out, if_pos hh, List.length_append, HZ.out]; rfl
              have HZ' := Lib.hid hz'
              clear hh hz'
              go_wp2_with fail
              go_quiet (fail)
              go_wp2
              go_roundw
              case rel => exact ⟨j + 1, z + 1, by omega, by go_num, by go_num, by omega, HZ'.out, _, rfl⟩
              case measure => simp [intOf]; omega
            · have db : decide (t < x2) = false := decide_eq_false hb
              have hh : ¬ holdS t (x1, x2) = true := by simp [holdS, hb]
              have hz' : ((S.take (j + 1)).filter (holdS t)).length = z := by rw [HSN.out, if_neg hh, List.append_nil, HZ.out]
              have HZ' := Lib.hid hz'
              clear hh hz'
              go_wp2_with fail
              go_quiet (fail)
              go_wp2
              go_roundw
              case rel => exact ⟨j + 1, z, by omega, by go_num, rfl, by omega, HZ'.out, _, rfl⟩
              case measure => simp [intOf]; omega
          · have da : decide (x1 ≤ t) = false := decide_eq_false ha
            have hh : ¬ holdS t (x1, x2) = true := by simp [holdS, ha]
            have hz' : ((S.take (j + 1)).filter (holdS t)).length = z := by rw [HSN.out, if_neg hh, List.append_nil, HZ.out]
            have HZ' := Lib.hid hz'
            clear hh hz'
            go_wp2_with fail
            go_quiet (fail)
            go_wp2
            go_roundw
            case rel => exact ⟨j + 1, z, by omega, by go_num, rfl, by omega, HZ'.out, _, rfl⟩
            case measure => simp [intOf]; omega
        · obtain rfl : j = m := by omega
          have dj : decide ((j : Int) < (j : Int)) = false := by simp
          have dj' : decide (j < j) = false := by simp
          have hz1 : z = 1 := by have := HZ.out; rw [List.take_of_length_le (by rw [HM.out]; exact Nat.le_refl _)] at this; rw [← this]; exact H1.out
          subst hz1
          have e1 : IntKind.i64.wrap ((k : Int) + 1) = (k : Int) + 1 := IntWalk.i64_in _ (by omega)
          have hq2 : ∃ q2, wq.drewN q' = w4.drewN q2 := ⟨q + q', by rw [HWQ.out]; exact World.drewN_drewN _ _ _⟩
          obtain ⟨q2, hq2⟩ := hq2
          rw [hq2]
          clear hq2
          go_wp2
          go_roundw
          case rel => exact ⟨k + 1, by omega, by go_num, _, rfl⟩
          case measure => simp [intOf]; omega
    · obtain rfl : n = k := by omega
      have dk : decide ((n : Int) < (n : Int)) = false := by simp
      have dk' : decide (n < n) = false := by simp
      obtain ⟨wq, hwq⟩ : ∃ wq, wq = w4.drewN q := ⟨_, rfl⟩
      rw [← hwq]
      have rdS' : Rd senc 2 wq wq.heap.size A3 S := by rw [hwq]; exact rdS
      have rdT' : Rd ienc 1 wq wq.heap.size A ts := by rw [hwq]; exact rdT
      have hbq : Below w.heap.size w wq := by rw [hwq]; exact below_drewN hb04 _
      clear hwq rdS rdT hb04
      go_wp2_with fail
      go_loopw [11] (fun i wr => ∃ k : Nat, k ≤ m ∧ i = .int .i64 k ∧ ∃ q, wr = wq.drewN q) (fun i _ => m - (intOf i).toNat)
      case atStart => exact ⟨0, Nat.zero_le _, rfl, 0, rfl⟩
      case round =>
        obtain ⟨i, hi, rfl, q, rfl⟩ := hrel
        by_cases him : i < m
        · have dk : decide ((i : Int) < (m : Int)) = true := by simp; omega
          have dk' : decide (i < m) = true := by simp [him]
          obtain ⟨x, hx⟩ : ∃ x, S[i]? = some x := ⟨_, List.getElem?_eq_getElem (by rw [HM.out]; omega)⟩
          obtain ⟨b', off', rfl, hbS, c1, c2⟩ := span_cells rdS' hx
          have he := HENDS.out x (List.mem_of_getElem? hx)
          obtain ⟨x1, x2⟩ := x
          dsimp only at c1 c2 he
          have hfi : ts.any (· == x1) = true := List.any_eq_true.2 ⟨x1, he.1, by simp⟩
          have hla : ts.any (fun t => t + g == x2) = true := by
            obtain ⟨t, ht, h⟩ := he.2
            exact List.any_eq_true.2 ⟨t, ht, by simp [h]⟩
          have HFI := Lib.hid hfi; have HLA := Lib.hid hla
          clear hx he hfi hla
          have i1 : (0 : Int) ≤ (i : Int) := by omega
          have i2 : (i : Int) < (m : Int) := by omega
          obtain ⟨wp, hwp⟩ : ∃ wp, wp = wq.drewN q := ⟨_, rfl⟩
          rw [← hwp]
          have c1' : wp.cell? ⟨b', off' + i * 2, none⟩ = some (.int .i64 x1) := by rw [hwp]; exact c1
          have c2' : wp.cell? ⟨b', off' + i * 2 + 1, none⟩ = some (.int .i64 x2) := by rw [hwp]; exact c2
          have rdT2 : Rd ienc 1 wp wp.heap.size A ts := by rw [hwp]; exact rdT'
          have HWP := Lib.hid hwp
          clear hwp c1 c2
          go_wp2_with fail
          go_loopw [12, 13, 14] (fun ff ll jj wr => ∃ (j : Nat) (fb lb : Bool), j ≤ n ∧ jj = .int .i64 j ∧ ff = .bool fb ∧ ll = .bool lb ∧ (ts.take j).any (· == x1) = fb ∧ (ts.take j).any (fun t => t + g == x2) = lb ∧ ∃ q, wr = wp.drewN q) (fun _ _ jj _ => n - (intOf jj).toNat)
          case atStart => exact ⟨0, false, false, Nat.zero_le _, rfl, rfl, rfl, rfl, rfl, 0, rfl⟩
          case round =>
            obtain ⟨j, fb, lb, hj, rfl, rfl, rfl, hfb, hlb, q', rfl⟩ := hrel
            by_cases hjn : j < n
            · have dj : decide ((j : Int) < (n : Int)) = true := by simp; omega
              have dj' : decide (j < n) = true := by simp [hjn]
              obtain ⟨t, ht⟩ : ∃ t, ts[j]? = some t := ⟨_, List.getElem?_eq_getElem (by rw [HN.out]; omega)⟩
              have hsf := any_snoc (· == x1) ht
              have hsl := any_snoc (fun t => t + g == x2) ht
              (try dsimp only at hsf hsl)
              rw [hfb] at hsf
              rw [hlb] at hsl
              obtain ⟨b, off, rfl, hbB, f1⟩ := int_at rdT2 ht
              have hck := sck_zero (HALL.out t (List.mem_of_getElem? ht))
              obtain ⟨k1, k2, k3, k4⟩ := hck
              have j1 : (0 : Int) ≤ (j : Int) := by omega
              have j2 : (j : Int) < (n : Int) := by omega
              have e1 : IntKind.i64.wrap ((j : Int) + 1) = (j : Int) + 1 := IntWalk.i64_in _ (by omega)
              have e2 : IntKind.i64.wrap (t + g) = t + g := IntWalk.i64_in _ (by omega)
              obtain ⟨tb, htb⟩ : ∃ b, (t == x1) = b := ⟨_, rfl⟩
              obtain ⟨ub, hub⟩ : ∃ b, (t + g == x2) = b := ⟨_, rfl⟩
              rw [htb] at hsf
              rw [hub] at hsl
              have HSF := Lib.hid hsf; have HSL := Lib.hid hsl
              clear ht hsf hsl hfb hlb
              rcases fb with _ | _ <;> rcases lb with _ | _
              all_goals
                go_wp2_with fail
                go_quiet (fail)
                go_wp2_with fail
                go_quiet (fail)
                go_wp2
                go_roundw
                case rel => exact ⟨j + 1, _, _, by omega, by go_num, rfl, rfl, HSF.out, HSL.out, _, rfl⟩
                case measure => simp [intOf]; omega
            · obtain rfl : j = n := by omega
              have dj : decide ((j : Int) < (j : Int)) = false := by simp
              have dj' : decide (j < j) = false := by simp
              rw [List.take_of_length_le (by rw [HN.out]; exact Nat.le_refl _)] at hfb hlb
              rw [HFI.out] at hfb
              rw [HLA.out] at hlb
              subst hfb
              subst hlb
              have e1 : IntKind.i64.wrap ((i : Int) + 1) = (i : Int) + 1 := IntWalk.i64_in _ (by omega)
              have hq2 : ∃ q2, wp.drewN q' = wq.drewN q2 := ⟨q + q', by rw [HWP.out]; exact World.drewN_drewN _ _ _⟩
              obtain ⟨q2, hq2⟩ := hq2
              rw [hq2]
              clear hq2
              go_wp2
              go_roundw
              case rel => exact ⟨i + 1, by omega, by go_num, _, rfl⟩
              case measure => simp [intOf]; omega
        · obtain rfl : i = m := by omega
          have dk : decide ((i : Int) < (i : Int)) = false := by simp
          have dk' : decide (i < i) = false := by simp
          go_wp2
          go_ret
          exact ⟨rfl, (by repeat (first | with_reducible exact Below.refl _ _ | with_reducible assumption | (with_reducible exact Env.below (by assumption)) | (with_reducible refine below_new ?_ _) | (with_reducible refine below_drew ?_) | (with_reducible refine below_drewN ?_ _) | (with_reducible refine below_put ?_ ?_ _; rotate_left 1; (dsimp only; omega)) | (with_reducible refine below_then ?_ (by assumption))))⟩

set_option maxHeartbeats 8000000 in
set_option maxRecDepth 100000 in
theorem sessionHas_walk {w : World} (A : Option Addr) (c : Nat) (ts : List Int) (_lc : ts.length ≤ c) (_lm : c ≤ maxLen) (_lw : ∀ x ∈ ts, i64ok x) (lr : Rd ienc 1 w w.heap.size A ts)
    (g : Int) (_wg : (Lit.int .i64 g).wf = true) :
    Calls Try.prog 13 #[.slice A ts.length c, .int .i64 g] w fun r w' => r = .returned (.bool true) ∧ Below w.heap.size w w' := by
  obtain ⟨n, hn⟩ : ∃ n, ts.length = n := ⟨_, rfl⟩
  rw [hn] at _lc ⊢
  by_cases hf : ts.length ≤ 60 ∧ (∀ t ∈ ts, sck t g = 0) ∧ sck 0 g = 0
  · exact sessionHas_yes w A c n ts hn lr g (by omega) hf.2.1 hf.2.2
  · have hfe := fun W (h : Rd ienc 1 W W.heap.size A ts) => slfew_any A c n ts g W hn h
    rw [show sfewB ts g = false from decide_eq_false hf] at hfe
    have HFE := Lib.hid hfe
    clear hfe hf hn
    go_enter Try.func13, Try.ntmps13
    go_wp2_with fail
    go_at_call 57
    refine (salive_any _).mono ?_
    rintro r w1 ⟨rfl, hb1⟩
    go_wp2_with fail
    go_at_call 58
    refine (HFE.out _ (rd_grown lr (by repeat (first | with_reducible exact Below.refl _ _ | with_reducible assumption | (with_reducible exact Env.below (by assumption)) | (with_reducible refine below_new ?_ _) | (with_reducible refine below_drew ?_) | (with_reducible refine below_drewN ?_ _) | (with_reducible refine below_put ?_ ?_ _; rotate_left 1; (dsimp only; omega)) | (with_reducible refine below_then ?_ (by assumption)))))).mono ?_
    rintro r w2 ⟨rfl, hb2⟩
    go_wp2
    go_ret
    exact ⟨rfl, (by repeat (first | with_reducible exact Below.refl _ _ | with_reducible assumption | (with_reducible exact Env.below (by assumption)) | (with_reducible refine below_new ?_ _) | (with_reducible refine below_drew ?_) | (with_reducible refine below_drewN ?_ _) | (with_reducible refine below_put ?_ ?_ _; rotate_left 1; (dsimp only; omega)) | (with_reducible refine below_then ?_ (by assumption))))⟩
end Go.Proofs.Ytffehibdeogjeaa
