/- The contracts of the sessions' right and of the reference's Right (chapter 15). Condition: lists of at most 2^40 spans. -/
import Derived.Test.YtffehibdeogjeaaSessFuncs
namespace Go.Proofs.Ytffehibdeogjeaa
open Go.RowKit

open Classical in
noncomputable def srtB (l : List (Int × Int)) : Bool := decide (srt l)
theorem srk_succ {l : List (Int × Int)} {k : Nat} (h : srk l k) (h1 : sok (l.getD k (0, 0))) (h2 : 0 < k → (l.getD (k - 1) (0, 0)).2 ≤ (l.getD k (0, 0)).1) : srk l (k + 1) :=
  ⟨fun i hi => (by by_cases e : i = k; exact e ▸ h1; exact h.1 i (by omega)), fun i h0 hi => (by by_cases e : i = k; exact e ▸ h2 (e ▸ h0); exact h.2 i h0 (by omega))⟩
open Classical in
theorem srt_false {l : List (Int × Int)} {k : Nat} (hk : k < l.length) (h : ¬ (sok (l.getD k (0, 0)) ∧ (0 < k → (l.getD (k - 1) (0, 0)).2 ≤ (l.getD k (0, 0)).1))) : srtB l = false := by
  unfold srtB
  exact decide_eq_false (fun ⟨_, h1, h2⟩ => h ⟨h1 k hk, fun h0 => h2 k h0 hk⟩)
open Classical in
theorem srt_many {l : List (Int × Int)} (h : 4000 < l.length) : srtB l = false := by
  unfold srtB
  exact decide_eq_false (fun ⟨h1, _⟩ => absurd h (by omega))
open Classical in
theorem srt_all {l : List (Int × Int)} (h : l.length ≤ 4000) (h2 : srk l l.length) : srtB l = true := by
  unfold srtB
  exact decide_eq_true ⟨h, h2⟩

set_option maxHeartbeats 8000000 in
set_option maxRecDepth 100000 in
theorem sright_any (A : Option Addr) (c n : Nat) (l : List (Int × Int)) (w : World) (hln : l.length = n) (hn : n ≤ 1099511627776) (hr : Rd senc 2 w w.heap.size A l) :
    Calls Try.prog 97 #[.slice A n c] w fun e w' => e = .returned (.bool (srtB l)) ∧ Below w.heap.size w w' := by
  have HL := Lib.hid hln
  by_cases hm : 4000 < n
  · have b0 : decide ((4000 : Int) < (n : Int)) = true := by simp; omega
    have b0' : decide (4000 < n) = true := by simp [hm]
    have HB := Lib.hid (srt_many (l := l) (by omega))
    clear hln hm
    go_enter Try.func97, Try.ntmps97
    go_wp2
    go_ret
    exact ⟨ret_bool HB.out.symm, (by repeat (first | with_reducible exact Below.refl _ _ | with_reducible assumption | (with_reducible exact Env.below (by assumption)) | (with_reducible refine below_new ?_ _) | (with_reducible refine below_drew ?_) | (with_reducible refine below_drewN ?_ _) | (with_reducible refine below_put ?_ ?_ _; rotate_left 1; (dsimp only; omega)) | (with_reducible refine below_then ?_ (by assumption))))⟩
  · have b0 : decide ((4000 : Int) < (n : Int)) = false := by simp; omega
    have b0' : decide (4000 < n) = false := by simp [hm]
    clear hln
    go_enter Try.func97, Try.ntmps97
    go_wp2_with fail
    go_loopw [10] (fun i wr => ∃ k : Nat, k ≤ n ∧ i = .int .i64 k ∧ srk l k ∧ Below w.heap.size w wr) (fun i _ => n - (intOf i).toNat)
    case atStart => exact ⟨0, Nat.zero_le _, rfl, ⟨fun i hi => by omega, fun i _ hi => by omega⟩, Below.refl _ _⟩
    case round =>
      obtain ⟨k, hk, rfl, hs, hb⟩ := hrel
      have HS := Lib.hid hs
      clear hs
      by_cases h1 : k < n
      · have d1 : decide ((k : Int) < (n : Int)) = true := by simp; omega
        have d1' : decide (k < n) = true := by simp [h1]
        have i1 : (0 : Int) ≤ (k : Int) := by omega
        have i2 : (k : Int) < (n : Int) := by omega
        obtain ⟨x, hx⟩ : ∃ x, l[k]? = some x := ⟨_, List.getElem?_eq_getElem (by rw [HL.out]; exact h1)⟩
        obtain ⟨b, off, rfl, hbB, f1, f2⟩ := span_cells hr hx
        have g1 := (hb.cell (p := ⟨b, off + k * 2, none⟩) hbB).trans f1
        have g2 := (hb.cell (p := ⟨b, off + k * 2 + 1, none⟩) hbB).trans f2
        have hbw : b < wr.heap.size := Nat.lt_of_lt_of_le hbB hb.size
        have GX := Lib.hid (getD_some (d := ((0, 0) : Int × Int)) hx)
        obtain ⟨x1, x2⟩ := x
        dsimp only at g1 g2
        clear hx f1 f2
        have bad : ¬ sok (x1, x2) → srtB l = false := fun h => srt_false (k := k) (by rw [HL.out]; exact h1) (fun h2 => h (by have := h2.1; rwa [GX.out] at this))
        have HBAD := Lib.hid bad
        clear bad
        by_cases c1 : x1 < -1099511627776
        · have e1 : decide (x1 < -1099511627776) = true := by simp [c1]
          go_wp2_with fail
          (refine wp_region_quiet_lit (by kernel_rfl) (by kernel_rfl) ?_; (repeat (any_goals (first | go_big_quiet_step (fail) | quiet_step (fail)))); all_goals (refine wpQuiet_nil ?_; intro _ hw'; obtain ⟨nq, hw''⟩ := hw'; subst hw''))
          go_wp2
          go_ret
          exact ⟨ret_bool (HBAD.out (by unfold sok; simp only; omega)).symm, (by repeat (first | with_reducible exact Below.refl _ _ | with_reducible assumption | (with_reducible exact Env.below (by assumption)) | (with_reducible refine below_new ?_ _) | (with_reducible refine below_drew ?_) | (with_reducible refine below_drewN ?_ _) | (with_reducible refine below_put ?_ ?_ _; rotate_left 1; (dsimp only; omega)) | (with_reducible refine below_then ?_ (by assumption))))⟩
        · have e1 : decide (x1 < -1099511627776) = false := by simp; omega
          by_cases c2 : 1099511627776 < x1
          · have e2 : decide (1099511627776 < x1) = true := by simp [c2]
            go_wp2_with fail
            (refine wp_region_quiet_lit (by kernel_rfl) (by kernel_rfl) ?_; (repeat (any_goals (first | go_big_quiet_step (fail) | quiet_step (fail)))); all_goals (refine wpQuiet_nil ?_; intro _ hw'; obtain ⟨nq, hw''⟩ := hw'; subst hw''))
            go_wp2
            go_ret
            exact ⟨ret_bool (HBAD.out (by unfold sok; simp only; omega)).symm, (by repeat (first | with_reducible exact Below.refl _ _ | with_reducible assumption | (with_reducible exact Env.below (by assumption)) | (with_reducible refine below_new ?_ _) | (with_reducible refine below_drew ?_) | (with_reducible refine below_drewN ?_ _) | (with_reducible refine below_put ?_ ?_ _; rotate_left 1; (dsimp only; omega)) | (with_reducible refine below_then ?_ (by assumption))))⟩
          · have e2 : decide (1099511627776 < x1) = false := by simp; omega
            by_cases c3 : x2 ≤ x1
            · have e3 : decide (x2 ≤ x1) = true := by simp [c3]
              go_wp2_with fail
              (refine wp_region_quiet_lit (by kernel_rfl) (by kernel_rfl) ?_; (repeat (any_goals (first | go_big_quiet_step (fail) | quiet_step (fail)))); all_goals (refine wpQuiet_nil ?_; intro _ hw'; obtain ⟨nq, hw''⟩ := hw'; subst hw''))
              go_wp2
              go_ret
              exact ⟨ret_bool (HBAD.out (by unfold sok; simp only; omega)).symm, (by repeat (first | with_reducible exact Below.refl _ _ | with_reducible assumption | (with_reducible exact Env.below (by assumption)) | (with_reducible refine below_new ?_ _) | (with_reducible refine below_drew ?_) | (with_reducible refine below_drewN ?_ _) | (with_reducible refine below_put ?_ ?_ _; rotate_left 1; (dsimp only; omega)) | (with_reducible refine below_then ?_ (by assumption))))⟩
            · have e3 : decide (x2 ≤ x1) = false := by simp; omega
              by_cases c4 : 1100585369600 < x2
              · have e4 : decide (1100585369600 < x2) = true := by simp [c4]
                go_wp2_with fail
                (refine wp_region_quiet_lit (by kernel_rfl) (by kernel_rfl) ?_; (repeat (any_goals (first | go_big_quiet_step (fail) | quiet_step (fail)))); all_goals (refine wpQuiet_nil ?_; intro _ hw'; obtain ⟨nq, hw''⟩ := hw'; subst hw''))
                go_wp2
                go_ret
                exact ⟨ret_bool (HBAD.out (by unfold sok; simp only; omega)).symm, (by repeat (first | with_reducible exact Below.refl _ _ | with_reducible assumption | (with_reducible exact Env.below (by assumption)) | (with_reducible refine below_new ?_ _) | (with_reducible refine below_drew ?_) | (with_reducible refine below_drewN ?_ _) | (with_reducible refine below_put ?_ ?_ _; rotate_left 1; (dsimp only; omega)) | (with_reducible refine below_then ?_ (by assumption))))⟩
              · have e4 : decide (1100585369600 < x2) = false := by simp; omega
                have hok : sok (x1, x2) := by unfold sok; simp only; omega
                have HOK := Lib.hid hok
                clear hok
                by_cases h0 : k = 0
                · have e5 : decide ((0 : Int) < (k : Int)) = false := by simp; omega
                  have e5' : decide (0 < k) = false := by simp; omega
                  have hnx : srk l (k + 1) := srk_succ HS.out (by rw [GX.out]; exact HOK.out) (fun h => by omega)
                  have HNX := Lib.hid hnx
                  clear hnx h0
                  go_wp2_with fail
                  (refine wp_region_quiet_lit (by kernel_rfl) (by kernel_rfl) ?_; (repeat (any_goals (first | go_big_quiet_step (fail) | quiet_step (fail)))); all_goals (refine wpQuiet_nil ?_; intro _ hw'; obtain ⟨nq, hw''⟩ := hw'; subst hw''))
                  go_wp2
                  go_roundw
                  case rel => exact ⟨k + 1, by omega, by go_num, HNX.out, (by repeat (first | with_reducible exact Below.refl _ _ | with_reducible assumption | (with_reducible exact Env.below (by assumption)) | (with_reducible refine below_new ?_ _) | (with_reducible refine below_drew ?_) | (with_reducible refine below_drewN ?_ _) | (with_reducible refine below_put ?_ ?_ _; rotate_left 1; (dsimp only; omega)) | (with_reducible refine below_then ?_ (by assumption))))⟩
                  case measure => simp [intOf]; omega
                · have e5 : decide ((0 : Int) < (k : Int)) = true := by simp; omega
                  have e5' : decide (0 < k) = true := by simp; omega
                  obtain ⟨p, hp⟩ : ∃ p, k = p + 1 := ⟨k - 1, by omega⟩
                  have e6 : IntKind.i64.wrap ((k : Int) - 1) = (p : Int) := by rw [IntWalk.i64_in _ (by omega)]; omega
                  have i3 : (0 : Int) ≤ (p : Int) := by omega
                  have i4 : (p : Int) < (n : Int) := by omega
                  obtain ⟨y, hy⟩ : ∃ y, l[p]? = some y := ⟨_, List.getElem?_eq_getElem (by rw [HL.out]; omega)⟩
                  obtain ⟨b', off', e', _, f3, f4⟩ := span_cells hr hy
                  simp only [Option.some.injEq, Addr.mk.injEq, and_true] at e'
                  obtain ⟨rfl, rfl⟩ := e'
                  have g4 := (hb.cell (p := ⟨b, off + p * 2 + 1, none⟩) hbB).trans f4
                  have GY := Lib.hid (getD_some (d := ((0, 0) : Int × Int)) hy)
                  obtain ⟨y1, y2⟩ := y
                  dsimp only at g4
                  have HP := Lib.hid hp
                  clear hy f3 f4 hp
                  by_cases c5 : x1 < y2
                  · have e7 : decide (x1 < y2) = true := by simp [c5]
                    have hf : srtB l = false := srt_false (k := k) (by rw [HL.out]; exact h1) (fun h2 => by
                      have := h2.2 (by have := HP.out; omega)
                      rw [GX.out, show k - 1 = p by have := HP.out; omega, GY.out] at this
                      simp only at this
                      omega)
                    have HF := Lib.hid hf
                    clear hf
                    go_wp2_with fail
                    (refine wp_region_quiet_lit (by kernel_rfl) (by kernel_rfl) ?_; (repeat (any_goals (first | go_big_quiet_step (fail) | quiet_step (fail)))); all_goals (refine wpQuiet_nil ?_; intro _ hw'; obtain ⟨nq, hw''⟩ := hw'; subst hw''))
                    go_wp2
                    go_ret
                    exact ⟨ret_bool HF.out.symm, (by repeat (first | with_reducible exact Below.refl _ _ | with_reducible assumption | (with_reducible exact Env.below (by assumption)) | (with_reducible refine below_new ?_ _) | (with_reducible refine below_drew ?_) | (with_reducible refine below_drewN ?_ _) | (with_reducible refine below_put ?_ ?_ _; rotate_left 1; (dsimp only; omega)) | (with_reducible refine below_then ?_ (by assumption))))⟩
                  · have e7 : decide (x1 < y2) = false := by simp; omega
                    have hnx : srk l (k + 1) := srk_succ HS.out (by rw [GX.out]; exact HOK.out) (fun h => by
                      rw [GX.out, show k - 1 = p by have := HP.out; omega, GY.out]
                      simp only
                      omega)
                    have HNX := Lib.hid hnx
                    clear hnx
                    go_wp2_with fail
                    (refine wp_region_quiet_lit (by kernel_rfl) (by kernel_rfl) ?_; (repeat (any_goals (first | go_big_quiet_step (fail) | quiet_step (fail)))); all_goals (refine wpQuiet_nil ?_; intro _ hw'; obtain ⟨nq, hw''⟩ := hw'; subst hw''))
                    go_wp2
                    go_roundw
                    case rel => exact ⟨k + 1, by omega, by go_num, HNX.out, (by repeat (first | with_reducible exact Below.refl _ _ | with_reducible assumption | (with_reducible exact Env.below (by assumption)) | (with_reducible refine below_new ?_ _) | (with_reducible refine below_drew ?_) | (with_reducible refine below_drewN ?_ _) | (with_reducible refine below_put ?_ ?_ _; rotate_left 1; (dsimp only; omega)) | (with_reducible refine below_then ?_ (by assumption))))⟩
                    case measure => simp [intOf]; omega
      · have d1 : decide ((k : Int) < (n : Int)) = false := by simp; omega
        have d1' : decide (k < n) = false := by simp [h1]
        have hkn : k = n := by omega
        have hall : srtB l = true := srt_all (by rw [HL.out]; omega) (by rw [HL.out, ← hkn]; exact HS.out)
        have HA := Lib.hid hall
        clear hall hkn
        go_wp2
        go_ret
        exact ⟨ret_bool HA.out.symm, hb⟩
set_option maxHeartbeats 8000000 in
set_option maxRecDepth 100000 in
theorem rsright_any (A : Option Addr) (c n : Nat) (l : List (Int × Int)) (w : World) (hln : l.length = n) (hn : n ≤ 1099511627776) (hr : Rd senc 2 w w.heap.size A l) :
    Calls Try.prog 60 #[.slice A n c] w fun e w' => e = .returned (.bool (srtB l)) ∧ Below w.heap.size w w' := by
  have HL := Lib.hid hln
  clear hln
  go_enter Try.func60, Try.ntmps60
  go_wp2_with fail
  go_loopw [3] (fun i wr => ∃ k : Nat, k ≤ n ∧ i = .int .i64 k ∧ srk l k ∧ Below w.heap.size w wr) (fun i _ => n - (intOf i).toNat)
  case atStart => exact ⟨0, Nat.zero_le _, rfl, ⟨fun i hi => by omega, fun i _ hi => by omega⟩, Below.refl _ _⟩
  case round =>
    obtain ⟨k, hk, rfl, hs, hb⟩ := hrel
    have HS := Lib.hid hs
    clear hs
    by_cases h1 : k < n
    · have d1 : decide ((k : Int) < (n : Int)) = true := by simp; omega
      have d1' : decide (k < n) = true := by simp [h1]
      have i1 : (0 : Int) ≤ (k : Int) := by omega
      have i2 : (k : Int) < (n : Int) := by omega
      obtain ⟨x, hx⟩ : ∃ x, l[k]? = some x := ⟨_, List.getElem?_eq_getElem (by rw [HL.out]; exact h1)⟩
      obtain ⟨b, off, rfl, hbB, f1, f2⟩ := span_cells hr hx
      have g1 := (hb.cell (p := ⟨b, off + k * 2, none⟩) hbB).trans f1
      have g2 := (hb.cell (p := ⟨b, off + k * 2 + 1, none⟩) hbB).trans f2
      have hbw : b < wr.heap.size := Nat.lt_of_lt_of_le hbB hb.size
      have GX := Lib.hid (getD_some (d := ((0, 0) : Int × Int)) hx)
      obtain ⟨x1, x2⟩ := x
      dsimp only at g1 g2
      clear hx f1 f2
      have bad : ¬ sok (x1, x2) → srtB l = false := fun h => srt_false (k := k) (by rw [HL.out]; exact h1) (fun h2 => h (by have := h2.1; rwa [GX.out] at this))
      have HBAD := Lib.hid bad
      clear bad
      by_cases c1 : x1 < -1099511627776
      · have e1 : decide (x1 < -1099511627776) = true := by simp [c1]
        go_wp2_with fail
        (refine wp_region_quiet_lit (by kernel_rfl) (by kernel_rfl) ?_; (repeat (any_goals (first | go_big_quiet_step (fail) | quiet_step (fail)))); all_goals (refine wpQuiet_nil ?_; intro _ hw'; obtain ⟨nq, hw''⟩ := hw'; subst hw''))
        go_wp2
        go_ret
        exact ⟨ret_bool (HBAD.out (by unfold sok; simp only; omega)).symm, (by repeat (first | with_reducible exact Below.refl _ _ | with_reducible assumption | (with_reducible exact Env.below (by assumption)) | (with_reducible refine below_new ?_ _) | (with_reducible refine below_drew ?_) | (with_reducible refine below_drewN ?_ _) | (with_reducible refine below_put ?_ ?_ _; rotate_left 1; (dsimp only; omega)) | (with_reducible refine below_then ?_ (by assumption))))⟩
      · have e1 : decide (x1 < -1099511627776) = false := by simp; omega
        by_cases c2 : 1099511627776 < x1
        · have e2 : decide (1099511627776 < x1) = true := by simp [c2]
          go_wp2_with fail
          (refine wp_region_quiet_lit (by kernel_rfl) (by kernel_rfl) ?_; (repeat (any_goals (first | go_big_quiet_step (fail) | quiet_step (fail)))); all_goals (refine wpQuiet_nil ?_; intro _ hw'; obtain ⟨nq, hw''⟩ := hw'; subst hw''))
          go_wp2
          go_ret
          exact ⟨ret_bool (HBAD.out (by unfold sok; simp only; omega)).symm, (by repeat (first | with_reducible exact Below.refl _ _ | with_reducible assumption | (with_reducible exact Env.below (by assumption)) | (with_reducible refine below_new ?_ _) | (with_reducible refine below_drew ?_) | (with_reducible refine below_drewN ?_ _) | (with_reducible refine below_put ?_ ?_ _; rotate_left 1; (dsimp only; omega)) | (with_reducible refine below_then ?_ (by assumption))))⟩
        · have e2 : decide (1099511627776 < x1) = false := by simp; omega
          by_cases c3 : x2 ≤ x1
          · have e3 : decide (x2 ≤ x1) = true := by simp [c3]
            go_wp2_with fail
            (refine wp_region_quiet_lit (by kernel_rfl) (by kernel_rfl) ?_; (repeat (any_goals (first | go_big_quiet_step (fail) | quiet_step (fail)))); all_goals (refine wpQuiet_nil ?_; intro _ hw'; obtain ⟨nq, hw''⟩ := hw'; subst hw''))
            go_wp2
            go_ret
            exact ⟨ret_bool (HBAD.out (by unfold sok; simp only; omega)).symm, (by repeat (first | with_reducible exact Below.refl _ _ | with_reducible assumption | (with_reducible exact Env.below (by assumption)) | (with_reducible refine below_new ?_ _) | (with_reducible refine below_drew ?_) | (with_reducible refine below_drewN ?_ _) | (with_reducible refine below_put ?_ ?_ _; rotate_left 1; (dsimp only; omega)) | (with_reducible refine below_then ?_ (by assumption))))⟩
          · have e3 : decide (x2 ≤ x1) = false := by simp; omega
            by_cases c4 : 1100585369600 < x2
            · have e4 : decide (1100585369600 < x2) = true := by simp [c4]
              go_wp2_with fail
              (refine wp_region_quiet_lit (by kernel_rfl) (by kernel_rfl) ?_; (repeat (any_goals (first | go_big_quiet_step (fail) | quiet_step (fail)))); all_goals (refine wpQuiet_nil ?_; intro _ hw'; obtain ⟨nq, hw''⟩ := hw'; subst hw''))
              go_wp2
              go_ret
              exact ⟨ret_bool (HBAD.out (by unfold sok; simp only; omega)).symm, (by repeat (first | with_reducible exact Below.refl _ _ | with_reducible assumption | (with_reducible exact Env.below (by assumption)) | (with_reducible refine below_new ?_ _) | (with_reducible refine below_drew ?_) | (with_reducible refine below_drewN ?_ _) | (with_reducible refine below_put ?_ ?_ _; rotate_left 1; (dsimp only; omega)) | (with_reducible refine below_then ?_ (by assumption))))⟩
            · have e4 : decide (1100585369600 < x2) = false := by simp; omega
              have hok : sok (x1, x2) := by unfold sok; simp only; omega
              have HOK := Lib.hid hok
              clear hok
              by_cases h0 : k = 0
              · have e5 : decide ((0 : Int) < (k : Int)) = false := by simp; omega
                have e5' : decide (0 < k) = false := by simp; omega
                have hnx : srk l (k + 1) := srk_succ HS.out (by rw [GX.out]; exact HOK.out) (fun h => by omega)
                have HNX := Lib.hid hnx
                clear hnx h0
                go_wp2_with fail
                (refine wp_region_quiet_lit (by kernel_rfl) (by kernel_rfl) ?_; (repeat (any_goals (first | go_big_quiet_step (fail) | quiet_step (fail)))); all_goals (refine wpQuiet_nil ?_; intro _ hw'; obtain ⟨nq, hw''⟩ := hw'; subst hw''))
                go_wp2
                go_roundw
                case rel => exact ⟨k + 1, by omega, by go_num, HNX.out, (by repeat (first | with_reducible exact Below.refl _ _ | with_reducible assumption | (with_reducible exact Env.below (by assumption)) | (with_reducible refine below_new ?_ _) | (with_reducible refine below_drew ?_) | (with_reducible refine below_drewN ?_ _) | (with_reducible refine below_put ?_ ?_ _; rotate_left 1; (dsimp only; omega)) | (with_reducible refine below_then ?_ (by assumption))))⟩
                case measure => simp [intOf]; omega
              · have e5 : decide ((0 : Int) < (k : Int)) = true := by simp; omega
                have e5' : decide (0 < k) = true := by simp; omega
                obtain ⟨p, hp⟩ : ∃ p, k = p + 1 := ⟨k - 1, by omega⟩
                have e6 : IntKind.i64.wrap ((k : Int) - 1) = (p : Int) := by rw [IntWalk.i64_in _ (by omega)]; omega
                have i3 : (0 : Int) ≤ (p : Int) := by omega
                have i4 : (p : Int) < (n : Int) := by omega
                obtain ⟨y, hy⟩ : ∃ y, l[p]? = some y := ⟨_, List.getElem?_eq_getElem (by rw [HL.out]; omega)⟩
                obtain ⟨b', off', e', _, f3, f4⟩ := span_cells hr hy
                simp only [Option.some.injEq, Addr.mk.injEq, and_true] at e'
                obtain ⟨rfl, rfl⟩ := e'
                have g4 := (hb.cell (p := ⟨b, off + p * 2 + 1, none⟩) hbB).trans f4
                have GY := Lib.hid (getD_some (d := ((0, 0) : Int × Int)) hy)
                obtain ⟨y1, y2⟩ := y
                dsimp only at g4
                have HP := Lib.hid hp
                clear hy f3 f4 hp
                by_cases c5 : x1 < y2
                · have e7 : decide (x1 < y2) = true := by simp [c5]
                  have hf : srtB l = false := srt_false (k := k) (by rw [HL.out]; exact h1) (fun h2 => by
                    have := h2.2 (by have := HP.out; omega)
                    rw [GX.out, show k - 1 = p by have := HP.out; omega, GY.out] at this
                    simp only at this
                    omega)
                  have HF := Lib.hid hf
                  clear hf
                  go_wp2_with fail
                  (refine wp_region_quiet_lit (by kernel_rfl) (by kernel_rfl) ?_; (repeat (any_goals (first | go_big_quiet_step (fail) | quiet_step (fail)))); all_goals (refine wpQuiet_nil ?_; intro _ hw'; obtain ⟨nq, hw''⟩ := hw'; subst hw''))
                  go_wp2
                  go_ret
                  exact ⟨ret_bool HF.out.symm, (by repeat (first | with_reducible exact Below.refl _ _ | with_reducible assumption | (with_reducible exact Env.below (by assumption)) | (with_reducible refine below_new ?_ _) | (with_reducible refine below_drew ?_) | (with_reducible refine below_drewN ?_ _) | (with_reducible refine below_put ?_ ?_ _; rotate_left 1; (dsimp only; omega)) | (with_reducible refine below_then ?_ (by assumption))))⟩
                · have e7 : decide (x1 < y2) = false := by simp; omega
                  have hnx : srk l (k + 1) := srk_succ HS.out (by rw [GX.out]; exact HOK.out) (fun h => by
                    rw [GX.out, show k - 1 = p by have := HP.out; omega, GY.out]
                    simp only
                    omega)
                  have HNX := Lib.hid hnx
                  clear hnx
                  go_wp2_with fail
                  (refine wp_region_quiet_lit (by kernel_rfl) (by kernel_rfl) ?_; (repeat (any_goals (first | go_big_quiet_step (fail) | quiet_step (fail)))); all_goals (refine wpQuiet_nil ?_; intro _ hw'; obtain ⟨nq, hw''⟩ := hw'; subst hw''))
                  go_wp2
                  go_roundw
                  case rel => exact ⟨k + 1, by omega, by go_num, HNX.out, (by repeat (first | with_reducible exact Below.refl _ _ | with_reducible assumption | (with_reducible exact Env.below (by assumption)) | (with_reducible refine below_new ?_ _) | (with_reducible refine below_drew ?_) | (with_reducible refine below_drewN ?_ _) | (with_reducible refine below_put ?_ ?_ _; rotate_left 1; (dsimp only; omega)) | (with_reducible refine below_then ?_ (by assumption))))⟩
                  case measure => simp [intOf]; omega
    · have d1 : decide ((k : Int) < (n : Int)) = false := by simp; omega
      have d1' : decide (k < n) = false := by simp [h1]
      have hkn : k = n := by omega
      by_cases hm : 4000 < n
      · have b0 : decide ((n : Int) ≤ (4000 : Int)) = false := by simp; omega
        have b0' : decide (n ≤ 4000) = false := by simp; omega
        have HB := Lib.hid (srt_many (l := l) (by rw [HL.out]; exact hm))
        go_wp2
        go_ret
        exact ⟨ret_bool HB.out.symm, hb⟩
      · have b0 : decide ((n : Int) ≤ (4000 : Int)) = true := by simp; omega
        have b0' : decide (n ≤ 4000) = true := by simp; omega
        have HA := Lib.hid (srt_all (l := l) (by rw [HL.out]; omega) (by rw [HL.out, ← hkn]; exact HS.out))
        clear hkn
        go_wp2
        go_ret
        exact ⟨ret_bool HA.out.symm, hb⟩
end Go.Proofs.Ytffehibdeogjeaa
