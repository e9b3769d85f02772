/- The contracts of the laws' helpers (chapter 18): at, keys, few, pushed. Condition: lists of at most 2^40 timers. -/
import Derived.Test.YtffehibdeogjeaaTimersPush
import Derived.Test.YtffehibdeogjeaaTimersUntil
import Derived.Test.YtffehibdeogjeaaTimersSorted
import Derived.Test.YtffehibdeogjeaaTimersRUntil
import Derived.Test.YtffehibdeogjeaaInts
namespace Go.Proofs.Ytffehibdeogjeaa
open Go.RowKit

theorem at_any (e k : Int) (w : World) : Calls Try.prog 35 #[.int .i64 e, .int .i64 k] w fun r w' => r = .returned (.agg #[.int .i64 0, .int .i64 e, .int .i64 k]) ∧ Below w.heap.size w w' := by
  go_enter Try.func35, Try.ntmps35
  go_wp2
  refine bodyPost_ret (v := _) (by rw [results_cell1 Try.results35]; go_simp) rfl ⟨rfl, (by repeat (first | with_reducible exact Below.refl _ _ | with_reducible assumption | (with_reducible exact Env.below (by assumption)) | (with_reducible refine below_new ?_ _) | (with_reducible refine below_drew ?_) | (with_reducible refine below_drewN ?_ _) | (with_reducible refine below_put ?_ ?_ _; rotate_left 1; (dsimp only; omega)) | (with_reducible refine below_then ?_ (by assumption))))⟩

set_option maxHeartbeats 4000000 in
theorem keys_any (A A' : Option Addr) (c c' n n' : Nat) (l : List Tm) (ks : List Int) (w : World) {B B' : Nat} (hln : l.length = n) (hkn : ks.length = n') (hl : Rd tenc 3 w B A l) (hk : Rd ienc 1 w B' A' ks) (hn : n ≤ 1099511627776) :
    Calls Try.prog 36 #[.slice A n c, .slice A' n' c'] w fun e w' => e = .returned (.bool (decide (l.map Tm.k = ks))) ∧ Below w.heap.size w w' := by
  have HL := Lib.hid hln; have HK := Lib.hid hkn
  clear hln hkn
  go_enter Try.func36, Try.ntmps36
  go_wp2
  go_loopw [5] (fun i wr => ∃ k : Nat, k ≤ n ∧ k ≤ n' ∧ i = .int .i64 k ∧ (l.take k).map Tm.k = ks.take k ∧ ∃ q : Nat, wr = w.drewN q) (fun i _ => n - (intOf i).toNat)
  case atStart => exact ⟨0, Nat.zero_le _, Nat.zero_le _, rfl, by simp, 0, rfl⟩
  case round =>
    obtain ⟨k, hk1, hk2, rfl, hall, q, rfl⟩ := hrel
    have HA := Lib.hid hall
    clear hall
    by_cases h1 : k < n
    · have b1 : decide ((k : Int) < (n : Int)) = true := by simp; omega
      have b1' : decide (k < n) = true := by simp [h1]
      by_cases h2 : k < n'
      · have b2 : decide ((k : Int) < (n' : Int)) = true := by simp; omega
        have b2' : decide (k < n') = true := by simp [h2]
        obtain ⟨x, hx⟩ : ∃ x, l[k]? = some x := ⟨_, List.getElem?_eq_getElem (by rw [HL.out]; exact h1)⟩
        obtain ⟨y, hy⟩ : ∃ y, ks[k]? = some y := ⟨_, List.getElem?_eq_getElem (by rw [HK.out]; exact h2)⟩
        obtain ⟨b, off, rfl, hb, f1, f2, f3⟩ := tm_cells hl hx
        obtain ⟨b', off', rfl, hb', g1⟩ := hk.at_ hy
        have g2 := g1 0 _ rfl
        simp only [Nat.mul_one, Nat.add_zero] at g2
        have i1 : (0 : Int) ≤ (k : Int) := by omega
        have i2 : (k : Int) < (n : Int) := by omega
        have i3 : (k : Int) < (n' : Int) := by omega
        have hm1 : (l.take (k + 1)).map Tm.k = (l.take k).map Tm.k ++ [x.k] := by
          rw [List.take_add_one, hx]; simp
        have hm2 : ks.take (k + 1) = ks.take k ++ [y] := by rw [List.take_add_one, hy]; rfl
        have H1 := Lib.hid hm1; have H2 := Lib.hid hm2
        have hcan : ks.take (k + 1) ≠ (l.take (k + 1)).map Tm.k → ¬ l.map Tm.k = ks := by
          intro h e
          exact h (by rw [← e, List.map_take])
        have HC := Lib.hid hcan
        clear hx hy hm1 hm2 g1 hl hk hcan
        by_cases he : x.k = y
        · have b3 : (x.k != y) = false := by simp [he]
          go_wp2
          (refine wp_region_quiet_lit (by kernel_rfl) (by kernel_rfl) ?_; (repeat (any_goals (first | go_big_quiet_step (fail) | quiet_step (fail)))); all_goals (refine wpQuiet_nil ?_; intro _ hw'; obtain ⟨nq, hw''⟩ := hw'; subst hw''))
          go_wp2
          go_roundw
          case rel => exact ⟨k + 1, by omega, by omega, by go_num, by rw [H1.out, H2.out, HA.out, he], _, rfl⟩
          case measure => simp [intOf]; omega
        · have b3 : (x.k != y) = true := by simp [he]
          go_wp2
          (refine wp_region_quiet_lit (by kernel_rfl) (by kernel_rfl) ?_; (repeat (any_goals (first | go_big_quiet_step (fail) | quiet_step (fail)))); all_goals (refine wpQuiet_nil ?_; intro _ hw'; obtain ⟨nq, hw''⟩ := hw'; subst hw''))
          go_wp2
          go_ret
          exact ⟨ret_bool (by have := HC.out (by rw [H1.out, H2.out, HA.out]; intro e; simp at e; exact he e.symm); simp [this]), (by repeat (first | with_reducible exact Below.refl _ _ | with_reducible assumption | (with_reducible exact Env.below (by assumption)) | (with_reducible refine below_new ?_ _) | (with_reducible refine below_drew ?_) | (with_reducible refine below_drewN ?_ _) | (with_reducible refine below_put ?_ ?_ _; rotate_left 1; (dsimp only; omega)) | (with_reducible refine below_then ?_ (by assumption))))⟩
      · have b2 : decide ((k : Int) < (n' : Int)) = false := by simp; omega
        have b2' : decide (k < n') = false := by simp [h2]
        have b4 : ((n : Int) == (n' : Int)) = false := by simp; omega
        go_wp2
        go_ret
        exact ⟨ret_bool (by have : ¬ l.map Tm.k = ks := fun e => by { have := congrArg List.length e; rw [List.length_map, HL.out, HK.out] at this; omega }; simp [this]), (by repeat (first | with_reducible exact Below.refl _ _ | with_reducible assumption | (with_reducible exact Env.below (by assumption)) | (with_reducible refine below_new ?_ _) | (with_reducible refine below_drew ?_) | (with_reducible refine below_drewN ?_ _) | (with_reducible refine below_put ?_ ?_ _; rotate_left 1; (dsimp only; omega)) | (with_reducible refine below_then ?_ (by assumption))))⟩
    · have b1 : decide ((k : Int) < (n : Int)) = false := by simp; omega
      have b1' : decide (k < n) = false := by simp [h1]
      by_cases h2 : n = n'
      · have b4 : ((n : Int) == (n' : Int)) = true := by simp [h2]
        have hall := HA.out
        rw [List.take_of_length_le (by rw [HL.out]; omega), List.take_of_length_le (by rw [HK.out]; omega)] at hall
        have HA2 := Lib.hid hall
        clear hall h2
        go_wp2
        go_ret
        exact ⟨ret_bool (by simp [HA2.out]), (by repeat (first | with_reducible exact Below.refl _ _ | with_reducible assumption | (with_reducible exact Env.below (by assumption)) | (with_reducible refine below_new ?_ _) | (with_reducible refine below_drew ?_) | (with_reducible refine below_drewN ?_ _) | (with_reducible refine below_put ?_ ?_ _; rotate_left 1; (dsimp only; omega)) | (with_reducible refine below_then ?_ (by assumption))))⟩
      · have b4 : ((n : Int) == (n' : Int)) = false := by simp; omega
        go_wp2
        go_ret
        exact ⟨ret_bool (by have : ¬ l.map Tm.k = ks := fun e => by { have := congrArg List.length e; rw [List.length_map, HL.out, HK.out] at this; omega }; simp [this]), (by repeat (first | with_reducible exact Below.refl _ _ | with_reducible assumption | (with_reducible exact Env.below (by assumption)) | (with_reducible refine below_new ?_ _) | (with_reducible refine below_drew ?_) | (with_reducible refine below_drewN ?_ _) | (with_reducible refine below_put ?_ ?_ _; rotate_left 1; (dsimp only; omega)) | (with_reducible refine below_then ?_ (by assumption))))⟩

set_option maxHeartbeats 4000000 in
theorem few_any (A : Option Addr) (c n : Nat) (l : List Tm) (w : World) (hln : l.length = n) (hl : Rd tenc 3 w w.heap.size A l) :
    Calls Try.prog 37 #[.slice A n c] w fun e w' => e = .returned (.bool (decide (n ≤ 60 ∧ ∀ t ∈ l, tok t))) ∧ Below w.heap.size w w' := by
  have HL := Lib.hid hln
  clear hln
  go_enter Try.func37, Try.ntmps37
  go_wp2
  go_loopw [3] (fun i wr => ∃ k : Nat, k ≤ n ∧ k ≤ 60 ∧ i = .int .i64 k ∧ (∀ t ∈ l.take k, tok t) ∧ Below w.heap.size w wr) (fun i _ => n - (intOf i).toNat)
  case atStart => exact ⟨0, Nat.zero_le _, Nat.zero_le _, rfl, by simp, Below.refl _ _⟩
  case round =>
    obtain ⟨k, hk1, hk2, rfl, hall, hb⟩ := hrel
    have HA := Lib.hid hall
    clear hall
    by_cases h1 : k < n
    · have b1 : decide ((k : Int) < (n : Int)) = true := by simp; omega
      have b1' : decide (k < n) = true := by simp [h1]
      by_cases h2 : k < 60
      · have b2 : decide ((k : Int) < (60 : Int)) = true := by simp; omega
        have b2' : decide (k < 60) = true := by simp [h2]
        obtain ⟨x, hx⟩ : ∃ x, l[k]? = some x := ⟨_, List.getElem?_eq_getElem (by rw [HL.out]; exact h1)⟩
        obtain ⟨b, off, rfl, hbB, f1, f2, f3⟩ := tm_cells hl hx
        have d1 := (hb.cell (p := ⟨b, off + k * 3, none⟩) hbB).trans f1
        have d2 := (hb.cell (p := ⟨b, off + k * 3 + 1, none⟩) hbB).trans f2
        have d3 := (hb.cell (p := ⟨b, off + k * 3 + 2, none⟩) hbB).trans f3
        have i1 : (0 : Int) ≤ (k : Int) := by omega
        have i2 : (k : Int) < (n : Int) := by omega
        have hm1 : l.take (k + 1) = l.take k ++ [x] := by rw [List.take_add_one, hx]; rfl
        have hmem : x ∈ l := List.mem_of_getElem? hx
        have H1 := Lib.hid hm1; have HM := Lib.hid hmem
        clear hx hm1 hl f1 f2 f3 hmem
        by_cases hok : tok x
        · have b3 : decide (tok x) = true := by simp [hok]
          have HOK := Lib.hid hok
          clear hok
          go_wp2_with (go_at_call 27; refine (rtright_any x _).mono ?_; rintro e w1 ⟨rfl, hb1⟩)
          go_roundw
          case rel => exact ⟨k + 1, by omega, by omega, by go_num, by rw [H1.out]; intro t ht; rcases List.mem_append.1 ht with h | h; exact HA.out t h; (simp at h; exact h ▸ HOK.out), below_then hb hb1⟩
          case measure => simp [intOf]; omega
        · have b3 : decide (tok x) = false := by simp [hok]
          have HOK := Lib.hid hok
          clear hok
          go_wp2_with (go_at_call 27; refine (rtright_any x _).mono ?_; rintro e w1 ⟨rfl, hb1⟩)
          go_ret
          exact ⟨ret_bool (by symm; rw [decide_eq_false_iff_not]; intro h; exact HOK.out (h.2 x HM.out)), below_then hb hb1⟩
      · have b2 : decide ((k : Int) < (60 : Int)) = false := by simp; omega
        have b2' : decide (k < 60) = false := by simp [h2]
        have b3 : decide ((n : Int) ≤ (60 : Int)) = false := by simp; omega
        have b3' : decide (n ≤ 60) = false := by simp; omega
        go_wp2
        go_ret
        exact ⟨ret_bool (by symm; rw [decide_eq_false_iff_not]; intro h; omega), hb⟩
    · have b1 : decide ((k : Int) < (n : Int)) = false := by simp; omega
      have b1' : decide (k < n) = false := by simp [h1]
      have b3 : decide ((n : Int) ≤ (60 : Int)) = true := by simp; omega
      have b3' : decide (n ≤ 60) = true := by simp; omega
      have hall := HA.out
      rw [List.take_of_length_le (by rw [HL.out]; omega)] at hall
      have HA2 := Lib.hid hall
      clear hall
      go_wp2
      go_ret
      exact ⟨ret_bool (by symm; rw [decide_eq_true_eq]; exact ⟨by omega, HA2.out⟩), hb⟩

/-- Pushing one after the other. -/
noncomputable def pushGo : List Tm → List Tm → List Tm × Bool
  | h, [] => (h, true)
  | h, x :: xs => if (tpush h x).2 = 0 then pushGo (tpush h x).1 xs else ([], false)
theorem tpush_len (h : List Tm) (x : Tm) : (tpush h x).1.length ≤ h.length + 1 := by
  unfold tpush
  split; simp
  split; simp
  split; simp
  simp [pushL_length]
theorem tpush_err (h : List Tm) (x : Tm) : 0 ≤ (tpush h x).2 ∧ (tpush h x).2 ≤ 18 := by
  unfold tpush
  rcases tck_range h with e | e | e <;> rw [e] <;> (repeat' split) <;> simp_all

set_option maxHeartbeats 8000000 in
theorem pushed_any (A : Option Addr) (c n : Nat) (l : List Tm) (w : World) (hln : l.length = n) (hr : Rd tenc 3 w w.heap.size A l) (hn : n ≤ 1099511627776) :
    Calls Try.prog 38 #[.slice A n c] w fun e w' => ∃ v, e = .returned (.tuple #[v, .bool (pushGo [] l).2]) ∧ Own tenc 3 w' w.heap.size 34 v (pushGo [] l).1 ∧ Below w.heap.size w w' := by
  have HL := Lib.hid hln
  clear hln
  go_enter Try.func38, Try.ntmps38
  go_wp2
  go_loopw [4, 5] (fun h i wr => ∃ (k : Nat) (hs : List Tm), k ≤ n ∧ i = .int .i64 k ∧ hs.length ≤ k ∧ Own tenc 3 wr w.heap.size 34 h hs ∧ pushGo hs (l.drop k) = pushGo [] l ∧ Below w.heap.size w wr) (fun _ i _ => n - (intOf i).toNat)
  case atStart => exact ⟨0, [], Nat.zero_le _, rfl, Nat.le_refl _, Own.nil _ _ _, by simp, Below.refl _ _⟩
  case round =>
    obtain ⟨k, hs, hk, rfl, hhk, howh, hgo, hb⟩ := hrel
    have HG := Lib.hid hgo
    clear hgo
    by_cases h1 : k < n
    · have b1 : decide ((k : Int) < (n : Int)) = true := by simp; omega
      have b1' : decide (k < n) = true := by simp [h1]
      obtain ⟨x, hx⟩ : ∃ x, l[k]? = some x := ⟨_, List.getElem?_eq_getElem (by rw [HL.out]; exact h1)⟩
      obtain ⟨b, off, rfl, hbB, f1, f2, f3⟩ := tm_cells hr hx
      have d1 := (hb.cell (p := ⟨b, off + k * 3, none⟩) hbB).trans f1
      have d2 := (hb.cell (p := ⟨b, off + k * 3 + 1, none⟩) hbB).trans f2
      have d3 := (hb.cell (p := ⟨b, off + k * 3 + 2, none⟩) hbB).trans f3
      have hdr : l.drop k = x :: l.drop (k + 1) := by
        have hkl : k < l.length := by rw [HL.out]; exact h1
        rw [List.getElem?_eq_getElem hkl] at hx
        rw [List.drop_eq_getElem_cons hkl, Option.some.inj hx]
      have HD := Lib.hid hdr
      have i1 : (0 : Int) ≤ (k : Int) := by omega
      have i2 : (k : Int) < (n : Int) := by omega
      obtain ⟨Ah, ch, rfl⟩ := own_shape howh
      obtain ⟨q, hq⟩ : ∃ q, q = (tpush hs x).2 := ⟨_, rfl⟩
      have HQ := Lib.hid hq
      by_cases h0 : q = 0
      · have b2 : (q != 0) = false := by simp [h0]
        have hg2 : pushGo (tpush hs x).1 (l.drop (k + 1)) = pushGo [] l := by rw [← HG.out, HD.out, pushGo, if_pos (by rw [← HQ.out, h0])]
        have HG2 := Lib.hid hg2
        clear hx hdr hq h0 f1 f2 f3 hr hg2
        go_wp2_with (go_at_call 28; refine (push_any Ah ch hs x _ (by omega) (Own.rd tenc_len howh)).mono ?_; rw [← HQ.out]; rintro e w1 ⟨v1, rfl, hown1, hb1⟩)
        go_roundw
        case rel => exact ⟨k + 1, (tpush hs x).1, by omega, by go_num, by have := tpush_len hs x; omega, hown1.mono hb.size, HG2.out, below_then hb hb1⟩
        case measure => simp [intOf]; omega
      · have b2 : (q != 0) = true := by simp [h0]
        have hg2 : pushGo [] l = ([], false) := by rw [← HG.out, HD.out, pushGo, if_neg (by rw [← HQ.out]; exact h0)]
        have HG2 := Lib.hid hg2
        clear hx hdr hq h0 f1 f2 f3 hr hg2
        go_wp2_with (go_at_call 28; refine (push_any Ah ch hs x _ (by omega) (Own.rd tenc_len howh)).mono ?_; rw [← HQ.out]; rintro e w1 ⟨v1, rfl, hown1, hb1⟩)
        go_ret2
        exact ⟨.slice none 0 0, by rw [HG2.out]; rfl, by rw [HG2.out]; exact Own.nil _ _ _, below_then hb hb1⟩
    · have b1 : decide ((k : Int) < (n : Int)) = false := by simp; omega
      have b1' : decide (k < n) = false := by simp [h1]
      have hg2 : pushGo [] l = (hs, true) := by rw [← HG.out, List.drop_of_length_le (by rw [HL.out]; omega)]; rfl
      have HG2 := Lib.hid hg2
      clear hg2
      go_wp2
      go_ret2
      rw [HG2.out]
      exact ⟨_, rfl, howh, hb⟩
end Go.Proofs.Ytffehibdeogjeaa
