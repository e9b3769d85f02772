/- The contracts of the reference of the timers (chapter 18): the order, the comparing of lists. Condition: lists of at most 2^40 timers. -/
import Derived.Test.YtffehibdeogjeaaTimersCheck
namespace Go.Proofs.Ytffehibdeogjeaa
open Go.RowKit

set_option maxHeartbeats 2000000 in
theorem rless_any (k1 s1 e1 k2 s2 e2 : Int) (a0 a1 a2 a3 a4 a5 a6 a7 b0 b1 b2 b3 b4 b5 b6 b7 : Int) (w : World) :
    Calls Try.prog 76 #[.agg #[.int .i64 k1, .int .i64 s1, .int .i64 e1, .int .i64 a0, .int .i64 a1, .int .i64 a2, .int .i64 a3, .int .i64 a4, .int .i64 a5, .int .i64 a6, .int .i64 a7],
        .agg #[.int .i64 k2, .int .i64 s2, .int .i64 e2, .int .i64 b0, .int .i64 b1, .int .i64 b2, .int .i64 b3, .int .i64 b4, .int .i64 b5, .int .i64 b6, .int .i64 b7]] w
      fun e w' => e = .returned (.bool (tlt ⟨s1, e1, k1⟩ ⟨s2, e2, k2⟩)) ∧ Below w.heap.size w w' := by
  by_cases h1 : e1 = e2
  · have b1 : (e1 != e2) = false := by simp [h1]
    have H1 := Lib.hid h1
    clear h1
    by_cases h2 : s1 = s2
    · have b2 : (s1 != s2) = false := by simp [h2]
      have H2 := Lib.hid h2
      clear h2
      go_enter Try.func76, Try.ntmps76
      go_wp2
      go_ret
      exact ⟨ret_bool (by have h1 := H1.out; have h2 := H2.out; subst h1 h2; simp [tlt]), (by repeat (first | exact Below.refl _ _ | assumption | (with_reducible exact Env.below (by assumption)) | (with_reducible refine below_new ?_ _) | (with_reducible refine below_drew ?_) | (with_reducible refine below_drewN ?_ _) | (with_reducible refine below_put ?_ ?_ _; rotate_left 1; (dsimp only; omega)) | (refine below_then ?_ (by assumption))))⟩
    · have b2 : (s1 != s2) = true := by simp [h2]
      have H2 := Lib.hid h2
      clear h2
      go_enter Try.func76, Try.ntmps76
      go_wp2
      go_ret
      exact ⟨ret_bool (by have h1 := H1.out; have h2 := H2.out; subst h1; simp [tlt, h2]), (by repeat (first | exact Below.refl _ _ | assumption | (with_reducible exact Env.below (by assumption)) | (with_reducible refine below_new ?_ _) | (with_reducible refine below_drew ?_) | (with_reducible refine below_drewN ?_ _) | (with_reducible refine below_put ?_ ?_ _; rotate_left 1; (dsimp only; omega)) | (refine below_then ?_ (by assumption))))⟩
  · have b1 : (e1 != e2) = true := by simp [h1]
    have H1 := Lib.hid h1
    clear h1
    go_enter Try.func76, Try.ntmps76
    go_wp2
    go_ret
    exact ⟨ret_bool (by have h1 := H1.out; simp [tlt, h1]), (by repeat (first | exact Below.refl _ _ | assumption | (with_reducible exact Env.below (by assumption)) | (with_reducible refine below_new ?_ _) | (with_reducible refine below_drew ?_) | (with_reducible refine below_drewN ?_ _) | (with_reducible refine below_put ?_ ?_ _; rotate_left 1; (dsimp only; omega)) | (refine below_then ?_ (by assumption))))⟩

set_option maxHeartbeats 2000000 in
theorem rtless_any (a b : Tm) (w : World) :
    Calls Try.prog 29 #[.agg #[.int .i64 a.s, .int .i64 a.e, .int .i64 a.k], .agg #[.int .i64 b.s, .int .i64 b.e, .int .i64 b.k]] w fun e w' => e = .returned (.bool (tlt a b)) ∧ Below w.heap.size w w' := by
  have hL : Loc w [] := trivial
  go_enter Try.func29, Try.ntmps29
  go_wp2_with (go_at_call 76; refine (rless_any _ _ _ _ _ _ _ _ _ _ _ _ _ _ _ _ _ _ _ _ _ _ _).mono ?_; rintro r w1 ⟨rfl, hb1⟩; replace hL := (by with_reducible first | exact hL.below hb1 | exact (hL.new _ _).below hb1 | exact ((hL.new _ _).new _ _).below hb1 | exact (((hL.new _ _).new _ _).new _ _).below hb1 | exact ((((hL.new _ _).new _ _).new _ _).new _ _).below hb1); (repeat rw [World.size_alloc] at hL); have hF := hL; (repeat unfold Loc at hF))
  go_ret
  exact ⟨rfl, (by repeat (first | exact Below.refl _ _ | assumption | (with_reducible exact Env.below (by assumption)) | (with_reducible refine below_new ?_ _) | (with_reducible refine below_drew ?_) | (with_reducible refine below_drewN ?_ _) | (with_reducible refine below_put ?_ ?_ _; rotate_left 1; (dsimp only; omega)) | (refine below_then ?_ (by assumption))))⟩

def tmsEq (l m : List Tm) : Bool := decide (l = m)
set_option maxHeartbeats 4000000 in
theorem tsame_any (A A' : Option Addr) (c c' : Nat) (l m : List Tm) (w : World) (hl : Rd tenc 3 w w.heap.size A l) (hm : Rd tenc 3 w w.heap.size A' m) (hn : l.length ≤ 4611686018427387904) :
    Calls Try.prog 25 #[.slice A l.length c, .slice A' m.length c'] w fun e w' => e = .returned (.bool (tmsEq l m)) ∧ Below w.heap.size w w' := by
  by_cases hlen : l.length = m.length
  · have h1 : ((l.length : Int) != (m.length : Int)) = false := by simp [hlen]
    obtain ⟨n, hn'⟩ : ∃ n, n = l.length := ⟨_, rfl⟩
    have hlm := hlen.symm.trans hn'.symm
    rw [← hn'] at h1 hn ⊢
    rw [hlm] at h1 ⊢
    have hl' := Lib.hid hn'; have hm' := Lib.hid hlm
    clear hlen hn' hlm h1
    go_enter Try.func25, Try.ntmps25
    go_wp2
    go_loopw [5] (fun i wr => ∃ k : Nat, k ≤ n ∧ i = .int .i64 k ∧ l.take k = m.take k ∧ ∃ q : Nat, wr = w.drewN q) (fun i _ => n - (intOf i).toNat)
    case atStart => exact ⟨0, Nat.zero_le _, rfl, by simp, 0, rfl⟩
    case round =>
      obtain ⟨k, hk, rfl, hall, q, rfl⟩ := hrel
      by_cases hlt : k < n
      · have hkl : k < l.length := by rw [← hl'.out]; exact hlt
        have hkm : k < m.length := by rw [hm'.out]; exact hlt
        have hx := List.getElem?_eq_getElem hkl
        have hy := List.getElem?_eq_getElem hkm
        have hts : ∀ (e : l[k] = m[k]), l.take (k + 1) = m.take (k + 1) := fun e => by
          rw [List.take_succ_eq_append_getElem hkl, List.take_succ_eq_append_getElem hkm, hall, e]
        have htn : ∀ (e : l[k] ≠ m[k]), l ≠ m := fun e h => by subst h; exact e rfl
        obtain ⟨b, off, rfl, hb, f1, f2, f3⟩ := tm_cells hl hx
        obtain ⟨b', off', rfl, hb', g1, g2, g3⟩ := tm_cells hm hy
        obtain ⟨x, hxe⟩ : ∃ x, x = l[k] := ⟨_, rfl⟩
        obtain ⟨y, hye⟩ : ∃ y, y = m[k] := ⟨_, rfl⟩
        rw [← hxe] at f1 f2 f3 hts htn
        rw [← hye] at g1 g2 g3 hts htn
        have T1 := Lib.hid hts; have T2 := Lib.hid htn
        clear hl hm hall hx hy hts htn hxe hye hkl hkm
        obtain ⟨x1, x2, x3⟩ := x
        obtain ⟨y1, y2, y3⟩ := y
        dsimp only at f1 f2 f3 g1 g2 g3
        by_cases h1 : x1 = y1
        · by_cases h2 : x2 = y2
          · by_cases h3 : x3 = y3
            · subst h1 h2 h3
              go_wp2
              go_quiet (fail)
              go_wp2
              go_roundw
              case rel => exact ⟨k + 1, by omega, by go_num, T1.out (by simp), _, rfl⟩
              case measure => simp [intOf]; omega
            · subst h1 h2
              go_wp2
              go_quiet (fail)
              go_wp2
              go_ret
              exact ⟨ret_bool (by have := T2.out (by simp [h3]); simp [tmsEq, this]), (by repeat (first | exact Below.refl _ _ | assumption | (with_reducible exact Env.below (by assumption)) | (with_reducible refine below_new ?_ _) | (with_reducible refine below_drew ?_) | (with_reducible refine below_drewN ?_ _) | (with_reducible refine below_put ?_ ?_ _; rotate_left 1; (dsimp only; omega)) | (refine below_then ?_ (by assumption))))⟩
          · subst h1
            go_wp2
            go_quiet (fail)
            go_wp2
            go_ret
            exact ⟨ret_bool (by have := T2.out (by simp [h2]); simp [tmsEq, this]), (by repeat (first | exact Below.refl _ _ | assumption | (with_reducible exact Env.below (by assumption)) | (with_reducible refine below_new ?_ _) | (with_reducible refine below_drew ?_) | (with_reducible refine below_drewN ?_ _) | (with_reducible refine below_put ?_ ?_ _; rotate_left 1; (dsimp only; omega)) | (refine below_then ?_ (by assumption))))⟩
        · go_wp2
          go_quiet (fail)
          go_wp2
          go_ret
          exact ⟨ret_bool (by have := T2.out (by simp [h1]); simp [tmsEq, this]), (by repeat (first | exact Below.refl _ _ | assumption | (with_reducible exact Env.below (by assumption)) | (with_reducible refine below_new ?_ _) | (with_reducible refine below_drew ?_) | (with_reducible refine below_drewN ?_ _) | (with_reducible refine below_put ?_ ?_ _; rotate_left 1; (dsimp only; omega)) | (refine below_then ?_ (by assumption))))⟩
      · have hkn : k = n := by omega
        rw [hkn] at hall
        rw [List.take_of_length_le (by have := hl'.out; omega), List.take_of_length_le (by have := hm'.out; omega)] at hall
        have H := Lib.hid hall
        clear hall hkn
        go_wp2
        go_ret
        exact ⟨ret_bool (by simp [tmsEq, H.out]), (by repeat (first | exact Below.refl _ _ | assumption | (with_reducible exact Env.below (by assumption)) | (with_reducible refine below_new ?_ _) | (with_reducible refine below_drew ?_) | (with_reducible refine below_drewN ?_ _) | (with_reducible refine below_put ?_ ?_ _; rotate_left 1; (dsimp only; omega)) | (refine below_then ?_ (by assumption))))⟩
  · have h1 : ((l.length : Int) != (m.length : Int)) = true := by simp; omega
    have H := Lib.hid hlen
    clear hlen
    go_enter Try.func25, Try.ntmps25
    go_wp2
    go_ret
    exact ⟨ret_bool (by have : ¬ l = m := fun e => H.out (by rw [e]); simp [tmsEq, this]), (by repeat (first | exact Below.refl _ _ | assumption | (with_reducible exact Env.below (by assumption)) | (with_reducible refine below_new ?_ _) | (with_reducible refine below_drew ?_) | (with_reducible refine below_drewN ?_ _) | (with_reducible refine below_put ?_ ?_ _; rotate_left 1; (dsimp only; omega)) | (refine below_then ?_ (by assumption))))⟩
end Go.Proofs.Ytffehibdeogjeaa
