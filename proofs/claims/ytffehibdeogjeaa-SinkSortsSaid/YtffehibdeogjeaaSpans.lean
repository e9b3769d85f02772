/- Lists of spans: the contract of the reference's Same (chapter 14). Condition: lists of at most 2^62 spans. -/
import Derived.Test.YtffehibdeogjeaaOpen
namespace Go.Proofs.Ytffehibdeogjeaa
open Go.RowKit

def senc (s : Int × Int) : List Value := [.int .i64 s.1, .int .i64 s.2]
theorem span_cells {w : World} {B : Nat} {A : Option Addr} {l : List (Int × Int)} (h : Rd senc 2 w B A l) {k : Nat} {x : Int × Int} (hx : l[k]? = some x) :
    ∃ b off, A = some ⟨b, off, none⟩ ∧ b < B ∧ w.cell? ⟨b, off + k * 2, none⟩ = some (.int .i64 x.1) ∧ w.cell? ⟨b, off + k * 2 + 1, none⟩ = some (.int .i64 x.2) := by
  obtain ⟨b, off, e, hb, hc⟩ := h.at_ hx
  exact ⟨b, off, e, hb, by simpa using hc 0 _ rfl, hc 1 _ rfl⟩

def spansEq (l m : List (Int × Int)) : Bool := decide (l = m)

set_option maxHeartbeats 2000000 in
theorem same_any (A A' : Option Addr) (c c' : Nat) (l m : List (Int × Int)) (w : World) (hl : Rd senc 2 w w.heap.size A l) (hm : Rd senc 2 w w.heap.size A' m) (hn : l.length ≤ 4611686018427387904) :
    Calls Try.prog 63 #[.slice A l.length c, .slice A' m.length c'] w fun e w' => e = .returned (.bool (spansEq l m)) ∧ Below w.heap.size w w' := by
  by_cases hlen : l.length = m.length
  · have h1 : ((l.length : Int) != (m.length : Int)) = false := by simp [hlen]
    obtain ⟨n, hn'⟩ : ∃ n, n = l.length := ⟨_, rfl⟩
    have hlm := hlen.symm.trans hn'.symm
    rw [← hn'] at h1 hn ⊢
    rw [hlm] at h1 ⊢
    have hl' := Lib.hid hn'; have hm' := Lib.hid hlm
    clear hlen hn' hlm h1
    go_enter Try.func63, Try.ntmps63
    go_wp2
    go_loopw [5] (fun i wr => ∃ k : Nat, k ≤ n ∧ i = .int .i64 k ∧ l.take k = m.take k ∧ ∃ q : Nat, wr = w.drewN q) (fun i _ => n - (intOf i).toNat)
    case atStart => exact ⟨0, Nat.zero_le _, rfl, by simp, 0, rfl⟩
    case round =>
      obtain ⟨k, hk, rfl, hall, q, rfl⟩ := hrel
      by_cases hlt : k < n
      · have hkl : k < l.length := by rw [← hl'.out]; exact hlt
        have hkm : k < m.length := by rw [hm'.out]; exact hlt
        have hx := List.getElem?_eq_getElem hkl
        have hy := List.getElem?_eq_getElem hkm
        have hts : ∀ (e : l[k] = m[k]), l.take (k + 1) = m.take (k + 1) := fun e => by
          rw [List.take_succ_eq_append_getElem hkl, List.take_succ_eq_append_getElem hkm, hall, e]
        have htn : ∀ (e : l[k] ≠ m[k]), l ≠ m := fun e h => by subst h; exact e rfl
        obtain ⟨b, off, rfl, hb, f1, f2⟩ := span_cells hl hx
        obtain ⟨b', off', rfl, hb', g1, g2⟩ := span_cells hm hy
        obtain ⟨x, hxe⟩ : ∃ x, x = l[k] := ⟨_, rfl⟩
        obtain ⟨y, hye⟩ : ∃ y, y = m[k] := ⟨_, rfl⟩
        rw [← hxe] at f1 f2 hts htn
        rw [← hye] at g1 g2 hts htn
        have T1 := Lib.hid hts; have T2 := Lib.hid htn
        clear hl hm hall hx hy hts htn hxe hye hkl hkm
        obtain ⟨x1, x2⟩ := x
        obtain ⟨y1, y2⟩ := y
        dsimp only at f1 f2 g1 g2
        by_cases h1 : x1 = y1
        · by_cases h2 : x2 = y2
          · subst h1 h2
            go_wp2
            go_quiet (fail)
            go_wp2
            go_roundw
            case rel => exact ⟨k + 1, by omega, by go_num, T1.out (by simp), _, rfl⟩
            case measure => simp [intOf]; omega
          · subst h1
            go_wp2
            go_quiet (fail)
            go_wp2
            go_ret
            exact ⟨ret_bool (by have := T2.out (by simp [h2]); simp [spansEq, this]), (by repeat (first | exact Below.refl _ _ | assumption | (with_reducible exact Env.below (by assumption)) | (with_reducible refine below_new ?_ _) | (with_reducible refine below_drew ?_) | (with_reducible refine below_drewN ?_ _) | (with_reducible refine below_put ?_ ?_ _; rotate_left 1; (dsimp only; omega)) | (refine below_then ?_ (by assumption))))⟩
        · go_wp2
          go_quiet (fail)
          go_wp2
          go_ret
          exact ⟨ret_bool (by have := T2.out (by simp [h1]); simp [spansEq, this]), (by repeat (first | exact Below.refl _ _ | assumption | (with_reducible exact Env.below (by assumption)) | (with_reducible refine below_new ?_ _) | (with_reducible refine below_drew ?_) | (with_reducible refine below_drewN ?_ _) | (with_reducible refine below_put ?_ ?_ _; rotate_left 1; (dsimp only; omega)) | (refine below_then ?_ (by assumption))))⟩
      · have hkn : k = n := by omega
        rw [hkn] at hall
        rw [List.take_of_length_le (by have := hl'.out; omega), List.take_of_length_le (by have := hm'.out; omega)] at hall
        have H := Lib.hid hall
        clear hall hkn
        go_wp2
        go_ret
        exact ⟨ret_bool (by simp [spansEq, H.out]), (by repeat (first | exact Below.refl _ _ | assumption | (with_reducible exact Env.below (by assumption)) | (with_reducible refine below_new ?_ _) | (with_reducible refine below_drew ?_) | (with_reducible refine below_drewN ?_ _) | (with_reducible refine below_put ?_ ?_ _; rotate_left 1; (dsimp only; omega)) | (refine below_then ?_ (by assumption))))⟩
  · have h1 : ((l.length : Int) != (m.length : Int)) = true := by simp; omega
    have H := Lib.hid hlen
    clear hlen
    go_enter Try.func63, Try.ntmps63
    go_wp2
    go_ret
    exact ⟨ret_bool (by have : ¬ l = m := fun e => H.out (by rw [e]); simp [spansEq, this]), (by repeat (first | exact Below.refl _ _ | assumption | (with_reducible exact Env.below (by assumption)) | (with_reducible refine below_new ?_ _) | (with_reducible refine below_drew ?_) | (with_reducible refine below_drewN ?_ _) | (with_reducible refine below_put ?_ ?_ _; rotate_left 1; (dsimp only; omega)) | (refine below_then ?_ (by assumption))))⟩
end Go.Proofs.Ytffehibdeogjeaa
