/- Lemmas and contracts that the later texts use: Tumble, Accums, Accums2, Windows, Spans, SlideRef, SlideRef2, joined into one text. The conditions of each stand at its head. -/
import Derived.Test.YtffehibdeogjeaaKitA
/- The contracts of the tumbling windows (chapter 13) and of their reference: what each function returns for every time and size. No condition. -/
namespace Go.Proofs.Ytffehibdeogjeaa
open Go.RowKit

def tchk (t size : Int) : Int := if size < 1 ∨ 1073741824 < size then 2 else if t < -1099511627776 ∨ 1099511627776 < t then 16 else 0
def tnum (t size : Int) : Int := if tchk t size = 0 then t / size else 0
def tspan (t size : Int) : Int × Int := if tchk t size = 0 then (t / size * size, t / size * size + size) else (0, 0)

theorem tchk_zero {t size : Int} : tchk t size = 0 ↔ 1 ≤ size ∧ size ≤ 1073741824 ∧ -1099511627776 ≤ t ∧ t ≤ 1099511627776 := by
  unfold tchk; split
  · constructor <;> intro h <;> omega
  · split
    · constructor <;> intro h <;> omega
    · constructor <;> intro h <;> omega

theorem tdiv_floor {t s : Int} (h : 0 < s) (h2 : t.tmod s < 0) : t.tdiv s - 1 = t / s := by
  have := Int.tdiv_eq_ediv (a := t) (b := s)
  have h3 := Int.tmod_eq_emod (a := t) (b := s)
  split at this
  · rename_i hh
    rw [if_pos (by simpa using hh)] at h3
    have := Int.emod_nonneg t (by omega : s ≠ 0); omega
  · rw [Int.sign_eq_one_of_pos h] at this; omega
theorem tdiv_floor' {t s : Int} (h : 0 < s) (h2 : ¬ t.tmod s < 0) : t.tdiv s = t / s := by
  have := Int.tdiv_eq_ediv (a := t) (b := s)
  have h3 := Int.tmod_eq_emod (a := t) (b := s)
  split at this
  · simpa using this
  · rename_i hh
    rw [if_neg (by simpa using hh)] at h3
    have := Int.emod_lt_of_pos t h
    have h5 := Int.natAbs_of_nonneg (by omega : 0 ≤ s)
    omega
theorem tdiv_bound {t s B : Int} (_h : 0 < s) (h1 : -B ≤ t) (h2 : t ≤ B) : -B ≤ t.tdiv s ∧ t.tdiv s ≤ B := by
  have := Int.natAbs_tdiv_le_natAbs t s
  omega
theorem tmod_bound {t s : Int} (h : 0 < s) : -s < t.tmod s ∧ t.tmod s < s := by
  have h3 := Int.tmod_eq_emod (a := t) (b := s)
  have := Int.emod_lt_of_pos t h
  have h6 := Int.emod_nonneg t (by omega : s ≠ 0)
  have h5 := Int.natAbs_of_nonneg (by omega : 0 ≤ s)
  split at h3 <;> omega
/-- Of a valid time and size: the floor and its multiple are bounded. -/
theorem floor_facts {t size : Int} (hb1 : 1 ≤ size) (hb3 : -1099511627776 ≤ t) (hb4 : t ≤ 1099511627776) :
    t / size * size ≤ t ∧ t < t / size * size + size ∧ (t / size + 1) * size = t / size * size + size ∧ -1099511627776 ≤ t / size ∧ t / size ≤ 1099511627776 := by
  have q1 := Int.ediv_mul_le t (by omega : size ≠ 0)
  have q2 := Int.lt_ediv_add_one_mul_self t (by omega : 0 < size)
  have q3 : (t / size + 1) * size = t / size * size + size := by rw [Int.add_mul]; omega
  have a1 : t / size ≤ 1099511627776 := by
    by_cases h7 : t / size ≤ 1099511627776
    · exact h7
    · have := Int.mul_le_mul_of_nonneg_left hb1 (by omega : 0 ≤ t / size); omega
  have a2 : -1099511627776 ≤ t / size := by
    by_cases h7 : -1099511627776 ≤ t / size
    · exact h7
    · have := Int.mul_le_mul_of_nonpos_left (by omega : t / size + 1 ≤ 0) hb1; rw [q3] at this; simp at this; omega
  exact ⟨q1, by omega, q3, a2, a1⟩

/-- What a valid time's window is, in a form without products. -/
theorem span_facts {t size : Int} (h : tchk t size = 0) : ∃ S n : Int, (tspan t size).1 = S ∧ (tspan t size).2 = S + size ∧ tnum t size = n ∧ n = t / size ∧ n * size = S ∧
    S ≤ t ∧ t < S + size ∧ S.tmod size = 0 ∧ S.tdiv size = n ∧ -1099511627776 ≤ n ∧ n ≤ 1099511627776 := by
  obtain ⟨a1, a2, a3, a4⟩ := tchk_zero.1 h
  obtain ⟨q1, q2, q3, q4, q5⟩ := floor_facts a1 a3 a4
  exact ⟨_, _, by simp [tspan, h], by simp [tspan, h], by simp [tnum, h], rfl, rfl, q1, q2, Int.mul_tmod_left _ _, Int.mul_tdiv_cancel _ (by omega), q4, q5⟩

/-! ### the reference -/
set_option maxHeartbeats 400000 in
theorem rcheck_any (t size : Int) (w : World) :
    Calls Try.prog 61 #[.int .i64 t, .int .i64 size] w fun e w' => e = .returned (.int .i64 (tchk t size)) ∧ w = w' := by
  go_enter Try.func61, Try.ntmps61
  go_wp2
  all_goals (go_ret; exact ⟨ret_i64 (by unfold tchk; (repeat' split) <;> omega), rfl⟩)

theorem moved_floor {t size : Int} (hb1 : 1 ≤ size) (hb3 : -1099511627776 ≤ t) :
    0 ≤ t + (1099511627776 / size + 1) * size ∧ (t + (1099511627776 / size + 1) * size) / size - (1099511627776 / size + 1) = t / size := by
  have h1 := Int.lt_ediv_add_one_mul_self (1099511627776 : Int) (by omega : 0 < size)
  refine ⟨by omega, ?_⟩
  rw [Int.add_mul_ediv_right _ _ (by omega)]; omega

end Go.Proofs.Ytffehibdeogjeaa

/- The contracts of the accumulators (chapter 16) and of their reference: what each function returns for every accumulator. No condition. -/
namespace Go.Proofs.Ytffehibdeogjeaa
open Go.RowKit

/-- An accumulator's four numbers. -/
structure Acc where
  c : Int
  s : Int
  m : Int
  x : Int
def Acc.ok (a : Acc) : Prop := (a.c = 0 ∧ a.s = 0 ∧ a.m = 0 ∧ a.x = 0) ∨ (a.c = 1 ∧ a.s = a.m ∧ a.s = a.x) ∨ (1 < a.c ∧ a.c ≤ 1073741824 ∧ a.m ≤ a.x)
instance (a : Acc) : Decidable a.ok := by unfold Acc.ok; infer_instance
def acheck (a : Acc) : Int := if a.ok then 0 else 8

set_option maxHeartbeats 400000 in
theorem acheck_any (c s m x : Int) (w : World) :
    Calls Try.prog 144 #[.agg #[.int .i64 c, .int .i64 s, .int .i64 m, .int .i64 x]] w fun e w' => e = .returned (.int .i64 (acheck ⟨c, s, m, x⟩)) ∧ Below w.heap.size w w' := by
  go_enter Try.func144, Try.ntmps144
  go_wp2
  all_goals (go_ret; exact ⟨ret_i64 (by unfold acheck Acc.ok; grind), (by repeat (first | exact Below.refl _ _ | assumption | (with_reducible exact Env.below (by assumption)) | (with_reducible refine below_new ?_ _) | (with_reducible refine below_drew ?_) | (with_reducible refine below_drewN ?_ _) | (with_reducible refine below_put ?_ ?_ _; rotate_left 1; (dsimp only; omega)) | (refine below_then ?_ (by assumption))))⟩)

set_option maxHeartbeats 400000 in
theorem racheck_any (c s m x : Int) (w : World) :
    Calls Try.prog 139 #[.agg #[.int .i64 c, .int .i64 s, .int .i64 m, .int .i64 x]] w fun e w' => e = .returned (.int .i64 (acheck ⟨c, s, m, x⟩)) ∧ Below w.heap.size w w' := by
  go_enter Try.func139, Try.ntmps139
  go_wp2
  all_goals (go_ret; exact ⟨ret_i64 (by unfold acheck Acc.ok; grind), (by repeat (first | exact Below.refl _ _ | assumption | (with_reducible exact Env.below (by assumption)) | (with_reducible refine below_new ?_ _) | (with_reducible refine below_drew ?_) | (with_reducible refine below_drewN ?_ _) | (with_reducible refine below_put ?_ ?_ _; rotate_left 1; (dsimp only; omega)) | (refine below_then ?_ (by assumption))))⟩)

def aboth (a b : Acc) : Acc := if a.c = 0 then b else if b.c = 0 then a else ⟨a.c + b.c, wrap64 (a.s + b.s), min a.m b.m, max a.x b.x⟩
def ajoin (a b : Acc) : Acc × Int := if ¬ a.ok ∨ ¬ b.ok then (⟨0, 0, 0, 0⟩, 8) else if 1073741824 < a.c + b.c then (⟨0, 0, 0, 0⟩, 4) else (aboth a b, 0)
theorem Acc.ok_range {a : Acc} (h : a.ok) : 0 ≤ a.c ∧ a.c ≤ 1073741824 := by
  unfold Acc.ok at h; omega

theorem ret_join {J : Acc × Int} {c s m x e : Int} (h : J = (⟨c, s, m, x⟩, e)) :
    Ending.returned (.tuple #[.agg #[.int .i64 c, .int .i64 s, .int .i64 m, .int .i64 x], .int .i64 e]) = .returned (.tuple #[.agg #[.int .i64 J.1.c, .int .i64 J.1.s, .int .i64 J.1.m, .int .i64 J.1.x], .int .i64 J.2]) := by rw [h]

end Go.Proofs.Ytffehibdeogjeaa

/- The contracts of the accumulators, second part. No condition. -/
namespace Go.Proofs.Ytffehibdeogjeaa
open Go.RowKit Go.WideShapes Go.ChangeShapes Go.ChangeAt

theorem ret_pair {J : Int × Int} {a e : Int} (h : J = (a, e)) :
    Ending.returned (.tuple #[.int .i64 a, .int .i64 e]) = .returned (.tuple #[.int .i64 J.1, .int .i64 J.2]) := by rw [h]
theorem ret_acc {a : Acc} {c s m x : Int} (h : a = ⟨c, s, m, x⟩) :
    Ending.returned (.agg #[.int .i64 c, .int .i64 s, .int .i64 m, .int .i64 x]) = .returned (.agg #[.int .i64 a.c, .int .i64 a.s, .int .i64 a.m, .int .i64 a.x]) := by rw [h]

/-- What With computes; the count may wrap. -/
def awith (a : Acc) (v : Int) : Acc := ⟨wrap64 (a.c + 1), wrap64 (a.s + v), (if a.c = 0 then v else min v a.m), (if a.c = 0 then v else max v a.x)⟩
/-- An aggregate's number. -/
def atold (g : Int) (a : Acc) : Int := if g = 1 then a.c else if g = 2 then a.s else if g = 3 then a.m else a.x
def avalue (g : Int) (a : Acc) : Int × Int := if g < 1 ∨ 4 < g then (0, 2) else if ¬ a.ok then (0, 8) else if a.c = 0 then (0, 6) else (atold g a, 0)

end Go.Proofs.Ytffehibdeogjeaa

/- The contracts of the checks of windows (chapter 8, as far as the windows' layers use them). No condition. -/
namespace Go.Proofs.Ytffehibdeogjeaa
open Go.RowKit Go.WideShapes Go.ChangeShapes Go.ChangeAt

def wok (k s e : Int) : Prop := (1 ≤ s ∧ s ≤ 1073741824) ∧ ((k = 2 ∧ 1 ≤ e ∧ e ≤ s ∧ s ≤ 16 * e) ∨ ((k = 1 ∨ k = 3) ∧ e = 0))
instance (k s e : Int) : Decidable (wok k s e) := by unfold wok; infer_instance
def wchk (k s e : Int) : Int := if wok k s e then 0 else 8

end Go.Proofs.Ytffehibdeogjeaa

/- Lists of spans: the contract of the reference's Same (chapter 14). Condition: lists of at most 2^62 spans. -/
namespace Go.Proofs.Ytffehibdeogjeaa
open Go.RowKit

def senc (s : Int × Int) : List Value := [.int .i64 s.1, .int .i64 s.2]
theorem span_cells {w : World} {B : Nat} {A : Option Addr} {l : List (Int × Int)} (h : Rd senc 2 w B A l) {k : Nat} {x : Int × Int} (hx : l[k]? = some x) :
    ∃ b off, A = some ⟨b, off, none⟩ ∧ b < B ∧ w.cell? ⟨b, off + k * 2, none⟩ = some (.int .i64 x.1) ∧ w.cell? ⟨b, off + k * 2 + 1, none⟩ = some (.int .i64 x.2) := by
  obtain ⟨b, off, e, hb, hc⟩ := h.at_ hx
  exact ⟨b, off, e, hb, by simpa using hc 0 _ rfl, hc 1 _ rfl⟩

def spansEq (l m : List (Int × Int)) : Bool := decide (l = m)

set_option maxHeartbeats 2000000 in
theorem same_any (A A' : Option Addr) (c c' : Nat) (l m : List (Int × Int)) (w : World) (hl : Rd senc 2 w w.heap.size A l) (hm : Rd senc 2 w w.heap.size A' m) (hn : l.length ≤ 4611686018427387904) :
    Calls Try.prog 63 #[.slice A l.length c, .slice A' m.length c'] w fun e w' => e = .returned (.bool (spansEq l m)) ∧ Below w.heap.size w w' := by
  by_cases hlen : l.length = m.length
  · have h1 : ((l.length : Int) != (m.length : Int)) = false := by simp [hlen]
    obtain ⟨n, hn'⟩ : ∃ n, n = l.length := ⟨_, rfl⟩
    have hlm := hlen.symm.trans hn'.symm
    rw [← hn'] at h1 hn ⊢
    rw [hlm] at h1 ⊢
    have hl' := Lib.hid hn'; have hm' := Lib.hid hlm
    clear hlen hn' hlm h1
    go_enter Try.func63, Try.ntmps63
    go_wp2
    go_loopw [5] (fun i wr => ∃ k : Nat, k ≤ n ∧ i = .int .i64 k ∧ l.take k = m.take k ∧ ∃ q : Nat, wr = w.drewN q) (fun i _ => n - (intOf i).toNat)
    case atStart => exact ⟨0, Nat.zero_le _, rfl, by simp, 0, rfl⟩
    case round =>
      obtain ⟨k, hk, rfl, hall, q, rfl⟩ := hrel
      by_cases hlt : k < n
      · have hkl : k < l.length := by rw [← hl'.out]; exact hlt
        have hkm : k < m.length := by rw [hm'.out]; exact hlt
        have hx := List.getElem?_eq_getElem hkl
        have hy := List.getElem?_eq_getElem hkm
        have hts : ∀ (e : l[k] = m[k]), l.take (k + 1) = m.take (k + 1) := fun e => by
          rw [List.take_succ_eq_append_getElem hkl, List.take_succ_eq_append_getElem hkm, hall, e]
        have htn : ∀ (e : l[k] ≠ m[k]), l ≠ m := fun e h => by subst h; exact e rfl
        obtain ⟨b, off, rfl, hb, f1, f2⟩ := span_cells hl hx
        obtain ⟨b', off', rfl, hb', g1, g2⟩ := span_cells hm hy
        obtain ⟨x, hxe⟩ : ∃ x, x = l[k] := ⟨_, rfl⟩
        obtain ⟨y, hye⟩ : ∃ y, y = m[k] := ⟨_, rfl⟩
        rw [← hxe] at f1 f2 hts htn
        rw [← hye] at g1 g2 hts htn
        have T1 := Lib.hid hts; have T2 := Lib.hid htn
        clear hl hm hall hx hy hts htn hxe hye hkl hkm
        obtain ⟨x1, x2⟩ := x
        obtain ⟨y1, y2⟩ := y
        dsimp only at f1 f2 g1 g2
        by_cases h1 : x1 = y1
        · by_cases h2 : x2 = y2
          · subst h1 h2
            go_wp2
            go_quiet (fail)
            go_wp2
            go_roundw
            case rel => exact ⟨k + 1, by omega, by go_num, T1.out (by simp), _, rfl⟩
            case measure => simp [intOf]; omega
          · subst h1
            go_wp2
            go_quiet (fail)
            go_wp2
            go_ret
            exact ⟨ret_bool (by have := T2.out (by simp [h2]); simp [spansEq, this]), (by repeat (first | exact Below.refl _ _ | assumption | (with_reducible exact Env.below (by assumption)) | (with_reducible refine below_new ?_ _) | (with_reducible refine below_drew ?_) | (with_reducible refine below_drewN ?_ _) | (with_reducible refine below_put ?_ ?_ _; rotate_left 1; (dsimp only; omega)) | (refine below_then ?_ (by assumption))))⟩
        · go_wp2
          go_quiet (fail)
          go_wp2
          go_ret
          exact ⟨ret_bool (by have := T2.out (by simp [h1]); simp [spansEq, this]), (by repeat (first | exact Below.refl _ _ | assumption | (with_reducible exact Env.below (by assumption)) | (with_reducible refine below_new ?_ _) | (with_reducible refine below_drew ?_) | (with_reducible refine below_drewN ?_ _) | (with_reducible refine below_put ?_ ?_ _; rotate_left 1; (dsimp only; omega)) | (refine below_then ?_ (by assumption))))⟩
      · have hkn : k = n := by omega
        rw [hkn] at hall
        rw [List.take_of_length_le (by have := hl'.out; omega), List.take_of_length_le (by have := hm'.out; omega)] at hall
        have H := Lib.hid hall
        clear hall hkn
        go_wp2
        go_ret
        exact ⟨ret_bool (by simp [spansEq, H.out]), (by repeat (first | exact Below.refl _ _ | assumption | (with_reducible exact Env.below (by assumption)) | (with_reducible refine below_new ?_ _) | (with_reducible refine below_drew ?_) | (with_reducible refine below_drewN ?_ _) | (with_reducible refine below_put ?_ ?_ _; rotate_left 1; (dsimp only; omega)) | (refine below_then ?_ (by assumption))))⟩
  · have h1 : ((l.length : Int) != (m.length : Int)) = true := by simp; omega
    have H := Lib.hid hlen
    clear hlen
    go_enter Try.func63, Try.ntmps63
    go_wp2
    go_ret
    exact ⟨ret_bool (by have : ¬ l = m := fun e => H.out (by rw [e]); simp [spansEq, this]), (by repeat (first | exact Below.refl _ _ | assumption | (with_reducible exact Env.below (by assumption)) | (with_reducible refine below_new ?_ _) | (with_reducible refine below_drew ?_) | (with_reducible refine below_drewN ?_ _) | (with_reducible refine below_put ?_ ?_ _; rotate_left 1; (dsimp only; omega)) | (refine below_then ?_ (by assumption))))⟩
end Go.Proofs.Ytffehibdeogjeaa

/- The contracts of the reference of the sliding windows (chapter 14). No condition but those that each names. -/
namespace Go.Proofs.Ytffehibdeogjeaa
open Go.RowKit

def sright (size every : Int) : Prop := 1 ≤ size ∧ 1 ≤ every ∧ size ≤ 1073741824 ∧ every ≤ size ∧ size ≤ 16 * every
instance (size every : Int) : Decidable (sright size every) := by unfold sright; infer_instance

/-- The windows with the numbers n - 16 .. n + 1 that have the time, in order. -/
def swin (t size every : Int) (i : Int) : Bool := decide (i * every ≤ t ∧ t < i * every + size)
def swk (t size every n : Int) (k : Nat) : List (Int × Int) := (((List.range k).map fun (j : Nat) => n - 16 + (j : Int)).filter (swin t size every)).map fun i => (i * every, i * every + size)
theorem swk_succ (t size every n : Int) (k : Nat) : swk t size every n (k + 1) = if swin t size every (n - 16 + k) = true then swk t size every n k ++ [((n - 16 + k) * every, (n - 16 + k) * every + size)] else swk t size every n k := by
  unfold swk
  rw [List.range_succ]
  split <;> rename_i h <;> simp [List.filter_append, h]

theorem swk_len (t size every n : Int) (k : Nat) : (swk t size every n k).length ≤ k := by
  unfold swk
  simp only [List.length_map]
  exact Nat.le_trans (List.length_filter_le _ _) (by simp)
theorem span_info : (Try.prog.info? 32).map (fun i => (i.zero, i.size, i.bytes)) = some (some (.agg #[.int .i64 0, .int .i64 0]), 2, 16) := by kernel_rfl

/-- The reference's sliding windows. -/
def swins (t size every : Int) : List (Int × Int) := swk t size every (t / every) 18
def rall (t size every : Int) : List (Int × Int) × Int := if ¬ sright size every then ([], 2) else if t < -1099511627776 ∨ 1099511627776 < t then ([], 16) else (swins t size every, 0)

end Go.Proofs.Ytffehibdeogjeaa

/- The contracts of the reference of the sliding windows, second part (Spans, Of). No condition. -/
namespace Go.Proofs.Ytffehibdeogjeaa
open Go.RowKit Go.WideShapes Go.ChangeShapes Go.ChangeAt

/-- The windows of a time, for a valid window that is no session. -/
def wspans (k s e t : Int) : List (Int × Int) := if k = 1 then [tspan t s] else swins t s e

def wof (k s e t : Int) : List (Int × Int) × Int := if ¬ wok k s e then ([], 8) else if k = 3 then ([], 2) else if t < -1099511627776 ∨ 1099511627776 < t then ([], 16) else (wspans k s e t, 0)

end Go.Proofs.Ytffehibdeogjeaa
