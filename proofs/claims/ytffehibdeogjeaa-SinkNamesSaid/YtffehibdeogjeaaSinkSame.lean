/- Lists of rows and of records compared (chapter 34). Condition: lists of at most 2^62. -/
import Derived.Test.YtffehibdeogjeaaSinkSort
import Derived.Test.YtffehibdeogjeaaAggEq
namespace Go.Proofs.Ytffehibdeogjeaa
open Go.RowKit

theorem rc_cells {w : World} {B : Nat} {A : Option Addr} {l : List Rc} (h : Rd renc 3 w B A l) {k : Nat} {x : Rc} (hx : l[k]? = some x) :
    ∃ b off, A = some ⟨b, off, none⟩ ∧ b < B ∧ w.cell? ⟨b, off + k * 3, none⟩ = some (.int .i64 x.k) ∧ w.cell? ⟨b, off + k * 3 + 1, none⟩ = some (.int .i64 x.t) ∧ w.cell? ⟨b, off + k * 3 + 2, none⟩ = some (.int .i64 x.v) := by
  obtain ⟨b, off, e, hb, hc⟩ := h.at_ hx
  exact ⟨b, off, e, hb, by simpa using hc 0 _ rfl, hc 1 _ rfl, hc 2 _ rfl⟩
theorem rw_cells {w : World} {B : Nat} {A : Option Addr} {l : List Rw} (h : Rd wenc 5 w B A l) {k : Nat} {x : Rw} (hx : l[k]? = some x) :
    ∃ b off, A = some ⟨b, off, none⟩ ∧ b < B ∧ w.cell? ⟨b, off + k * 5, none⟩ = some (.int .i64 x.k) ∧ w.cell? ⟨b, off + k * 5 + 1, none⟩ = some (.int .i64 x.s) ∧ w.cell? ⟨b, off + k * 5 + 2, none⟩ = some (.int .i64 x.e) ∧
      w.cell? ⟨b, off + k * 5 + 3, none⟩ = some (.int .i64 x.a) ∧ w.cell? ⟨b, off + k * 5 + 4, none⟩ = some (.int .i64 x.b) := by
  obtain ⟨b, off, e, hb, hc⟩ := h.at_ hx
  exact ⟨b, off, e, hb, by simpa using hc 0 _ rfl, hc 1 _ rfl, hc 2 _ rfl, hc 3 _ rfl, hc 4 _ rfl⟩
def listEq {α : Type} [DecidableEq α] (l m : List α) : Bool := decide (l = m)
theorem take_step {α : Type} {l m : List α} {k : Nat} {x : α} (h : l.take k = m.take k) (hx : l[k]? = some x) (hy : m[k]? = some x) : l.take (k + 1) = m.take (k + 1) := by
  rw [List.take_add_one, List.take_add_one, h, hx, hy]
theorem ne_at {α : Type} {l m : List α} {k : Nat} {x y : α} (hx : l[k]? = some x) (hy : m[k]? = some y) (h : x ≠ y) : l ≠ m := fun e => by
  subst e
  rw [hx] at hy
  exact h (Option.some.inj hy)

/-- Two rows compared. -/
theorem neq_row {x y : Rw} (h : x ≠ y) (w : World) : (binOp .neq 72 (.agg #[.int .i64 x.k, .int .i64 x.s, .int .i64 x.e, .int .i64 x.a, .int .i64 x.b]) (.agg #[.int .i64 y.k, .int .i64 y.s, .int .i64 y.e, .int .i64 y.a, .int .i64 y.b])).run Try.prog w = .ok (.bool true) w := by
  have harr := eql_arr2
  obtain ⟨x1, x2, x3, x4, x5⟩ := x
  obtain ⟨y1, y2, y3, y4, y5⟩ := y
  go_simp
  simpa using h
theorem neq_row' (x : Rw) (w : World) : (binOp .neq 72 (.agg #[.int .i64 x.k, .int .i64 x.s, .int .i64 x.e, .int .i64 x.a, .int .i64 x.b]) (.agg #[.int .i64 x.k, .int .i64 x.s, .int .i64 x.e, .int .i64 x.a, .int .i64 x.b])).run Try.prog w = .ok (.bool false) w := by
  have harr := eql_arr2
  go_simp
theorem eql_row {x y : Rw} (h : x ≠ y) (w : World) : (binOp .eql 72 (.agg #[.int .i64 x.k, .int .i64 x.s, .int .i64 x.e, .int .i64 x.a, .int .i64 x.b]) (.agg #[.int .i64 y.k, .int .i64 y.s, .int .i64 y.e, .int .i64 y.a, .int .i64 y.b])).run Try.prog w = .ok (.bool false) w := by
  have harr := eql_arr2
  obtain ⟨x1, x2, x3, x4, x5⟩ := x
  obtain ⟨y1, y2, y3, y4, y5⟩ := y
  go_simp
  simpa using h
theorem eql_row' (x : Rw) (w : World) : (binOp .eql 72 (.agg #[.int .i64 x.k, .int .i64 x.s, .int .i64 x.e, .int .i64 x.a, .int .i64 x.b]) (.agg #[.int .i64 x.k, .int .i64 x.s, .int .i64 x.e, .int .i64 x.a, .int .i64 x.b])).run Try.prog w = .ok (.bool true) w := by
  have harr := eql_arr2
  go_simp
theorem neq_rec {x y : Rc} (h : x ≠ y) (w : World) : (binOp .neq 69 (.agg #[.int .i64 x.k, .int .i64 x.t, .int .i64 x.v]) (.agg #[.int .i64 y.k, .int .i64 y.t, .int .i64 y.v])).run Try.prog w = .ok (.bool true) w := by
  obtain ⟨x1, x2, x3⟩ := x
  obtain ⟨y1, y2, y3⟩ := y
  go_simp
  simpa using h
theorem eql_rec {x y : Rc} (h : x ≠ y) (w : World) : (binOp .eql 69 (.agg #[.int .i64 x.k, .int .i64 x.t, .int .i64 x.v]) (.agg #[.int .i64 y.k, .int .i64 y.t, .int .i64 y.v])).run Try.prog w = .ok (.bool false) w := by
  obtain ⟨x1, x2, x3⟩ := x
  obtain ⟨y1, y2, y3⟩ := y
  go_simp
  simpa using h
theorem neq_rec' (x : Rc) (w : World) : (binOp .neq 69 (.agg #[.int .i64 x.k, .int .i64 x.t, .int .i64 x.v]) (.agg #[.int .i64 x.k, .int .i64 x.t, .int .i64 x.v])).run Try.prog w = .ok (.bool false) w := by
  go_simp
theorem eql_rec' (x : Rc) (w : World) : (binOp .eql 69 (.agg #[.int .i64 x.k, .int .i64 x.t, .int .i64 x.v]) (.agg #[.int .i64 x.k, .int .i64 x.t, .int .i64 x.v])).run Try.prog w = .ok (.bool true) w := by
  go_simp
set_option maxHeartbeats 2000000 in
theorem rsame_any (A A' : Option Addr) (c c' n n' : Nat) (l m : List Rw) (w : World) (hl : Rd wenc 5 w w.heap.size A l) (hm : Rd wenc 5 w w.heap.size A' m) (hn : l.length = n) (hn' : m.length = n') (hb : n ≤ 4611686018427387904) :
    Calls Try.prog 50 #[.slice A n c, .slice A' n' c'] w fun e w' => e = .returned (.bool (listEq l m)) ∧ Below w.heap.size w w' := by
  by_cases hlen : n = n'
  · subst hlen
    have h1 : ((n : Int) != (n : Int)) = false := by simp
    have hl' := Lib.hid hn; have hm' := Lib.hid hn'
    clear hn hn'
    go_enter Try.func50, Try.ntmps50
    go_wp2
    go_loopw [5] (fun i wr => ∃ k : Nat, k ≤ n ∧ i = .int .i64 k ∧ l.take k = m.take k ∧ ∃ q : Nat, wr = w.drewN q) (fun i _ => n - (intOf i).toNat)
    case atStart => exact ⟨0, Nat.zero_le _, rfl, by simp, 0, rfl⟩
    case round =>
      obtain ⟨k, hk, rfl, hall, q, rfl⟩ := hrel
      by_cases hlt : k < n
      · obtain ⟨x, hx⟩ : ∃ x, l[k]? = some x := ⟨_, List.getElem?_eq_getElem (by rw [hl'.out]; exact hlt)⟩
        obtain ⟨y, hy⟩ : ∃ x, m[k]? = some x := ⟨_, List.getElem?_eq_getElem (by rw [hm'.out]; exact hlt)⟩
        obtain ⟨b, off, rfl, hb, f1, f2, f3, f4, f5⟩ := rw_cells hl hx
        obtain ⟨b', off', rfl, hb', g1, g2, g3, g4, g5⟩ := rw_cells hm hy
        by_cases he : x = y
        · subst he
          have HT := Lib.hid (take_step hall hx hy)
          have hrun := neq_row' x
          clear hl hm hall hx hy
          go_wp2
          go_quiet (fail)
          go_wp2
          go_roundw
          case rel => exact ⟨k + 1, by omega, by go_num, HT.out, _, rfl⟩
          case measure => simp [intOf]; omega
        · have hf : listEq l m = false := decide_eq_false (ne_at hx hy he)
          have HF := Lib.hid hf
          have hrun := neq_row he
          clear hl hm hall hx hy hf he
          go_wp2
          go_quiet (fail)
          go_wp2
          go_ret
          exact ⟨ret_bool HF.out.symm, (by repeat (first | exact Below.refl _ _ | assumption | (with_reducible exact Env.below (by assumption)) | (with_reducible refine below_new ?_ _) | (with_reducible refine below_drew ?_) | (with_reducible refine below_drewN ?_ _) | (with_reducible refine below_put ?_ ?_ _; rotate_left 1; (dsimp only; omega)) | (refine below_then ?_ (by assumption))))⟩
      · have hkn : k = n := by omega
        rw [hkn] at hall
        rw [List.take_of_length_le (by have := hl'.out; omega), List.take_of_length_le (by have := hm'.out; omega)] at hall
        have hf : listEq l m = true := decide_eq_true hall
        have HF := Lib.hid hf
        clear hall hkn hf
        go_wp2
        go_ret
        exact ⟨ret_bool HF.out.symm, (by repeat (first | exact Below.refl _ _ | assumption | (with_reducible exact Env.below (by assumption)) | (with_reducible refine below_new ?_ _) | (with_reducible refine below_drew ?_) | (with_reducible refine below_drewN ?_ _) | (with_reducible refine below_put ?_ ?_ _; rotate_left 1; (dsimp only; omega)) | (refine below_then ?_ (by assumption))))⟩
  · have h1 : ((n : Int) != (n' : Int)) = true := by simp; omega
    have hf : listEq l m = false := decide_eq_false (fun e => hlen (by rw [← hn, ← hn', e]))
    have HF := Lib.hid hf
    clear hlen hf hn hn'
    go_enter Try.func50, Try.ntmps50
    go_wp2
    go_ret
    exact ⟨ret_bool HF.out.symm, (by repeat (first | exact Below.refl _ _ | assumption | (with_reducible exact Env.below (by assumption)) | (with_reducible refine below_new ?_ _) | (with_reducible refine below_drew ?_) | (with_reducible refine below_drewN ?_ _) | (with_reducible refine below_put ?_ ?_ _; rotate_left 1; (dsimp only; omega)) | (refine below_then ?_ (by assumption))))⟩
set_option maxHeartbeats 2000000 in
theorem csame_any (A A' : Option Addr) (c c' n n' : Nat) (l m : List Rc) (w : World) (hl : Rd renc 3 w w.heap.size A l) (hm : Rd renc 3 w w.heap.size A' m) (hn : l.length = n) (hn' : m.length = n') (hb : n ≤ 4611686018427387904) :
    Calls Try.prog 56 #[.slice A n c, .slice A' n' c'] w fun e w' => e = .returned (.bool (listEq l m)) ∧ Below w.heap.size w w' := by
  by_cases hlen : n = n'
  · subst hlen
    have h1 : ((n : Int) != (n : Int)) = false := by simp
    have hl' := Lib.hid hn; have hm' := Lib.hid hn'
    clear hn hn'
    go_enter Try.func56, Try.ntmps56
    go_wp2
    go_loopw [5] (fun i wr => ∃ k : Nat, k ≤ n ∧ i = .int .i64 k ∧ l.take k = m.take k ∧ ∃ q : Nat, wr = w.drewN q) (fun i _ => n - (intOf i).toNat)
    case atStart => exact ⟨0, Nat.zero_le _, rfl, by simp, 0, rfl⟩
    case round =>
      obtain ⟨k, hk, rfl, hall, q, rfl⟩ := hrel
      by_cases hlt : k < n
      · obtain ⟨x, hx⟩ : ∃ x, l[k]? = some x := ⟨_, List.getElem?_eq_getElem (by rw [hl'.out]; exact hlt)⟩
        obtain ⟨y, hy⟩ : ∃ x, m[k]? = some x := ⟨_, List.getElem?_eq_getElem (by rw [hm'.out]; exact hlt)⟩
        obtain ⟨b, off, rfl, hb, f1, f2, f3⟩ := rc_cells hl hx
        obtain ⟨b', off', rfl, hb', g1, g2, g3⟩ := rc_cells hm hy
        by_cases he : x = y
        · subst he
          have HT := Lib.hid (take_step hall hx hy)
          have hrun := neq_rec' x
          clear hl hm hall hx hy
          go_wp2
          go_quiet (fail)
          go_wp2
          go_roundw
          case rel => exact ⟨k + 1, by omega, by go_num, HT.out, _, rfl⟩
          case measure => simp [intOf]; omega
        · have hf : listEq l m = false := decide_eq_false (ne_at hx hy he)
          have HF := Lib.hid hf
          have hrun := neq_rec he
          clear hl hm hall hx hy hf he
          go_wp2
          go_quiet (fail)
          go_wp2
          go_ret
          exact ⟨ret_bool HF.out.symm, (by repeat (first | exact Below.refl _ _ | assumption | (with_reducible exact Env.below (by assumption)) | (with_reducible refine below_new ?_ _) | (with_reducible refine below_drew ?_) | (with_reducible refine below_drewN ?_ _) | (with_reducible refine below_put ?_ ?_ _; rotate_left 1; (dsimp only; omega)) | (refine below_then ?_ (by assumption))))⟩
      · have hkn : k = n := by omega
        rw [hkn] at hall
        rw [List.take_of_length_le (by have := hl'.out; omega), List.take_of_length_le (by have := hm'.out; omega)] at hall
        have hf : listEq l m = true := decide_eq_true hall
        have HF := Lib.hid hf
        clear hall hkn hf
        go_wp2
        go_ret
        exact ⟨ret_bool HF.out.symm, (by repeat (first | exact Below.refl _ _ | assumption | (with_reducible exact Env.below (by assumption)) | (with_reducible refine below_new ?_ _) | (with_reducible refine below_drew ?_) | (with_reducible refine below_drewN ?_ _) | (with_reducible refine below_put ?_ ?_ _; rotate_left 1; (dsimp only; omega)) | (refine below_then ?_ (by assumption))))⟩
  · have h1 : ((n : Int) != (n' : Int)) = true := by simp; omega
    have hf : listEq l m = false := decide_eq_false (fun e => hlen (by rw [← hn, ← hn', e]))
    have HF := Lib.hid hf
    clear hlen hf hn hn'
    go_enter Try.func56, Try.ntmps56
    go_wp2
    go_ret
    exact ⟨ret_bool HF.out.symm, (by repeat (first | exact Below.refl _ _ | assumption | (with_reducible exact Env.below (by assumption)) | (with_reducible refine below_new ?_ _) | (with_reducible refine below_drew ?_) | (with_reducible refine below_drewN ?_ _) | (with_reducible refine below_put ?_ ?_ _; rotate_left 1; (dsimp only; omega)) | (refine below_then ?_ (by assumption))))⟩
set_option maxHeartbeats 2000000 in
theorem sleq_any (A A' : Option Addr) (c c' n n' : Nat) (l m : List Rw) (w : World) (hl : Rd wenc 5 w w.heap.size A l) (hm : Rd wenc 5 w w.heap.size A' m) (hn : l.length = n) (hn' : m.length = n') (hb : n ≤ 4611686018427387904) :
    Calls Try.prog 91 #[.slice A n c, .slice A' n' c'] w fun e w' => e = .returned (.bool (listEq l m)) ∧ Below w.heap.size w w' := by
  by_cases hlen : n = n'
  · subst hlen
    have h1 : ((n : Int) != (n : Int)) = false := by simp
    have hl' := Lib.hid hn; have hm' := Lib.hid hn'
    clear hn hn'
    go_enter Try.func91, Try.ntmps91
    go_wp2
    go_loopw [13] (fun i wr => ∃ k : Nat, k ≤ n ∧ i = .int .i64 k ∧ l.take k = m.take k ∧ ∃ q : Nat, wr = w.drewN q) (fun i _ => n - (intOf i).toNat)
    case atStart => exact ⟨0, Nat.zero_le _, rfl, by simp, 0, rfl⟩
    case round =>
      obtain ⟨k, hk, rfl, hall, q, rfl⟩ := hrel
      by_cases hlt : k < n
      · obtain ⟨x, hx⟩ : ∃ x, l[k]? = some x := ⟨_, List.getElem?_eq_getElem (by rw [hl'.out]; exact hlt)⟩
        obtain ⟨y, hy⟩ : ∃ x, m[k]? = some x := ⟨_, List.getElem?_eq_getElem (by rw [hm'.out]; exact hlt)⟩
        obtain ⟨b, off, rfl, hb, f1, f2, f3, f4, f5⟩ := rw_cells hl hx
        obtain ⟨b', off', rfl, hb', g1, g2, g3, g4, g5⟩ := rw_cells hm hy
        by_cases he : x = y
        · subst he
          have HT := Lib.hid (take_step hall hx hy)
          have hrun := neq_row' x
          clear hl hm hall hx hy
          go_wp2
          go_quiet (fail)
          go_wp2
          go_roundw
          case rel => exact ⟨k + 1, by omega, by go_num, HT.out, _, rfl⟩
          case measure => simp [intOf]; omega
        · have hf : listEq l m = false := decide_eq_false (ne_at hx hy he)
          have HF := Lib.hid hf
          have hrun := neq_row he
          clear hl hm hall hx hy hf he
          go_wp2
          go_quiet (fail)
          go_wp2
          go_ret
          exact ⟨ret_bool HF.out.symm, (by repeat (first | exact Below.refl _ _ | assumption | (with_reducible exact Env.below (by assumption)) | (with_reducible refine below_new ?_ _) | (with_reducible refine below_drew ?_) | (with_reducible refine below_drewN ?_ _) | (with_reducible refine below_put ?_ ?_ _; rotate_left 1; (dsimp only; omega)) | (refine below_then ?_ (by assumption))))⟩
      · have hkn : k = n := by omega
        rw [hkn] at hall
        rw [List.take_of_length_le (by have := hl'.out; omega), List.take_of_length_le (by have := hm'.out; omega)] at hall
        have hf : listEq l m = true := decide_eq_true hall
        have HF := Lib.hid hf
        clear hall hkn hf
        go_wp2
        go_ret
        exact ⟨ret_bool HF.out.symm, (by repeat (first | exact Below.refl _ _ | assumption | (with_reducible exact Env.below (by assumption)) | (with_reducible refine below_new ?_ _) | (with_reducible refine below_drew ?_) | (with_reducible refine below_drewN ?_ _) | (with_reducible refine below_put ?_ ?_ _; rotate_left 1; (dsimp only; omega)) | (refine below_then ?_ (by assumption))))⟩
  · have h1 : ((n : Int) != (n' : Int)) = true := by simp; omega
    have hf : listEq l m = false := decide_eq_false (fun e => hlen (by rw [← hn, ← hn', e]))
    have HF := Lib.hid hf
    clear hlen hf hn hn'
    go_enter Try.func91, Try.ntmps91
    go_wp2
    go_ret
    exact ⟨ret_bool HF.out.symm, (by repeat (first | exact Below.refl _ _ | assumption | (with_reducible exact Env.below (by assumption)) | (with_reducible refine below_new ?_ _) | (with_reducible refine below_drew ?_) | (with_reducible refine below_drewN ?_ _) | (with_reducible refine below_put ?_ ?_ _; rotate_left 1; (dsimp only; omega)) | (refine below_then ?_ (by assumption))))⟩
/-- How often a row is in a list. -/
def oftenL (l : List Rw) (x : Rw) : Nat := (l.filter fun y => decide (y = x)).length
theorem often_snoc {l : List Rw} {k : Nat} {x y : Rw} (h : l[k]? = some y) : oftenL (l.take (k + 1)) x = oftenL (l.take k) x + if y = x then 1 else 0 := by
  unfold oftenL
  rw [List.take_add_one, h, List.filter_append, List.length_append]
  by_cases e : y = x <;> simp [e]
set_option maxHeartbeats 2000000 in
theorem often_any (A : Option Addr) (c n : Nat) (l : List Rw) (x : Rw) (w : World) (hl : Rd wenc 5 w w.heap.size A l) (hn : l.length = n) (hb : n ≤ 100000) :
    Calls Try.prog 51 #[.slice A n c, .agg #[.int .i64 x.k, .int .i64 x.s, .int .i64 x.e, .int .i64 x.a, .int .i64 x.b]] w fun e w' => e = .returned (.int .i64 (oftenL l x : Nat)) ∧ Below w.heap.size w w' := by
  have hl' := Lib.hid hn
  clear hn
  go_enter Try.func51, Try.ntmps51
  go_wp2
  have hL := Loc.new (Loc.nil w) [.int .i64 x.k, .int .i64 x.s, .int .i64 x.e, .int .i64 x.a, .int .i64 x.b] 72
  have hb0 : Below w.heap.size w (w.alloc (.cells #[.int .i64 x.k, .int .i64 x.s, .int .i64 x.e, .int .i64 x.a, .int .i64 x.b] 72)) := below_new (Below.refl _ _) _
  have hl2 := (hl.alloc (Nat.le_refl _) (.cells #[.int .i64 x.k, .int .i64 x.s, .int .i64 x.e, .int .i64 x.a, .int .i64 x.b] 72))
  obtain ⟨w1, hw1⟩ : ∃ w1, w.alloc (.cells #[.int .i64 x.k, .int .i64 x.s, .int .i64 x.e, .int .i64 x.a, .int .i64 x.b] 72) = w1 := ⟨_, rfl⟩
  have hL' : Loc w1 [(w.heap.size, [.int .i64 x.k, .int .i64 x.s, .int .i64 x.e, .int .i64 x.a, .int .i64 x.b])] := by rw [← hw1]; exact hL
  rw [hw1] at hb0 hl2 ⊢
  obtain ⟨g, hg⟩ : ∃ g, g = w.heap.size := ⟨_, rfl⟩
  rw [← hg] at hL' hl2 ⊢
  obtain ⟨hx0, hx1, hx2, -⟩ := hL'
  have c0 : w1.cell? ⟨g, 0, none⟩ = some (.int .i64 x.k) := hx1 0
  have c1 : w1.cell? ⟨g, 1, none⟩ = some (.int .i64 x.s) := hx1 1
  have c2 : w1.cell? ⟨g, 2, none⟩ = some (.int .i64 x.e) := hx1 2
  have c3 : w1.cell? ⟨g, 3, none⟩ = some (.int .i64 x.a) := hx1 3
  have c4 : w1.cell? ⟨g, 4, none⟩ = some (.int .i64 x.b) := hx1 4
  have HB0 := Lib.hid hb0
  clear hL hw1 hx1 hx2 hl hg hb0
  go_loopw [5, 6] (fun nn i wr => ∃ k z : Nat, k ≤ n ∧ i = .int .i64 k ∧ nn = .int .i64 z ∧ z ≤ k ∧ oftenL (l.take k) x = z ∧ ∃ q : Nat, wr = w1.drewN q) (fun _ i _ => n - (intOf i).toNat)
  case atStart => exact ⟨0, 0, Nat.zero_le _, rfl, rfl, Nat.le_refl _, rfl, 0, rfl⟩
  case round =>
    obtain ⟨k, z, hk, rfl, rfl, hzk, hz, q, rfl⟩ := hrel
    by_cases hlt : k < n
    · obtain ⟨y, hy⟩ : ∃ x, l[k]? = some x := ⟨_, List.getElem?_eq_getElem (by rw [hl'.out]; exact hlt)⟩
      obtain ⟨b, off, rfl, hbb, f1, f2, f3, f4, f5⟩ := rw_cells hl2 hy
      have hs := often_snoc (x := x) hy
      rw [hz] at hs
      have e1 : IntKind.i64.wrap ((k : Int) + 1) = (k : Int) + 1 := IntWalk.i64_in _ (by omega)
      have e2 : IntKind.i64.wrap ((z : Int) + 1) = (z : Int) + 1 := IntWalk.i64_in _ (by omega)
      by_cases he : y = x
      · subst he
        rw [if_pos rfl] at hs
        have HS := Lib.hid hs
        have hrun := eql_row' y
        clear hl2 hy hs hz
        go_wp2
        go_quiet (fail)
        go_wp2
        go_roundw
        case rel => exact ⟨k + 1, z + 1, by omega, by go_num, by go_num, by omega, HS.out, _, rfl⟩
        case measure => simp [intOf]; omega
      · rw [if_neg he] at hs
        have HS := Lib.hid hs
        have hrun := eql_row he
        clear hl2 hy hs hz he
        go_wp2
        go_quiet (fail)
        go_wp2
        go_roundw
        case rel => exact ⟨k + 1, z, by omega, by go_num, rfl, by omega, HS.out, _, rfl⟩
        case measure => simp [intOf]; omega
    · rw [List.take_of_length_le (by have := hl'.out; omega)] at hz
      have HZ := Lib.hid hz
      clear hz
      go_wp2
      go_ret
      exact ⟨ret_i64 (by rw [HZ.out]), below_drewN HB0.out _⟩
theorem span34_any (s e : Int) (w : World) : Calls Try.prog 71 #[.int .i64 s, .int .i64 e] w fun r w' => r = .returned (.agg #[.int .i64 0, .int .i64 s, .int .i64 e, .int .i64 0, .int .i64 0]) ∧ Below w.heap.size w w' := by
  go_enter Try.func71, Try.ntmps71
  go_wp2
  refine bodyPost_ret (v := _) (by rw [results_cell1 Try.results71]; go_simp; rfl) rfl ⟨?_, ?_⟩
  · rfl
  · exact (by repeat (first | exact Below.refl _ _ | assumption | (with_reducible exact Env.below (by assumption)) | (with_reducible refine below_new ?_ _) | (with_reducible refine below_drew ?_) | (with_reducible refine below_drewN ?_ _) | (with_reducible refine below_put ?_ ?_ _; rotate_left 1; (dsimp only; omega)) | (refine below_then ?_ (by assumption))))
end Go.Proofs.Ytffehibdeogjeaa
