/- Lists of entries compared; whether a list is great (chapter 17). Condition: lists of at most 2^62. -/
import Derived.Test.YtbbdepeifdbbdaaKitE
import Derived.ChangeKeysEq
namespace Go.Proofs.Ytbbdepeifdbbdaa
open Go.RowKit

theorem info_acc : ∃ i, Try.prog.info? 40 = some i ∧ Try.prog.cellsOf 40 = 4 := by
  have h : ((Try.prog.info? 40).isSome && decide (Try.prog.cellsOf 40 = 4)) = true := by kernel_rfl
  simp only [Bool.and_eq_true, decide_eq_true_eq] at h
  obtain ⟨i, hi⟩ := Option.isSome_iff_exists.1 h.1
  exact ⟨i, hi, h.2⟩
def accs (a : Acc) : List Value := [.int .i64 a.c, .int .i64 a.s, .int .i64 a.m, .int .i64 a.x]
theorem eql_acc (d : Nat) (a b : Acc) (w : World) : (Op.equalIn (d + 2) 40 (.agg #[.int .i64 a.c, .int .i64 a.s, .int .i64 a.m, .int .i64 a.x]) (.agg #[.int .i64 b.c, .int .i64 b.s, .int .i64 b.m, .int .i64 b.x])).run Try.prog w = .ok (a.c == b.c && (a.s == b.s && (a.m == b.m && a.x == b.x))) w := by
  go_simp
  by_cases h1 : a.c = b.c <;> by_cases h2 : a.s = b.s <;> by_cases h3 : a.m = b.m <;> by_cases h4 : a.x = b.x <;> simp [h1, h2, h3, h4]
theorem part_acc0 (a b : Acc) (w : World) : (part 40 #[.int .i64 a.c, .int .i64 a.s, .int .i64 a.m, .int .i64 a.x, .int .i64 b.c, .int .i64 b.s, .int .i64 b.m, .int .i64 b.x] 0).run Try.prog w = .ok (.agg #[.int .i64 a.c, .int .i64 a.s, .int .i64 a.m, .int .i64 a.x]) w := by kernel_rfl
theorem part_acc1 (a b : Acc) (w : World) : (part 40 #[.int .i64 a.c, .int .i64 a.s, .int .i64 a.m, .int .i64 a.x, .int .i64 b.c, .int .i64 b.s, .int .i64 b.m, .int .i64 b.x] 4).run Try.prog w = .ok (.agg #[.int .i64 b.c, .int .i64 b.s, .int .i64 b.m, .int .i64 b.x]) w := by kernel_rfl
def accEq (a b : Acc) : Bool := a.c == b.c && (a.s == b.s && (a.m == b.m && a.x == b.x))
theorem accEq_iff {a b : Acc} : accEq a b = true ↔ a = b := by
  obtain ⟨a1, a2, a3, a4⟩ := a
  obtain ⟨b1, b2, b3, b4⟩ := b
  simp [accEq]
theorem eql_accs (d : Nat) (a b c e : Acc) (w : World) : (Op.equalIn (d + 3) 41 (.agg #[.int .i64 a.c, .int .i64 a.s, .int .i64 a.m, .int .i64 a.x, .int .i64 b.c, .int .i64 b.s, .int .i64 b.m, .int .i64 b.x]) (.agg #[.int .i64 c.c, .int .i64 c.s, .int .i64 c.m, .int .i64 c.x, .int .i64 e.c, .int .i64 e.s, .int .i64 e.m, .int .i64 e.x])).run Try.prog w = .ok (accEq a c && accEq b e) w := by
  obtain ⟨i, hi, hc⟩ := info_acc
  rw [run_equalIn_array w (d + 2) _ _ Try.underlying41 hi, hc]
  rw [show List.range 2 = [0, 1] from rfl]
  have e1 : ∀ x y : Acc, ∀ W, (Op.equalIn (d + 2) 40 (.agg #[.int .i64 x.c, .int .i64 x.s, .int .i64 x.m, .int .i64 x.x]) (.agg #[.int .i64 y.c, .int .i64 y.s, .int .i64 y.m, .int .i64 y.x])).run Try.prog W = .ok (accEq x y) W := fun x y W => eql_acc d x y W
  simp only [Op.eqItems, Sem.run_bind, Nat.zero_mul, Nat.one_mul, part_acc0 a b, part_acc0 c e, Result.andThen_ok, e1]
  cases (accEq a c)
  · simp
  · simp only [Bool.not_true, Bool.false_eq_true, if_false, Sem.run_bind, part_acc1 a b, part_acc1 c e, Result.andThen_ok, e1]
    cases (accEq b e) <;> simp
/-- Two entries compared. -/
theorem neq_en {x y : En} (h : x ≠ y) (w : World) : (binOp .neq 43 (.agg #[.int .i64 x.k, .int .i64 x.s, .int .i64 x.e, .int .i64 x.c1, .int .i64 x.s1, .int .i64 x.m1, .int .i64 x.x1, .int .i64 x.c2, .int .i64 x.s2, .int .i64 x.m2, .int .i64 x.x2]) (.agg #[.int .i64 y.k, .int .i64 y.s, .int .i64 y.e, .int .i64 y.c1, .int .i64 y.s1, .int .i64 y.m1, .int .i64 y.x1, .int .i64 y.c2, .int .i64 y.s2, .int .i64 y.m2, .int .i64 y.x2])).run Try.prog w = .ok (.bool true) w := by
  have harr := fun d W => eql_accs d x.a x.b y.a y.b W
  simp only [En.a, En.b] at harr
  have hx : ¬ (x.k = y.k ∧ (x.s = y.s ∧ x.e = y.e) ∧ (accEq x.a y.a && accEq x.b y.b) = true) := fun hh => h (en_ext hh.1 hh.2.1.1 hh.2.1.2 (accEq_iff.1 (by have := hh.2.2; simp at this; exact this.1)) (accEq_iff.1 (by have := hh.2.2; simp at this; exact this.2)))
  go_simp
  intro q1 q2 q3 q4
  cases hq : accEq ⟨x.c2, x.s2, x.m2, x.x2⟩ ⟨y.c2, y.s2, y.m2, y.x2⟩ with
  | false => rfl
  | true => exact absurd ⟨q1, ⟨q2, q3⟩, by rw [Bool.and_eq_true]; exact ⟨q4, hq⟩⟩ hx
theorem neq_en' (x : En) (w : World) : (binOp .neq 43 (.agg #[.int .i64 x.k, .int .i64 x.s, .int .i64 x.e, .int .i64 x.c1, .int .i64 x.s1, .int .i64 x.m1, .int .i64 x.x1, .int .i64 x.c2, .int .i64 x.s2, .int .i64 x.m2, .int .i64 x.x2]) (.agg #[.int .i64 x.k, .int .i64 x.s, .int .i64 x.e, .int .i64 x.c1, .int .i64 x.s1, .int .i64 x.m1, .int .i64 x.x1, .int .i64 x.c2, .int .i64 x.s2, .int .i64 x.m2, .int .i64 x.x2])).run Try.prog w = .ok (.bool false) w := by
  have harr := fun d W => eql_accs d x.a x.b x.a x.b W
  simp only [En.a, En.b] at harr
  have hs : ∀ a : Acc, accEq a a = true := fun a => accEq_iff.2 rfl
  go_simp
def entsEq (l m : List En) : Bool := decide (l = m)
theorem take_en {l m : List En} {k : Nat} {x : En} (h : l.take k = m.take k) (hx : l[k]? = some x) (hy : m[k]? = some x) : l.take (k + 1) = m.take (k + 1) := by
  rw [List.take_add_one, List.take_add_one, h, hx, hy]
theorem ne_en {l m : List En} {k : Nat} {x y : En} (hx : l[k]? = some x) (hy : m[k]? = some y) (h : x ≠ y) : l ≠ m := fun e => by
  subst e
  rw [hx] at hy
  exact h (Option.some.inj hy)
set_option maxHeartbeats 4000000 in
set_option maxRecDepth 100000 in
theorem rsameE_any (A A' : Option Addr) (c c' n n' : Nat) (l m : List En) (w : World) (hl : Rd enenc 11 w w.heap.size A l) (hm : Rd enenc 11 w w.heap.size A' m) (hn : l.length = n) (hn' : m.length = n') (hb : n ≤ 4611686018427387904) :
    Calls Try.prog 32 #[.slice A n c, .slice A' n' c'] w fun e w' => e = .returned (.bool (entsEq l m)) ∧ Below w.heap.size w w' := by
  by_cases hlen : n = n'
  · subst hlen
    have h1 : ((n : Int) != (n : Int)) = false := by simp
    have hl' := Lib.hid hn; have hm' := Lib.hid hn'
    clear hn hn'
    go_enter Try.func32, Try.ntmps32
    go_wp2
    go_loopw [5] (fun i wr => ∃ k : Nat, k ≤ n ∧ i = .int .i64 k ∧ l.take k = m.take k ∧ ∃ q : Nat, wr = w.drewN q) (fun i _ => n - (intOf i).toNat)
    case atStart => exact ⟨0, Nat.zero_le _, rfl, by simp, 0, rfl⟩
    case round =>
      obtain ⟨k, hk, rfl, hall, q, rfl⟩ := hrel
      by_cases hlt : k < n
      · obtain ⟨x, hx⟩ : ∃ x, l[k]? = some x := ⟨_, List.getElem?_eq_getElem (by rw [hl'.out]; exact hlt)⟩
        obtain ⟨y, hy⟩ : ∃ x, m[k]? = some x := ⟨_, List.getElem?_eq_getElem (by rw [hm'.out]; exact hlt)⟩
        obtain ⟨b, off, rfl, hb, f0, f1, f2, f3, f4, f5, f6, f7, f8, f9, f10⟩ := en_cells hl hx
        obtain ⟨b', off', rfl, hb', g0, g1, g2, g3, g4, g5, g6, g7, g8, g9, g10⟩ := en_cells hm hy
        by_cases he : x = y
        · subst he
          have HT := Lib.hid (take_en hall hx hy)
          have hrun := neq_en' x
          clear hl hm hall hx hy
          go_wp2
          go_quiet (fail)
          go_wp2
          go_roundw
          case rel => exact ⟨k + 1, by omega, by go_num, HT.out, _, rfl⟩
          case measure => simp [intOf]; omega
        · have hf : entsEq l m = false := decide_eq_false (ne_en hx hy he)
          have HF := Lib.hid hf
          have hrun := neq_en he
          clear hl hm hall hx hy hf he
          go_wp2
          go_quiet (fail)
          go_wp2
          go_ret
          exact ⟨ret_bool HF.out.symm, (by repeat (first | exact Below.refl _ _ | assumption | (with_reducible exact Env.below (by assumption)) | (with_reducible refine below_new ?_ _) | (with_reducible refine below_drew ?_) | (with_reducible refine below_drewN ?_ _) | (with_reducible refine below_put ?_ ?_ _; rotate_left 1; (dsimp only; omega)) | (refine below_then ?_ (by assumption))))⟩
      · have hkn : k = n := by omega
        rw [hkn] at hall
        rw [List.take_of_length_le (by have := hl'.out; omega), List.take_of_length_le (by have := hm'.out; omega)] at hall
        have hf : entsEq l m = true := decide_eq_true hall
        have HF := Lib.hid hf
        clear hall hkn hf
        go_wp2
        go_ret
        exact ⟨ret_bool HF.out.symm, (by repeat (first | exact Below.refl _ _ | assumption | (with_reducible exact Env.below (by assumption)) | (with_reducible refine below_new ?_ _) | (with_reducible refine below_drew ?_) | (with_reducible refine below_drewN ?_ _) | (with_reducible refine below_put ?_ ?_ _; rotate_left 1; (dsimp only; omega)) | (refine below_then ?_ (by assumption))))⟩
  · have h1 : ((n : Int) != (n' : Int)) = true := by simp; omega
    have hf : entsEq l m = false := decide_eq_false (fun e => hlen (by rw [← hn, ← hn', e]))
    have HF := Lib.hid hf
    clear hlen hf hn hn'
    go_enter Try.func32, Try.ntmps32
    go_wp2
    go_ret
    exact ⟨ret_bool HF.out.symm, (by repeat (first | exact Below.refl _ _ | assumption | (with_reducible exact Env.below (by assumption)) | (with_reducible refine below_new ?_ _) | (with_reducible refine below_drew ?_) | (with_reducible refine below_drewN ?_ _) | (with_reducible refine below_put ?_ ?_ _; rotate_left 1; (dsimp only; omega)) | (refine below_then ?_ (by assumption))))⟩
def greatE (n : Nat) : Bool := decide (150 < n ∧ n ≤ 4000 ∨ 4002 < n)
theorem greatE_any (A : Option Addr) (n c : Nat) (w : World) (hn : n ≤ 4611686018427387904) : Calls Try.prog 40 #[.slice A n c] w fun e w' => e = .returned (.bool (greatE n)) ∧ w = w' := by
  go_enter Try.func40, Try.ntmps40
  go_wp2
  all_goals (go_ret; exact ⟨ret_bool (by unfold greatE; first | (rw [decide_eq_decide]; omega) | (simp; omega) | grind), rfl⟩)
end Go.Proofs.Ytbbdepeifdbbdaa
