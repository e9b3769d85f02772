/- Entries compared. No condition. -/
import Derived.Test.YtffehibdeogjeaaKitE
import Derived.ChangeKeysEq
namespace Go.Proofs.Ytffehibdeogjeaa
open Go.RowKit

theorem info_acc : ∃ i, Try.prog.info? 128 = some i ∧ Try.prog.cellsOf 128 = 4 := by
  have h : ((Try.prog.info? 128).isSome && decide (Try.prog.cellsOf 128 = 4)) = true := by kernel_rfl
  simp only [Bool.and_eq_true, decide_eq_true_eq] at h
  obtain ⟨i, hi⟩ := Option.isSome_iff_exists.1 h.1
  exact ⟨i, hi, h.2⟩
def accs (a : Acc) : List Value := [.int .i64 a.c, .int .i64 a.s, .int .i64 a.m, .int .i64 a.x]
theorem eql_acc (d : Nat) (a b : Acc) (w : World) : (Op.equalIn (d + 2) 128 (.agg #[.int .i64 a.c, .int .i64 a.s, .int .i64 a.m, .int .i64 a.x]) (.agg #[.int .i64 b.c, .int .i64 b.s, .int .i64 b.m, .int .i64 b.x])).run Try.prog w = .ok (a.c == b.c && (a.s == b.s && (a.m == b.m && a.x == b.x))) w := by
  go_simp
  by_cases h1 : a.c = b.c <;> by_cases h2 : a.s = b.s <;> by_cases h3 : a.m = b.m <;> by_cases h4 : a.x = b.x <;> simp [h1, h2, h3, h4]
theorem part_acc0 (a b : Acc) (w : World) : (part 128 #[.int .i64 a.c, .int .i64 a.s, .int .i64 a.m, .int .i64 a.x, .int .i64 b.c, .int .i64 b.s, .int .i64 b.m, .int .i64 b.x] 0).run Try.prog w = .ok (.agg #[.int .i64 a.c, .int .i64 a.s, .int .i64 a.m, .int .i64 a.x]) w := by kernel_rfl
theorem part_acc1 (a b : Acc) (w : World) : (part 128 #[.int .i64 a.c, .int .i64 a.s, .int .i64 a.m, .int .i64 a.x, .int .i64 b.c, .int .i64 b.s, .int .i64 b.m, .int .i64 b.x] 4).run Try.prog w = .ok (.agg #[.int .i64 b.c, .int .i64 b.s, .int .i64 b.m, .int .i64 b.x]) w := by kernel_rfl
def accEq (a b : Acc) : Bool := a.c == b.c && (a.s == b.s && (a.m == b.m && a.x == b.x))
theorem accEq_iff {a b : Acc} : accEq a b = true ↔ a = b := by
  obtain ⟨a1, a2, a3, a4⟩ := a
  obtain ⟨b1, b2, b3, b4⟩ := b
  simp [accEq]
theorem eql_accs (d : Nat) (a b c e : Acc) (w : World) : (Op.equalIn (d + 3) 129 (.agg #[.int .i64 a.c, .int .i64 a.s, .int .i64 a.m, .int .i64 a.x, .int .i64 b.c, .int .i64 b.s, .int .i64 b.m, .int .i64 b.x]) (.agg #[.int .i64 c.c, .int .i64 c.s, .int .i64 c.m, .int .i64 c.x, .int .i64 e.c, .int .i64 e.s, .int .i64 e.m, .int .i64 e.x])).run Try.prog w = .ok (accEq a c && accEq b e) w := by
  obtain ⟨i, hi, hc⟩ := info_acc
  rw [run_equalIn_array w (d + 2) _ _ Try.underlying129 hi, hc]
  rw [show List.range 2 = [0, 1] from rfl]
  have e1 : ∀ x y : Acc, ∀ W, (Op.equalIn (d + 2) 128 (.agg #[.int .i64 x.c, .int .i64 x.s, .int .i64 x.m, .int .i64 x.x]) (.agg #[.int .i64 y.c, .int .i64 y.s, .int .i64 y.m, .int .i64 y.x])).run Try.prog W = .ok (accEq x y) W := fun x y W => eql_acc d x y W
  simp only [Op.eqItems, Sem.run_bind, Nat.zero_mul, Nat.one_mul, part_acc0 a b, part_acc0 c e, Result.andThen_ok, e1]
  cases (accEq a c)
  · simp
  · simp only [Bool.not_true, Bool.false_eq_true, if_false, Sem.run_bind, part_acc1 a b, part_acc1 c e, Result.andThen_ok, e1]
    cases (accEq b e) <;> simp
theorem neq_en' (x : En) (w : World) : (binOp .neq 131 (.agg #[.int .i64 x.k, .int .i64 x.s, .int .i64 x.e, .int .i64 x.c1, .int .i64 x.s1, .int .i64 x.m1, .int .i64 x.x1, .int .i64 x.c2, .int .i64 x.s2, .int .i64 x.m2, .int .i64 x.x2]) (.agg #[.int .i64 x.k, .int .i64 x.s, .int .i64 x.e, .int .i64 x.c1, .int .i64 x.s1, .int .i64 x.m1, .int .i64 x.x1, .int .i64 x.c2, .int .i64 x.s2, .int .i64 x.m2, .int .i64 x.x2])).run Try.prog w = .ok (.bool false) w := by
  have harr := fun d W => eql_accs d x.a x.b x.a x.b W
  simp only [En.a, En.b] at harr
  have hs : ∀ a : Acc, accEq a a = true := fun a => accEq_iff.2 rfl
  go_simp
end Go.Proofs.Ytffehibdeogjeaa
