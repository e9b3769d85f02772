/- Lemmas and contracts for the statement, joined into one text: AggEq. The conditions of each stand at its head. -/
import Derived.Test.YtnljihjhmgpcoaaGreatJ1
import Derived.ChangeKeysEq
namespace Go.Proofs.YtnljihjhmgpcoaaGreat
open Go.RowKit
theorem info_i64 : ∃ i, Tryz.prog.info? 2 = some i ∧ Tryz.prog.cellsOf 2 = 1 := by
 have h : ((Tryz.prog.info? 2).isSome && decide (Tryz.prog.cellsOf 2 = 1)) = true := by kernel_rfl
 simp only [Bool.and_eq_true, decide_eq_true_eq] at h
 obtain ⟨i, hi⟩ := Option.isSome_iff_exists.1 h.1
 exact ⟨i, hi, h.2⟩
theorem eql_i64 (d : Nat) (a b : Int) (w : World) : (Op.equalIn (d + 1) 2 (.int .i64 a) (.int .i64 b)).run Tryz.prog w = .ok (a == b) w := by
 simp [Op.equalIn, run_underlying Tryz.underlying2]
theorem part_i64 (xs : Array Value) (o : Nat) (v : Value) (h : xs[o]? = some v) (w : World) : (part 2 xs o).run Tryz.prog w = .ok v w := by
 go_simp
theorem eql_arr2 (d : Nat) (a b c e : Int) (w : World) : (Op.equalIn (d + 2) 63 (.agg #[.int .i64 a, .int .i64 b]) (.agg #[.int .i64 c, .int .i64 e])).run Tryz.prog w = .ok (a == c && b == e) w := by
 obtain ⟨i, hi, hc⟩ := info_i64
 rw [run_equalIn_array w (d + 1) _ _ Tryz.underlying63 hi, hc]
 rw [show List.range 2 = [0, 1] from rfl]
 simp only [Op.eqItems, Sem.run_bind, Nat.zero_mul, Nat.one_mul, part_i64 #[.int .i64 a, .int .i64 b] 0 (.int .i64 a) rfl, part_i64 #[.int .i64 c, .int .i64 e] 0 (.int .i64 c) rfl, Result.andThen_ok, eql_i64]
 cases (a == c)
 ·simp
 ·simp only [Bool.not_true, Bool.false_eq_true, if_false, Sem.run_bind, part_i64 #[.int .i64 a, .int .i64 b] 1 (.int .i64 b) rfl, part_i64 #[.int .i64 c, .int .i64 e] 1 (.int .i64 e) rfl, Result.andThen_ok, eql_i64]
  cases (b == e) <;> simp
end Go.Proofs.YtnljihjhmgpcoaaGreat
