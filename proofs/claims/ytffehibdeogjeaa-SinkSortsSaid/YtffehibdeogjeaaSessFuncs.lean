/- The contracts of slices.Clone at spans and of the sessions' checks (chapter 15). Condition: lists of at most 2^40 spans. -/
import Derived.Test.YtffehibdeogjeaaSpans
import Derived.Test.YtffehibdeogjeaaSessPlain
import Derived.Test.YtffehibdeogjeaaTimersTells
import Derived.Test.YtffehibdeogjeaaTimersLawKit
import Derived.Lib.SliceRun
namespace Go.Proofs.Ytffehibdeogjeaa
open Go.RowKit

theorem sp_info : (Try.prog.info? 32).map (fun i => (i.zero, i.size, i.bytes)) = some (some (.agg #[.int .i64 0, .int .i64 0]), 2, 16) := by kernel_rfl
theorem senc_len (x : Int × Int) : (senc x).length = 2 := rfl
theorem senc_one (l : List (Int × Int)) : ∀ u ∈ l.flatMap senc, u.oneCell' = true := by
  intro u hu
  obtain ⟨x, _, hx⟩ := List.mem_flatMap.1 hu
  simp [senc] at hx
  rcases hx with rfl | rfl <;> rfl
set_option maxHeartbeats 2000000 in
set_option maxRecDepth 100000 in
theorem sclone_any (A : Option Addr) (c n : Nat) (l : List (Int × Int)) (w : World) (hln : l.length = n) (hz : A = none → c = 0) (hn : n ≤ 1099511627776) (hr : Rd senc 2 w w.heap.size A l) :
    Calls Try.prog 99 #[.slice A n c] w fun e w' => ∃ v, e = .returned v ∧ Own senc 2 w' w.heap.size 32 v l ∧ Below w.heap.size w w' := by
  obtain ⟨i0, hi0, hz0, hz1, hz2⟩ := info_parts sp_info
  have HL := Lib.hid hln
  have hu : ∀ (w : World) (a : Option Addr) (n c n' c' : Nat), (binOp .eql 103 (.slice a n c) (.slice none n' c')).run Try.prog w = .ok (.bool a.isNone) w := fun w a n c n' c' => Lib.run_eql_slice_nil w _ _ a n c n' c' Try.underlying103
  cases A with
  | none =>
    obtain rfl := hz rfl
    obtain rfl := rd_none hr
    obtain rfl : n = 0 := hln.symm
    go_enter Try.func99, Try.ntmps99
    go_wp2
    go_ret
    exact ⟨_, rfl, Own.nil _ _ _, (by repeat (first | with_reducible exact Below.refl _ _ | with_reducible assumption | (with_reducible exact Env.below (by assumption)) | (with_reducible refine below_new ?_ _) | (with_reducible refine below_drew ?_) | (with_reducible refine below_drewN ?_ _) | (with_reducible refine below_put ?_ ?_ _; rotate_left 1; (dsimp only; omega)) | (with_reducible refine below_then ?_ (by assumption))))⟩
  | some ad =>
    clear hln
    go_enter Try.func99, Try.ntmps99
    go_wp2_with (at_builtin; refine wpList_append_copy rfl (.tmp 5) (.tmp 6) 103 rfl w.heap.size 32 i0 (.agg #[.int .i64 0, .int .i64 0]) 2 16 Try.underlying103 hi0 hz0 hz1 hz2 rfl (by decide) senc senc_len w.heap.size 0 l rfl (own_empty (heap_alloc_new w (.cells #[] 32)) (Nat.le_refl _)) (some ad) n c rfl HL.out hz (rd_grown hr (by repeat (first | with_reducible exact Below.refl _ _ | with_reducible assumption | (with_reducible exact Env.below (by assumption)) | (with_reducible refine below_new ?_ _) | (with_reducible refine below_drew ?_) | (with_reducible refine below_drewN ?_ _) | (with_reducible refine below_put ?_ ?_ _; rotate_left 1; (dsimp only; omega)) | (with_reducible refine below_then ?_ (by assumption))))) (senc_one l) (by unfold maxLen; omega) (by omega) (by simp) ?_; intro g cap w2 hown2 hcap hg2 hb2)
    go_ret
    exact ⟨_, rfl, hown2, (below_new (Below.refl _ _) _).trans hb2⟩

/-- The checks of a time and a gap. -/
def sck (t g : Int) : Int := if g < 1 ∨ 1073741824 < g then 2 else if t < -1099511627776 ∨ 1099511627776 < t then 16 else 0
theorem scheck_any (t g : Int) (w : World) : Calls Try.prog 95 #[.int .i64 t, .int .i64 g] w fun e w' => e = .returned (.int .i64 (sck t g)) ∧ w = w' := by
  go_enter Try.func95, Try.ntmps95
  go_wp2
  all_goals (go_ret; exact ⟨ret_i64 (by unfold sck; grind), rfl⟩)
theorem rscheck_any (t g : Int) (w : World) : Calls Try.prog 61 #[.int .i64 t, .int .i64 g] w fun e w' => e = .returned (.int .i64 (sck t g)) ∧ w = w' := by
  go_enter Try.func61, Try.ntmps61
  go_wp2
  all_goals (go_ret; exact ⟨ret_i64 (by unfold sck; grind), rfl⟩)
theorem sgreat_any (n : Int) (w : World) : Calls Try.prog 64 #[.int .i64 n] w fun e w' => e = .returned (.bool (decide (100 < n ∧ n < 3999 ∨ 4002 < n))) ∧ w = w' := by
  go_enter Try.func64, Try.ntmps64
  go_wp2
  all_goals (go_ret; exact ⟨ret_bool (by first | (rw [decide_eq_decide]; omega) | (simp; omega) | grind), rfl⟩)
/-- A list of sessions. -/
def sok (x : Int × Int) : Prop := -1099511627776 ≤ x.1 ∧ x.1 ≤ 1099511627776 ∧ x.1 < x.2 ∧ x.2 ≤ 1100585369600
instance (x : Int × Int) : Decidable (sok x) := by unfold sok; infer_instance
/-- As far as the first k are looked at. -/
def srk (l : List (Int × Int)) (k : Nat) : Prop := (∀ i, i < k → sok (l.getD i (0, 0))) ∧ ∀ i, 0 < i → i < k → (l.getD (i - 1) (0, 0)).2 ≤ (l.getD i (0, 0)).1
def srt (l : List (Int × Int)) : Prop := l.length ≤ 4000 ∧ srk l l.length
end Go.Proofs.Ytffehibdeogjeaa
