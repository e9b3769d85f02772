/- The law top.TopWindows returns true at every input, and leaves its arguments as they were. No condition. -/
import Derived.Test.YtbbdepeifdbbdaaTopWalk
import Derived.Test.YtbbdepeifdbbdaaKitA
import Derived.Test.YtbbdepeifdbbdaaClosed1
import Derived.Test.YtbbdepeifdbbdaaClosed2
import Derived.Test.YtbbdepeifdbbdaaClosed3
namespace Go.Proofs.Ytbbdepeifdbbdaa
open Go.RowKit Go.ChangeShapes Go.WideShapes Go.ChangeAt
theorem and_t {a b : Bool} (h1 : a = true) (h2 : b = true) : (a && b) = true := by rw [h1, h2]; rfl
set_option maxRecDepth 100000 in
theorem topWindows_lifted (os : Os) (started : os.Started) (H : Type) (enc : TypeId × Value → H) :
    ReturnsInHanded {} Try.checked os 3 .any (Rows.topWindowsSpec.pre6 enc Try.prog Try.f3 Rows.topWindowsRow.domain false) (Rows.topWindowsSpec.post enc Try.prog Try.f3 false true false false) := by
  refine law_lift (C := Try.checked) (tb := 4) started (by kernel_rfl) (by kernel_rfl) Try.func3
    (ChangeSpec.witness6 (enc := enc) (C := Try.checked) false ⟨#[], #[.agg #[.int .u8 0, .int .i64 0, .int .i64 0], .slice none 0 0, .int .i64 0], []⟩ 8 (by kernel_rfl) (by kernel_rfl) (by kernel_rfl) (by kernel_rfl))
    rfl rfl Try.underlying4 (by kernel_rfl) (by kernel_rfl) (fun ds hl => ?_) ?_
  · match ds, hl with
    | [_, _, _], _ => rfl
  · intro W base args ds ps hval0 hA0 hlt hsz
    have hval : ∀ (j : Nat) t v, Try.f3.params[j]? = some t → args[j]? = some v → Value.okWide Try.prog W .any base t v := hval0
    have hA : DataW.TrodAll enc Try.prog W 0 (fun _ => true) true Try.f3.params.toList args.toList ds ps := hA0
    rw [Try.params3] at hA hval hsz
    clear hA0 hval0
    obtain ⟨v0, vs0, d0, ds0, p0, q0, hargs, rfl, rfl, h0, r0⟩ := trodAll_cons hA
    obtain ⟨v1, vs1, d1, ds1, p1, q1, rfl, rfl, rfl, h1, r1⟩ := trodAll_cons r0
    obtain ⟨v2, vs2, d2, ds2, p2, q2, rfl, rfl, rfl, h2, r2⟩ := trodAll_cons r1
    obtain ⟨rfl, rfl, rfl⟩ := trodAll_nil r2
    obtain rfl : args = #[v0, v1, v2] := by cases args; simp_all
    obtain ⟨sv0, rfl, sf0⟩ := open_flat (n := 9) [some .u8, some .i64, some .i64] Try.underlying23 (by kernel_rfl) (by kernel_rfl) (hval 0 23 v0 rfl rfl) h0
    obtain ⟨a0_0, sv0, rfl, w0_0, sf0⟩ := sf0
    obtain ⟨a0_1, sv0, rfl, w0_1, sf0⟩ := sf0
    obtain ⟨a0_2, sv0, rfl, w0_2, sf0⟩ := sf0
    obtain rfl : sv0 = [] := sf0
    obtain ⟨A1, c1, l1, rfl, lc1, lm1, lw1, lr1⟩ := open_rows (n := 9) [some .i64, some .i64, some .i64] rcenc rctok Try.underlying24 (by kernel_rfl) (by kernel_rfl) rcenc_dec (by decide) (hval 1 24 v1 rfl rfl) h1
    have ln1 := open_none Try.underlying24 h1
    obtain ⟨a2, rfl, rfl, rfl, w2⟩ := open_int Try.underlying2 (hval 2 2 v2 rfl rfl) h2
    exact topWindows_walk (w := W) a0_0 w0_0 a0_1 w0_1 a0_2 w0_2 A1 c1 l1 lc1 lm1 lw1 lr1 ln1 a2 w2
set_option maxRecDepth 100000 in
set_option maxHeartbeats 16000000 in
theorem topWindows_closed : joinedFacts Try.pinned.checked.prog 3 Try.f3 Rows.topWindowsSpec Rows.topWindowsRow = true := by
  unfold joinedFacts
  refine and_t ?_ (by as_aux_lemma => kernel_rfl)
  refine and_t ?_ (by as_aux_lemma => kernel_rfl)
  refine and_t ?_ (by as_aux_lemma => kernel_rfl)
  refine and_t ?_ (by as_aux_lemma => kernel_rfl)
  refine and_t ?_ make_is
  refine and_t ?_ lifts_final
  refine and_t ?_ may_enter
  repeat (with_reducible refine and_t ?_ ?_; rotate_left 1; (as_aux_lemma => kernel_rfl))
  kernel_rfl
theorem topWindows_over : Rows.topWindowsRow.holds Try.pinned (OpenSpec.ofChange Rows.topWindowsSpec) :=
  OpenClaim.holds_of_wide 3 Try.f3 rfl rfl rfl rfl rfl rfl rfl ⟨rfl, rfl, rfl, rfl, rfl⟩ rfl rfl rfl rfl rfl (by kernel_rfl) Try.func3 topWindows_closed
    (of_decide_eq_true (by kernel_rfl)) (by unfold Func.isWrapper; first | (rw [if_pos (by decide +kernel)]; kernel_rfl) | (rw [if_neg (by decide +kernel)]; exact ⟨rfl, rfl⟩))
    (fun os started H enc _ => topWindows_lifted os started H enc)
/-- The statement. -/
theorem topWindows_proved : Rows.TopWindowsSaid := topWindows_over
end Go.Proofs.Ytbbdepeifdbbdaa
