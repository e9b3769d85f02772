/- The law law19.PanesCommon returns true at every input, and leaves its arguments as they were. No condition. -/
import Derived.Test.YtbbdepeifdbbdaaPaneCommon
import Derived.Test.YtbbdepeifdbbdaaKitA
import Derived.Test.YtbbdepeifdbbdaaClosed1
import Derived.Test.YtbbdepeifdbbdaaClosed2
import Derived.Test.YtbbdepeifdbbdaaClosed3
namespace Go.Proofs.Ytbbdepeifdbbdaa
open Go.RowKit Go.ChangeShapes Go.WideShapes Go.ChangeAt
theorem and_t {a b : Bool} (h1 : a = true) (h2 : b = true) : (a && b) = true := by rw [h1, h2]; rfl
set_option maxRecDepth 100000 in
theorem panesCommon_lifted (os : Os) (started : os.Started) (H : Type) (enc : TypeId × Value → H) :
    ReturnsInHanded {} Try.checked os 8 .any (Rows.panesCommonSpec.pre6 enc Try.prog Try.f8 Rows.panesCommonRow.domain false) (Rows.panesCommonSpec.post enc Try.prog Try.f8 false true false false) := by
  refine law_lift (C := Try.checked) (tb := 4) started (by kernel_rfl) (by kernel_rfl) Try.func8
    (ChangeSpec.witness6 (enc := enc) (C := Try.checked) false ⟨#[], #[.agg #[.int .u8 0, .int .i64 0, .int .i64 0], .int .i64 0], []⟩ 8 (by kernel_rfl) (by kernel_rfl) (by kernel_rfl) (by kernel_rfl))
    rfl rfl Try.underlying4 (by kernel_rfl) (by kernel_rfl) (fun ds hl => ?_) ?_
  · match ds, hl with
    | [_, _], _ => rfl
  · intro W base args ds ps hval0 hA0 hlt hsz
    have hval : ∀ (j : Nat) t v, Try.f8.params[j]? = some t → args[j]? = some v → Value.okWide Try.prog W .any base t v := hval0
    have hA : DataW.TrodAll enc Try.prog W 0 (fun _ => true) true Try.f8.params.toList args.toList ds ps := hA0
    rw [Try.params8] at hA hval hsz
    clear hA0 hval0
    obtain ⟨v0, vs0, d0, ds0, p0, q0, hargs, rfl, rfl, h0, r0⟩ := trodAll_cons hA
    obtain ⟨v1, vs1, d1, ds1, p1, q1, rfl, rfl, rfl, h1, r1⟩ := trodAll_cons r0
    obtain ⟨rfl, rfl, rfl⟩ := trodAll_nil r1
    obtain rfl : args = #[v0, v1] := by cases args; simp_all
    obtain ⟨sv0, rfl, sf0⟩ := open_flat (n := 9) [some .u8, some .i64, some .i64] Try.underlying23 (by kernel_rfl) (by kernel_rfl) (hval 0 23 v0 rfl rfl) h0
    obtain ⟨a0_0, sv0, rfl, w0_0, sf0⟩ := sf0
    obtain ⟨a0_1, sv0, rfl, w0_1, sf0⟩ := sf0
    obtain ⟨a0_2, sv0, rfl, w0_2, sf0⟩ := sf0
    obtain rfl : sv0 = [] := sf0
    obtain ⟨a1, rfl, rfl, rfl, w1⟩ := open_int Try.underlying2 (hval 1 2 v1 rfl rfl) h1
    exact panesCommon_walk a0_0 w0_0 a0_1 w0_1 a0_2 w0_2 a1 w1 W
set_option maxRecDepth 100000 in
set_option maxHeartbeats 16000000 in
theorem panesCommon_closed : joinedFacts Try.pinned.checked.prog 8 Try.f8 Rows.panesCommonSpec Rows.panesCommonRow = true := by
  unfold joinedFacts
  refine and_t ?_ (by as_aux_lemma => kernel_rfl)
  refine and_t ?_ (by as_aux_lemma => kernel_rfl)
  refine and_t ?_ (by as_aux_lemma => kernel_rfl)
  refine and_t ?_ (by as_aux_lemma => kernel_rfl)
  refine and_t ?_ make_is
  refine and_t ?_ lifts_final
  refine and_t ?_ may_enter
  repeat (with_reducible refine and_t ?_ ?_; rotate_left 1; (as_aux_lemma => kernel_rfl))
  kernel_rfl
theorem panesCommon_over : Rows.panesCommonRow.holds Try.pinned (OpenSpec.ofChange Rows.panesCommonSpec) :=
  OpenClaim.holds_of_wide 8 Try.f8 rfl rfl rfl rfl rfl rfl rfl ⟨rfl, rfl, rfl, rfl, rfl⟩ rfl rfl rfl rfl rfl (by kernel_rfl) Try.func8 panesCommon_closed
    (of_decide_eq_true (by kernel_rfl)) (by unfold Func.isWrapper; first | (rw [if_pos (by decide +kernel)]; kernel_rfl) | (rw [if_neg (by decide +kernel)]; exact ⟨rfl, rfl⟩))
    (fun os started H enc _ => panesCommon_lifted os started H enc)
/-- The statement. -/
theorem panesCommon_proved : Rows.PanesCommonSaid := panesCommon_over
end Go.Proofs.Ytbbdepeifdbbdaa
