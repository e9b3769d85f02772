/- The law law34.SinkNames returns true at every input, and leaves its arguments as they were. No condition. -/
import Derived.Test.YtffehibdeogjeaaSinkNames
import Derived.Test.YtffehibdeogjeaaKitA
import Derived.Test.YtffehibdeogjeaaClosed1
import Derived.Test.YtffehibdeogjeaaClosed2
import Derived.Test.YtffehibdeogjeaaClosed3
namespace Go.Proofs.Ytffehibdeogjeaa
open Go.RowKit Go.ChangeShapes Go.WideShapes Go.ChangeAt
theorem and_t {a b : Bool} (h1 : a = true) (h2 : b = true) : (a && b) = true := by rw [h1, h2]; rfl
set_option maxRecDepth 100000 in
theorem sinkNames_lifted (os : Os) (started : os.Started) (H : Type) (enc : TypeId × Value → H) :
    ReturnsInHanded {} Try.checked os 20 .any (Rows.sinkNamesSpec.pre6 enc Try.prog Try.f20 Rows.sinkNamesRow.domain false) (Rows.sinkNamesSpec.post enc Try.prog Try.f20 false true false false) := by
  refine law_lift (C := Try.checked) (tb := 4) started (by kernel_rfl) (by kernel_rfl) Try.func20
    (ChangeSpec.witness6 (enc := enc) (C := Try.checked) false ⟨#[], #[], []⟩ 8 (by kernel_rfl) (by kernel_rfl) (by kernel_rfl) (by kernel_rfl))
    rfl rfl Try.underlying4 (by kernel_rfl) (by kernel_rfl) (fun ds hl => ?_) ?_
  · match ds, hl with
    | [], _ => rfl
  · intro W base args ds ps hval0 hA0 hlt hsz
    have hA : DataW.TrodAll enc Try.prog W 0 (fun _ => true) true Try.f20.params.toList args.toList ds ps := hA0
    rw [Try.params20] at hA
    obtain ⟨rfl, rfl, rfl⟩ := trodAll_none hA
    exact sinkNames_walk W
set_option maxRecDepth 100000 in
set_option maxHeartbeats 16000000 in
theorem sinkNames_closed : joinedFacts Try.pinned.checked.prog 20 Try.f20 Rows.sinkNamesSpec Rows.sinkNamesRow = true := by
  unfold joinedFacts
  refine and_t ?_ (by as_aux_lemma => kernel_rfl)
  refine and_t ?_ (by as_aux_lemma => kernel_rfl)
  refine and_t ?_ (by as_aux_lemma => kernel_rfl)
  refine and_t ?_ (by as_aux_lemma => kernel_rfl)
  refine and_t ?_ make_is
  refine and_t ?_ lifts_final
  refine and_t ?_ may_enter
  repeat (with_reducible refine and_t ?_ ?_; rotate_left 1; (as_aux_lemma => kernel_rfl))
  kernel_rfl
theorem sinkNames_over : Rows.sinkNamesRow.holds Try.pinned (OpenSpec.ofChange Rows.sinkNamesSpec) :=
  OpenClaim.holds_of_wide 20 Try.f20 rfl rfl rfl rfl rfl rfl rfl ⟨rfl, rfl, rfl, rfl, rfl⟩ rfl rfl rfl rfl rfl (by kernel_rfl) Try.func20 sinkNames_closed
    (of_decide_eq_true (by kernel_rfl)) (by unfold Func.isWrapper; first | (rw [if_pos (by decide +kernel)]; kernel_rfl) | (rw [if_neg (by decide +kernel)]; exact ⟨rfl, rfl⟩))
    (fun os started H enc _ => sinkNames_lifted os started H enc)
/-- The statement. -/
theorem sinkNames_proved : Rows.SinkNamesSaid := sinkNames_over
end Go.Proofs.Ytffehibdeogjeaa
