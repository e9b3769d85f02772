/- The law law14.SlideNames returns true at every input, and leaves its arguments as they were. No condition. -/
import Derived.Test.YtkpgigkcnmjbdaaSlideNames
import Derived.Test.YtkpgigkcnmjbdaaOpen
namespace Go.Proofs.Ytkpgigkcnmjbdaa
open Go.RowKit Go.ChangeShapes Go.WideShapes Go.ChangeAt
set_option maxRecDepth 100000 in
theorem slideNames_lifted (os : Os) (started : os.Started) (H : Type) (enc : TypeId × Value → H) :
    ReturnsInHanded {} Try.checked os 19 .any (Rows.slideNamesSpec.pre6 enc Try.prog Try.f19 Rows.slideNamesRow.domain false) (Rows.slideNamesSpec.post enc Try.prog Try.f19 false true false false) := by
  refine law_lift (C := Try.checked) (tb := 4) started (by kernel_rfl) (by kernel_rfl) Try.func19
    (ChangeSpec.witness6 (enc := enc) (C := Try.checked) false ⟨#[], #[], []⟩ 8 (by kernel_rfl) (by kernel_rfl) (by kernel_rfl) (by kernel_rfl))
    rfl rfl Try.underlying4 (by kernel_rfl) (by kernel_rfl) (fun ds hl => ?_) ?_
  · match ds, hl with
    | [], _ => rfl
  · intro W base args ds ps hval0 hA0 hlt hsz
    have hA : DataW.TrodAll enc Try.prog W 0 (fun _ => true) true Try.f19.params.toList args.toList ds ps := hA0
    rw [Try.params19] at hA
    obtain ⟨rfl, rfl, rfl⟩ := trodAll_none hA
    exact slideNames_walk W
theorem slideNames_over : Rows.slideNamesRow.holds Try.pinned (OpenSpec.ofChange Rows.slideNamesSpec) :=
  OpenClaim.holds_of_wide 19 Try.f19 rfl rfl rfl rfl rfl rfl rfl ⟨rfl, rfl, rfl, rfl, rfl⟩ rfl rfl rfl rfl rfl (by kernel_rfl) Try.func19 (by kernel_rfl)
    (of_decide_eq_true (by kernel_rfl)) (by unfold Func.isWrapper; first | (rw [if_pos (by decide +kernel)]; kernel_rfl) | (rw [if_neg (by decide +kernel)]; exact ⟨rfl, rfl⟩))
    (fun os started H enc _ => slideNames_lifted os started H enc)
/-- The statement. -/
theorem slideNames_proved : Rows.SlideNamesSaid := slideNames_over
end Go.Proofs.Ytkpgigkcnmjbdaa
