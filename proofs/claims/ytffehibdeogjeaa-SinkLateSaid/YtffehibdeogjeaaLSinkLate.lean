/- The law law34.SinkLate returns true at every input, and leaves its arguments as they were. No condition. -/
import Derived.Test.YtffehibdeogjeaaSinkLate
import Derived.Test.YtffehibdeogjeaaOpen
import Derived.Test.YtffehibdeogjeaaClosed1
import Derived.Test.YtffehibdeogjeaaClosed2
import Derived.Test.YtffehibdeogjeaaClosed3
namespace Go.Proofs.Ytffehibdeogjeaa
open Go.RowKit Go.ChangeShapes Go.WideShapes Go.ChangeAt
theorem and_t {a b : Bool} (h1 : a = true) (h2 : b = true) : (a && b) = true := by rw [h1, h2]; rfl
set_option maxRecDepth 100000 in
theorem sinkLate_lifted (os : Os) (started : os.Started) (H : Type) (enc : TypeId × Value → H) :
    ReturnsInHanded {} Try.checked os 10 .any (Rows.sinkLateSpec.pre6 enc Try.prog Try.f10 Rows.sinkLateRow.domain false) (Rows.sinkLateSpec.post enc Try.prog Try.f10 false true false false) := by
  refine law_lift (C := Try.checked) (tb := 4) started (by kernel_rfl) (by kernel_rfl) Try.func10
    (ChangeSpec.witness6 (enc := enc) (C := Try.checked) false ⟨#[], #[.slice none 0 0], []⟩ 8 (by kernel_rfl) (by kernel_rfl) (by kernel_rfl) (by kernel_rfl))
    rfl rfl Try.underlying4 (by kernel_rfl) (by kernel_rfl) (fun ds hl => ?_) ?_
  · match ds, hl with
    | [_], _ => rfl
  · intro W base args ds ps hval0 hA0 hlt hsz
    have hval : ∀ (j : Nat) t v, Try.f10.params[j]? = some t → args[j]? = some v → Value.okWide Try.prog W .any base t v := hval0
    have hA : DataW.TrodAll enc Try.prog W 0 (fun _ => true) true Try.f10.params.toList args.toList ds ps := hA0
    rw [Try.params10] at hA hval hsz
    clear hA0 hval0
    obtain ⟨v0, vs0, d0, ds0, p0, q0, hargs, rfl, rfl, h0, r0⟩ := trodAll_cons hA
    obtain ⟨rfl, rfl, rfl⟩ := trodAll_nil r0
    obtain rfl : args = #[v0] := by cases args; simp_all
    obtain ⟨A0, c0, l0, rfl, lc0, lm0, lw0, lr0⟩ := open_rows (n := 9) [some .i64, some .i64, some .i64] renc recok Try.underlying65 (by kernel_rfl) (by kernel_rfl) renc_dec (by decide) (hval 0 65 v0 rfl rfl) h0
    have ln0 := open_none Try.underlying65 h0
    exact sinkLate_walk (w := W) A0 c0 l0 lc0 lm0 lw0 lr0 ln0
set_option maxRecDepth 100000 in
set_option maxHeartbeats 16000000 in
theorem sinkLate_closed : joinedFacts Try.pinned.checked.prog 10 Try.f10 Rows.sinkLateSpec Rows.sinkLateRow = true := by
  unfold joinedFacts
  refine and_t ?_ (by as_aux_lemma => kernel_rfl)
  refine and_t ?_ (by as_aux_lemma => kernel_rfl)
  refine and_t ?_ (by as_aux_lemma => kernel_rfl)
  refine and_t ?_ (by as_aux_lemma => kernel_rfl)
  refine and_t ?_ make_is
  refine and_t ?_ lifts_final
  refine and_t ?_ may_enter
  repeat (with_reducible refine and_t ?_ ?_; rotate_left 1; (as_aux_lemma => kernel_rfl))
  kernel_rfl
theorem sinkLate_over : Rows.sinkLateRow.holds Try.pinned (OpenSpec.ofChange Rows.sinkLateSpec) :=
  OpenClaim.holds_of_wide 10 Try.f10 rfl rfl rfl rfl rfl rfl rfl ⟨rfl, rfl, rfl, rfl, rfl⟩ rfl rfl rfl rfl rfl (by kernel_rfl) Try.func10 sinkLate_closed
    (of_decide_eq_true (by kernel_rfl)) (by unfold Func.isWrapper; first | (rw [if_pos (by decide +kernel)]; kernel_rfl) | (rw [if_neg (by decide +kernel)]; exact ⟨rfl, rfl⟩))
    (fun os started H enc _ => sinkLate_lifted os started H enc)
/-- The statement. -/
theorem sinkLate_proved : Rows.SinkLateSaid := sinkLate_over
end Go.Proofs.Ytffehibdeogjeaa
