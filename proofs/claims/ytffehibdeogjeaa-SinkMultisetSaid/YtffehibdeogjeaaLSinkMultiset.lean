/- The law law34.SinkMultiset returns true at every input, and leaves its arguments as they were. No condition. -/
import Derived.Test.YtffehibdeogjeaaSinkMultiset
import Derived.Test.YtffehibdeogjeaaKitA
import Derived.Test.YtffehibdeogjeaaClosed1
import Derived.Test.YtffehibdeogjeaaClosed2
import Derived.Test.YtffehibdeogjeaaClosed3
namespace Go.Proofs.Ytffehibdeogjeaa
open Go.RowKit Go.ChangeShapes Go.WideShapes Go.ChangeAt
theorem and_t {a b : Bool} (h1 : a = true) (h2 : b = true) : (a && b) = true := by rw [h1, h2]; rfl
set_option maxRecDepth 100000 in
theorem sinkMultiset_lifted (os : Os) (started : os.Started) (H : Type) (enc : TypeId × Value → H) :
    ReturnsInHanded {} Try.checked os 19 .any (Rows.sinkMultisetSpec.pre6 enc Try.prog Try.f19 Rows.sinkMultisetRow.domain false) (Rows.sinkMultisetSpec.post enc Try.prog Try.f19 false true false false) := by
  refine law_lift (C := Try.checked) (tb := 4) started (by kernel_rfl) (by kernel_rfl) Try.func19
    (ChangeSpec.witness6 (enc := enc) (C := Try.checked) false ⟨#[], #[.slice none 0 0], []⟩ 8 (by kernel_rfl) (by kernel_rfl) (by kernel_rfl) (by kernel_rfl))
    rfl rfl Try.underlying4 (by kernel_rfl) (by kernel_rfl) (fun ds hl => ?_) ?_
  · match ds, hl with
    | [_], _ => rfl
  · intro W base args ds ps hval0 hA0 hlt hsz
    have hval : ∀ (j : Nat) t v, Try.f19.params[j]? = some t → args[j]? = some v → Value.okWide Try.prog W .any base t v := hval0
    have hA : DataW.TrodAll enc Try.prog W 0 (fun _ => true) true Try.f19.params.toList args.toList ds ps := hA0
    rw [Try.params19] at hA hval hsz
    clear hA0 hval0
    obtain ⟨v0, vs0, d0, ds0, p0, q0, hargs, rfl, rfl, h0, r0⟩ := trodAll_cons hA
    obtain ⟨rfl, rfl, rfl⟩ := trodAll_nil r0
    obtain rfl : args = #[v0] := by cases args; simp_all
    obtain ⟨A0, c0, l0, rfl, lc0, lm0, lw0, lr0⟩ := open_rows (n := 9) [some .u8, some .i64, some .i64, some .i64, some .i64, some .i64, some .i64, some .i64, some .i64, some .i64] menc msT Try.underlying120 (by kernel_rfl) (by kernel_rfl) menc_dec (by decide) (hval 0 120 v0 rfl rfl) h0
    have ln0 := open_none Try.underlying120 h0
    exact sinkMultiset_walk (w := W) A0 c0 l0 lc0 lm0 lw0 lr0 ln0
set_option maxRecDepth 100000 in
set_option maxHeartbeats 16000000 in
theorem sinkMultiset_closed : joinedFacts Try.pinned.checked.prog 19 Try.f19 Rows.sinkMultisetSpec Rows.sinkMultisetRow = true := by
  unfold joinedFacts
  refine and_t ?_ (by as_aux_lemma => kernel_rfl)
  refine and_t ?_ (by as_aux_lemma => kernel_rfl)
  refine and_t ?_ (by as_aux_lemma => kernel_rfl)
  refine and_t ?_ (by as_aux_lemma => kernel_rfl)
  refine and_t ?_ make_is
  refine and_t ?_ lifts_final
  refine and_t ?_ may_enter
  repeat (with_reducible refine and_t ?_ ?_; rotate_left 1; (as_aux_lemma => kernel_rfl))
  kernel_rfl
theorem sinkMultiset_over : Rows.sinkMultisetRow.holds Try.pinned (OpenSpec.ofChange Rows.sinkMultisetSpec) :=
  OpenClaim.holds_of_wide 19 Try.f19 rfl rfl rfl rfl rfl rfl rfl ⟨rfl, rfl, rfl, rfl, rfl⟩ rfl rfl rfl rfl rfl (by kernel_rfl) Try.func19 sinkMultiset_closed
    (of_decide_eq_true (by kernel_rfl)) (by unfold Func.isWrapper; first | (rw [if_pos (by decide +kernel)]; kernel_rfl) | (rw [if_neg (by decide +kernel)]; exact ⟨rfl, rfl⟩))
    (fun os started H enc _ => sinkMultiset_lifted os started H enc)
/-- The statement. -/
theorem sinkMultiset_proved : Rows.SinkMultisetSaid := sinkMultiset_over
end Go.Proofs.Ytffehibdeogjeaa
