/- The law law34.SinkSorted returns true at every input, and leaves its arguments as they were. No condition. -/
import Derived.Test.YtffehibdeogjeaaSinkSorted
import Derived.Test.YtffehibdeogjeaaOpen
import Derived.Test.YtffehibdeogjeaaClosed1
import Derived.Test.YtffehibdeogjeaaClosed2
import Derived.Test.YtffehibdeogjeaaClosed3
namespace Go.Proofs.Ytffehibdeogjeaa
open Go.RowKit Go.ChangeShapes Go.WideShapes Go.ChangeAt
theorem and_t {a b : Bool} (h1 : a = true) (h2 : b = true) : (a && b) = true := by rw [h1, h2]; rfl
set_option maxRecDepth 100000 in
theorem sinkSorted_lifted (os : Os) (started : os.Started) (H : Type) (enc : TypeId × Value → H) :
    ReturnsInHanded {} Try.checked os 11 .any (Rows.sinkSortedSpec.pre6 enc Try.prog Try.f11 Rows.sinkSortedRow.domain false) (Rows.sinkSortedSpec.post enc Try.prog Try.f11 false true false false) := by
  refine law_lift (C := Try.checked) (tb := 4) started (by kernel_rfl) (by kernel_rfl) Try.func11
    (ChangeSpec.witness6 (enc := enc) (C := Try.checked) false ⟨#[], #[.slice none 0 0, .slice none 0 0], []⟩ 8 (by kernel_rfl) (by kernel_rfl) (by kernel_rfl) (by kernel_rfl))
    rfl rfl Try.underlying4 (by kernel_rfl) (by kernel_rfl) (fun ds hl => ?_) ?_
  · match ds, hl with
    | [_, _], _ => rfl
  · intro W base args ds ps hval0 hA0 hlt hsz
    have hval : ∀ (j : Nat) t v, Try.f11.params[j]? = some t → args[j]? = some v → Value.okWide Try.prog W .any base t v := hval0
    have hA : DataW.TrodAll enc Try.prog W 0 (fun _ => true) true Try.f11.params.toList args.toList ds ps := hA0
    rw [Try.params11] at hA hval hsz
    clear hA0 hval0
    obtain ⟨v0, vs0, d0, ds0, p0, q0, hargs, rfl, rfl, h0, r0⟩ := trodAll_cons hA
    obtain ⟨v1, vs1, d1, ds1, p1, q1, rfl, rfl, rfl, h1, r1⟩ := trodAll_cons r0
    obtain ⟨rfl, rfl, rfl⟩ := trodAll_nil r1
    obtain rfl : args = #[v0, v1] := by cases args; simp_all
    obtain ⟨A0, c0, l0, rfl, lc0, lm0, lw0, lr0⟩ := open_rows (n := 9) [some .i64, some .i64, some .i64, some .i64, some .i64] wenc rowok Try.underlying64 (by kernel_rfl) (by kernel_rfl) wenc_dec (by decide) (hval 0 64 v0 rfl rfl) h0
    have ln0 := open_none Try.underlying64 h0
    obtain ⟨A1, c1, l1, rfl, lc1, lm1, lw1, lr1⟩ := open_rows (n := 9) [some .i64, some .i64, some .i64, some .i64, some .i64] wenc rowok Try.underlying64 (by kernel_rfl) (by kernel_rfl) wenc_dec (by decide) (hval 1 64 v1 rfl rfl) h1
    have ln1 := open_none Try.underlying64 h1
    exact sinkSorted_walk (w := W) A0 c0 l0 lc0 lm0 lw0 lr0 ln0 A1 c1 l1 lc1 lm1 lw1 lr1 ln1
set_option maxRecDepth 100000 in
set_option maxHeartbeats 16000000 in
theorem sinkSorted_closed : joinedFacts Try.pinned.checked.prog 11 Try.f11 Rows.sinkSortedSpec Rows.sinkSortedRow = true := by
  unfold joinedFacts
  refine and_t ?_ (by as_aux_lemma => kernel_rfl)
  refine and_t ?_ (by as_aux_lemma => kernel_rfl)
  refine and_t ?_ (by as_aux_lemma => kernel_rfl)
  refine and_t ?_ (by as_aux_lemma => kernel_rfl)
  refine and_t ?_ make_is
  refine and_t ?_ lifts_final
  refine and_t ?_ may_enter
  repeat (with_reducible refine and_t ?_ ?_; rotate_left 1; (as_aux_lemma => kernel_rfl))
  kernel_rfl
theorem sinkSorted_over : Rows.sinkSortedRow.holds Try.pinned (OpenSpec.ofChange Rows.sinkSortedSpec) :=
  OpenClaim.holds_of_wide 11 Try.f11 rfl rfl rfl rfl rfl rfl rfl ⟨rfl, rfl, rfl, rfl, rfl⟩ rfl rfl rfl rfl rfl (by kernel_rfl) Try.func11 sinkSorted_closed
    (of_decide_eq_true (by kernel_rfl)) (by unfold Func.isWrapper; first | (rw [if_pos (by decide +kernel)]; kernel_rfl) | (rw [if_neg (by decide +kernel)]; exact ⟨rfl, rfl⟩))
    (fun os started H enc _ => sinkSorted_lifted os started H enc)
/-- The statement. -/
theorem sinkSorted_proved : Rows.SinkSortedSaid := sinkSorted_over
end Go.Proofs.Ytffehibdeogjeaa
