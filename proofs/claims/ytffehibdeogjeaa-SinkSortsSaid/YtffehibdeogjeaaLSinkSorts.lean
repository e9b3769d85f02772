/- The law law34.SinkSorts returns true at every input, and leaves its arguments as they were. No condition. -/
import Derived.Test.YtffehibdeogjeaaSinkSorts
import Derived.Test.YtffehibdeogjeaaOpen
import Derived.Test.YtffehibdeogjeaaClosed1
import Derived.Test.YtffehibdeogjeaaClosed2
import Derived.Test.YtffehibdeogjeaaClosed3
namespace Go.Proofs.Ytffehibdeogjeaa
open Go.RowKit Go.ChangeShapes Go.WideShapes Go.ChangeAt
theorem and_t {a b : Bool} (h1 : a = true) (h2 : b = true) : (a && b) = true := by rw [h1, h2]; rfl
set_option maxRecDepth 100000 in
theorem sinkSorts_lifted (os : Os) (started : os.Started) (H : Type) (enc : TypeId × Value → H) :
    ReturnsInHanded {} Try.checked os 12 .any (Rows.sinkSortsSpec.pre6 enc Try.prog Try.f12 Rows.sinkSortsRow.domain false) (Rows.sinkSortsSpec.post enc Try.prog Try.f12 false true false false) := by
  refine law_lift (C := Try.checked) (tb := 4) started (by kernel_rfl) (by kernel_rfl) Try.func12
    (ChangeSpec.witness6 (enc := enc) (C := Try.checked) false ⟨#[], #[.slice none 0 0, .slice none 0 0, .slice none 0 0], []⟩ 8 (by kernel_rfl) (by kernel_rfl) (by kernel_rfl) (by kernel_rfl))
    rfl rfl Try.underlying4 (by kernel_rfl) (by kernel_rfl) (fun ds hl => ?_) ?_
  · match ds, hl with
    | [_, _, _], _ => rfl
  · intro W base args ds ps hval0 hA0 hlt hsz
    have hval : ∀ (j : Nat) t v, Try.f12.params[j]? = some t → args[j]? = some v → Value.okWide Try.prog W .any base t v := hval0
    have hA : DataW.TrodAll enc Try.prog W 0 (fun _ => true) true Try.f12.params.toList args.toList ds ps := hA0
    rw [Try.params12] at hA hval hsz
    clear hA0 hval0
    obtain ⟨v0, vs0, d0, ds0, p0, q0, hargs, rfl, rfl, h0, r0⟩ := trodAll_cons hA
    obtain ⟨v1, vs1, d1, ds1, p1, q1, rfl, rfl, rfl, h1, r1⟩ := trodAll_cons r0
    obtain ⟨v2, vs2, d2, ds2, p2, q2, rfl, rfl, rfl, h2, r2⟩ := trodAll_cons r1
    obtain ⟨rfl, rfl, rfl⟩ := trodAll_nil r2
    obtain rfl : args = #[v0, v1, v2] := by cases args; simp_all
    obtain ⟨A0, c0, l0, rfl, lc0, lm0, lw0, lr0⟩ := open_rows (n := 9) [some .i64, some .i64, some .i64, some .i64, some .i64] wenc rowok Try.underlying64 (by kernel_rfl) (by kernel_rfl) wenc_dec (by decide) (hval 0 64 v0 rfl rfl) h0
    have ln0 := open_none Try.underlying64 h0
    obtain ⟨A1, c1, l1, rfl, lc1, lm1, lw1, lr1⟩ := open_rows (n := 9) [some .i64, some .i64, some .i64, some .i64, some .i64] wenc rowok Try.underlying64 (by kernel_rfl) (by kernel_rfl) wenc_dec (by decide) (hval 1 64 v1 rfl rfl) h1
    have ln1 := open_none Try.underlying64 h1
    obtain ⟨A2, c2, l2, rfl, lc2, lm2, lw2, lr2⟩ := open_rows (n := 9) [some .i64, some .i64, some .i64] renc recok Try.underlying65 (by kernel_rfl) (by kernel_rfl) renc_dec (by decide) (hval 2 65 v2 rfl rfl) h2
    have ln2 := open_none Try.underlying65 h2
    exact sinkSorts_walk (w := W) A0 c0 l0 lc0 lm0 lw0 lr0 ln0 A1 c1 l1 lc1 lm1 lw1 lr1 ln1 A2 c2 l2 lc2 lm2 lw2 lr2 ln2
set_option maxRecDepth 100000 in
set_option maxHeartbeats 16000000 in
theorem sinkSorts_closed : joinedFacts Try.pinned.checked.prog 12 Try.f12 Rows.sinkSortsSpec Rows.sinkSortsRow = true := by
  unfold joinedFacts
  refine and_t ?_ (by as_aux_lemma => kernel_rfl)
  refine and_t ?_ (by as_aux_lemma => kernel_rfl)
  refine and_t ?_ (by as_aux_lemma => kernel_rfl)
  refine and_t ?_ (by as_aux_lemma => kernel_rfl)
  refine and_t ?_ make_is
  refine and_t ?_ lifts_final
  refine and_t ?_ may_enter
  repeat (with_reducible refine and_t ?_ ?_; rotate_left 1; (as_aux_lemma => kernel_rfl))
  kernel_rfl
theorem sinkSorts_over : Rows.sinkSortsRow.holds Try.pinned (OpenSpec.ofChange Rows.sinkSortsSpec) :=
  OpenClaim.holds_of_wide 12 Try.f12 rfl rfl rfl rfl rfl rfl rfl ⟨rfl, rfl, rfl, rfl, rfl⟩ rfl rfl rfl rfl rfl (by kernel_rfl) Try.func12 sinkSorts_closed
    (of_decide_eq_true (by kernel_rfl)) (by unfold Func.isWrapper; first | (rw [if_pos (by decide +kernel)]; kernel_rfl) | (rw [if_neg (by decide +kernel)]; exact ⟨rfl, rfl⟩))
    (fun os started H enc _ => sinkSorts_lifted os started H enc)
/-- The statement. -/
theorem sinkSorts_proved : Rows.SinkSortsSaid := sinkSorts_over
end Go.Proofs.Ytffehibdeogjeaa
