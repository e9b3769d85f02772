/- The law law34.SinkTakes returns true at every input, and leaves its arguments as they were. No condition. -/
import Derived.Test.YtffehibdeogjeaaSinkTakes
import Derived.Test.YtffehibdeogjeaaKitA
import Derived.Test.YtffehibdeogjeaaClosed1
import Derived.Test.YtffehibdeogjeaaClosed2
import Derived.Test.YtffehibdeogjeaaClosed3
namespace Go.Proofs.Ytffehibdeogjeaa
open Go.RowKit Go.ChangeShapes Go.WideShapes Go.ChangeAt
theorem and_t {a b : Bool} (h1 : a = true) (h2 : b = true) : (a && b) = true := by rw [h1, h2]; rfl
set_option maxRecDepth 100000 in
theorem sinkTakes_lifted (os : Os) (started : os.Started) (H : Type) (enc : TypeId × Value → H) :
    ReturnsInHanded {} Try.checked os 9 .any (Rows.sinkTakesSpec.pre6 enc Try.prog Try.f9 Rows.sinkTakesRow.domain false) (Rows.sinkTakesSpec.post enc Try.prog Try.f9 false true false false) := by
  refine law_lift (C := Try.checked) (tb := 4) started (by kernel_rfl) (by kernel_rfl) Try.func9
    (ChangeSpec.witness6 (enc := enc) (C := Try.checked) false ⟨#[], #[.agg #[.int .u8 0, .int .i64 0, .int .i64 0, .slice none 0 0, .slice none 0 0, .slice none 0 0, .slice none 0 0, .slice none 0 0, .slice none 0 0], .agg #[.int .u8 0, .int .i64 0, .int .i64 0, .int .i64 0, .int .i64 0, .int .i64 0, .int .i64 0, .int .i64 0, .int .i64 0, .int .i64 0], .bool false], []⟩ 8 (by kernel_rfl) (by kernel_rfl) (by kernel_rfl) (by kernel_rfl))
    rfl rfl Try.underlying4 (by kernel_rfl) (by kernel_rfl) (fun ds hl => ?_) ?_
  · match ds, hl with
    | [_, _, _], _ => rfl
  · intro W base args ds ps hval0 hA0 hlt hsz
    have hval : ∀ (j : Nat) t v, Try.f9.params[j]? = some t → args[j]? = some v → Value.okWide Try.prog W .any base t v := hval0
    have hA : DataW.TrodAll enc Try.prog W 0 (fun _ => true) true Try.f9.params.toList args.toList ds ps := hA0
    rw [Try.params9] at hA hval hsz
    clear hA0 hval0
    obtain ⟨v0, vs0, d0, ds0, p0, q0, hargs, rfl, rfl, h0, r0⟩ := trodAll_cons hA
    obtain ⟨v1, vs1, d1, ds1, p1, q1, rfl, rfl, rfl, h1, r1⟩ := trodAll_cons r0
    obtain ⟨v2, vs2, d2, ds2, p2, q2, rfl, rfl, rfl, h2, r2⟩ := trodAll_cons r1
    obtain ⟨rfl, rfl, rfl⟩ := trodAll_nil r2
    obtain rfl : args = #[v0, v1, v2] := by cases args; simp_all
    obtain ⟨x0, rfl, f0⟩ := open_task (hval 0 67 v0 rfl rfl) h0
    obtain ⟨sv1, rfl, sf1⟩ := open_flat (n := 9) [some .u8, some .i64, some .i64, some .i64, some .i64, some .i64, some .i64, some .i64, some .i64, some .i64] Try.underlying74 (by kernel_rfl) (by kernel_rfl) (hval 1 74 v1 rfl rfl) h1
    obtain ⟨a1_0, sv1, rfl, w1_0, sf1⟩ := sf1
    obtain ⟨a1_1, sv1, rfl, w1_1, sf1⟩ := sf1
    obtain ⟨a1_2, sv1, rfl, w1_2, sf1⟩ := sf1
    obtain ⟨a1_3, sv1, rfl, w1_3, sf1⟩ := sf1
    obtain ⟨a1_4, sv1, rfl, w1_4, sf1⟩ := sf1
    obtain ⟨a1_5, sv1, rfl, w1_5, sf1⟩ := sf1
    obtain ⟨a1_6, sv1, rfl, w1_6, sf1⟩ := sf1
    obtain ⟨a1_7, sv1, rfl, w1_7, sf1⟩ := sf1
    obtain ⟨a1_8, sv1, rfl, w1_8, sf1⟩ := sf1
    obtain ⟨a1_9, sv1, rfl, w1_9, sf1⟩ := sf1
    obtain rfl : sv1 = [] := sf1
    obtain ⟨a2, rfl, rfl, rfl⟩ := open_bool Try.underlying4 (hval 2 4 v2 rfl rfl) h2
    exact sinkTakes_walk (w := W) x0 f0 a1_0 w1_0 a1_1 w1_1 a1_2 w1_2 a1_3 w1_3 a1_4 w1_4 a1_5 w1_5 a1_6 w1_6 a1_7 w1_7 a1_8 w1_8 a1_9 w1_9 a2
set_option maxRecDepth 100000 in
set_option maxHeartbeats 16000000 in
theorem sinkTakes_closed : joinedFacts Try.pinned.checked.prog 9 Try.f9 Rows.sinkTakesSpec Rows.sinkTakesRow = true := by
  unfold joinedFacts
  refine and_t ?_ (by as_aux_lemma => kernel_rfl)
  refine and_t ?_ (by as_aux_lemma => kernel_rfl)
  refine and_t ?_ (by as_aux_lemma => kernel_rfl)
  refine and_t ?_ (by as_aux_lemma => kernel_rfl)
  refine and_t ?_ make_is
  refine and_t ?_ lifts_final
  refine and_t ?_ may_enter
  repeat (with_reducible refine and_t ?_ ?_; rotate_left 1; (as_aux_lemma => kernel_rfl))
  kernel_rfl
theorem sinkTakes_over : Rows.sinkTakesRow.holds Try.pinned (OpenSpec.ofChange Rows.sinkTakesSpec) :=
  OpenClaim.holds_of_wide 9 Try.f9 rfl rfl rfl rfl rfl rfl rfl ⟨rfl, rfl, rfl, rfl, rfl⟩ rfl rfl rfl rfl rfl (by kernel_rfl) Try.func9 sinkTakes_closed
    (of_decide_eq_true (by kernel_rfl)) (by unfold Func.isWrapper; first | (rw [if_pos (by decide +kernel)]; kernel_rfl) | (rw [if_neg (by decide +kernel)]; exact ⟨rfl, rfl⟩))
    (fun os started H enc _ => sinkTakes_lifted os started H enc)
/-- The statement. -/
theorem sinkTakes_proved : Rows.SinkTakesSaid := sinkTakes_over
end Go.Proofs.Ytffehibdeogjeaa
