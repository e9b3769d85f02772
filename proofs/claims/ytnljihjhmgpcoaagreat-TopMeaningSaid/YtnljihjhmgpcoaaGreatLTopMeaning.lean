/- The law top.TopMeaning returns true at every input, and leaves its arguments as they were. No condition. -/
import Derived.Test.YtnljihjhmgpcoaaGreatJ49
import Derived.Test.YtnljihjhmgpcoaaGreatJ4
import Derived.Test.YtnljihjhmgpcoaaGreatJ50
import Derived.Test.YtnljihjhmgpcoaaGreatJ51
import Derived.Test.YtnljihjhmgpcoaaGreatJ52
namespace Go.Proofs.YtnljihjhmgpcoaaGreat
open Go.RowKit Go.ChangeShapes Go.WideShapes Go.ChangeAt
theorem and_t {a b : Bool} (h1 : a = true) (h2 : b = true) : (a && b) = true := by rw [h1, h2]; rfl
set_option maxRecDepth 100000 in
theorem topMeaning_lifted (os : Os) (started : os.Started) (H : Type) (enc : TypeId × Value → H) :
    ReturnsInHanded {} Tryz.checked os 3 .any (Rows.topMeaningSpec.pre6 enc Tryz.prog Tryz.f3 Rows.topMeaningRow.domain false) (Rows.topMeaningSpec.post enc Tryz.prog Tryz.f3 false true false false) := by
  refine law_lift (C := Tryz.checked) (tb := 4) started (by kernel_rfl) (by kernel_rfl) Tryz.func3
    (ChangeSpec.witness6 (enc := enc) (C := Tryz.checked) false ⟨#[], #[.agg #[.int .u8 0, .slice none 0 0, .slice none 0 0, .bool false, .slice none 0 0, .int .u8 0, .int .i64 0, .int .i64 0, .bool false, .int .u8 0], .slice none 0 0, .int .i64 0], []⟩ 8 (by kernel_rfl) (by kernel_rfl) (by kernel_rfl) (by kernel_rfl))
    rfl rfl Tryz.underlying4 (by kernel_rfl) (by kernel_rfl) (fun ds hl => ?_) ?_
  · match ds, hl with
    | [_, _, _], _ => rfl
  · intro W base args ds ps hval0 hA0 hlt hsz
    have hval : ∀ (j : Nat) t v, Tryz.f3.params[j]? = some t → args[j]? = some v → Value.okWide Tryz.prog W .any base t v := hval0
    have hA : DataW.TrodAll enc Tryz.prog W 0 (fun _ => true) true Tryz.f3.params.toList args.toList ds ps := hA0
    rw [Tryz.params3] at hA hval hsz
    clear hA0 hval0
    obtain ⟨v0, vs0, d0, ds0, p0, q0, hargs, rfl, rfl, h0, r0⟩ := trodAll_cons hA
    obtain ⟨v1, vs1, d1, ds1, p1, q1, rfl, rfl, rfl, h1, r1⟩ := trodAll_cons r0
    obtain ⟨v2, vs2, d2, ds2, p2, q2, rfl, rfl, rfl, h2, r2⟩ := trodAll_cons r1
    obtain ⟨rfl, rfl, rfl⟩ := trodAll_nil r2
    obtain rfl : args = #[v0, v1, v2] := by cases args; simp_all
    obtain ⟨x0, rfl, f0⟩ := open_query (hval 0 27 v0 rfl rfl) h0
    obtain ⟨x1, rfl, f1⟩ := open_evs (hval 1 28 v1 rfl rfl) h1
    obtain ⟨a2, rfl, rfl, rfl, w2⟩ := open_int Tryz.underlying3 (hval 2 3 v2 rfl rfl) h2
    exact topMeaning_walk (w := W) x0 f0 x1 f1 a2 w2
set_option maxRecDepth 100000 in
set_option maxHeartbeats 16000000 in
theorem topMeaning_closed : joinedFacts Tryz.pinned.checked.prog 3 Tryz.f3 Rows.topMeaningSpec Rows.topMeaningRow = true := by
  unfold joinedFacts
  refine and_t ?_ (by as_aux_lemma => kernel_rfl)
  refine and_t ?_ (by as_aux_lemma => kernel_rfl)
  refine and_t ?_ (by as_aux_lemma => kernel_rfl)
  refine and_t ?_ (by as_aux_lemma => kernel_rfl)
  refine and_t ?_ make_is
  refine and_t ?_ lifts_final
  refine and_t ?_ may_enter
  repeat (with_reducible refine and_t ?_ ?_; rotate_left 1; (as_aux_lemma => kernel_rfl))
  kernel_rfl
theorem topMeaning_over : Rows.topMeaningRow.holds Tryz.pinned (OpenSpec.ofChange Rows.topMeaningSpec) :=
  OpenClaim.holds_of_wide 3 Tryz.f3 rfl rfl rfl rfl rfl rfl rfl ⟨rfl, rfl, rfl, rfl, rfl⟩ rfl rfl rfl rfl rfl (by kernel_rfl) Tryz.func3 topMeaning_closed
    (of_decide_eq_true (by kernel_rfl)) (by unfold Func.isWrapper; first | (rw [if_pos (by decide +kernel)]; kernel_rfl) | (rw [if_neg (by decide +kernel)]; exact ⟨rfl, rfl⟩))
    (fun os started H enc _ => topMeaning_lifted os started H enc)
/-- The statement. -/
theorem topMeaning_proved : Rows.TopMeaningSaid := topMeaning_over
end Go.Proofs.YtnljihjhmgpcoaaGreat
