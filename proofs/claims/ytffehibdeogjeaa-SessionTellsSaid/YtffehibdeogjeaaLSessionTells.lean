/- The law law15.SessionTells returns true at every input, and leaves its arguments as they were. No condition. -/
import Derived.Test.YtffehibdeogjeaaSessTells
import Derived.Test.YtffehibdeogjeaaOpen
import Derived.Test.YtffehibdeogjeaaClosed1
import Derived.Test.YtffehibdeogjeaaClosed2
import Derived.Test.YtffehibdeogjeaaClosed3
namespace Go.Proofs.Ytffehibdeogjeaa
open Go.RowKit Go.ChangeShapes Go.WideShapes Go.ChangeAt
theorem and_t {a b : Bool} (h1 : a = true) (h2 : b = true) : (a && b) = true := by rw [h1, h2]; rfl
set_option maxRecDepth 100000 in
theorem sessionTells_lifted (os : Os) (started : os.Started) (H : Type) (enc : TypeId × Value → H) :
    ReturnsInHanded {} Try.checked os 16 .any (Rows.sessionTellsSpec.pre6 enc Try.prog Try.f16 Rows.sessionTellsRow.domain false) (Rows.sessionTellsSpec.post enc Try.prog Try.f16 false true false false) := by
  refine law_lift (C := Try.checked) (tb := 4) started (by kernel_rfl) (by kernel_rfl) Try.func16
    (ChangeSpec.witness6 (enc := enc) (C := Try.checked) false ⟨#[], #[.slice none 0 0, .slice none 0 0, .slice none 0 0, .int .i64 0, .int .i64 0], []⟩ 8 (by kernel_rfl) (by kernel_rfl) (by kernel_rfl) (by kernel_rfl))
    rfl rfl Try.underlying4 (by kernel_rfl) (by kernel_rfl) (fun ds hl => ?_) ?_
  · match ds, hl with
    | [_, _, _, _, _], _ => rfl
  · intro W base args ds ps hval0 hA0 hlt hsz
    have hval : ∀ (j : Nat) t v, Try.f16.params[j]? = some t → args[j]? = some v → Value.okWide Try.prog W .any base t v := hval0
    have hA : DataW.TrodAll enc Try.prog W 0 (fun _ => true) true Try.f16.params.toList args.toList ds ps := hA0
    rw [Try.params16] at hA hval hsz
    clear hA0 hval0
    obtain ⟨v0, vs0, d0, ds0, p0, q0, hargs, rfl, rfl, h0, r0⟩ := trodAll_cons hA
    obtain ⟨v1, vs1, d1, ds1, p1, q1, rfl, rfl, rfl, h1, r1⟩ := trodAll_cons r0
    obtain ⟨v2, vs2, d2, ds2, p2, q2, rfl, rfl, rfl, h2, r2⟩ := trodAll_cons r1
    obtain ⟨v3, vs3, d3, ds3, p3, q3, rfl, rfl, rfl, h3, r3⟩ := trodAll_cons r2
    obtain ⟨v4, vs4, d4, ds4, p4, q4, rfl, rfl, rfl, h4, r4⟩ := trodAll_cons r3
    obtain ⟨rfl, rfl, rfl⟩ := trodAll_nil r4
    obtain rfl : args = #[v0, v1, v2, v3, v4] := by cases args; simp_all
    obtain ⟨A0, c0, l0, rfl, lc0, lm0, lw0, lr0⟩ := open_rows (n := 9) [some .i64, some .i64] senc spok Try.underlying103 (by kernel_rfl) (by kernel_rfl) senc_dec (by decide) (hval 0 103 v0 rfl rfl) h0
    have ln0 := open_none Try.underlying103 h0
    obtain ⟨A1, c1, l1, rfl, lc1, lm1, lw1, lr1⟩ := open_rows (n := 9) [some .i64, some .i64] senc spok Try.underlying103 (by kernel_rfl) (by kernel_rfl) senc_dec (by decide) (hval 1 103 v1 rfl rfl) h1
    have ln1 := open_none Try.underlying103 h1
    obtain ⟨A2, c2, l2, rfl, lc2, lm2, lw2, lr2⟩ := open_rows (n := 9) [some .i64] ienc i64ok Try.underlying61 (by kernel_rfl) (by kernel_rfl) ienc_dec (by decide) (hval 2 61 v2 rfl rfl) h2
    obtain ⟨a3, rfl, rfl, rfl, w3⟩ := open_int Try.underlying2 (hval 3 2 v3 rfl rfl) h3
    obtain ⟨a4, rfl, rfl, rfl, w4⟩ := open_int Try.underlying2 (hval 4 2 v4 rfl rfl) h4
    exact sessionTells_walk (w := W) A0 c0 l0 lc0 lm0 lw0 lr0 ln0 A1 c1 l1 lc1 lm1 lw1 lr1 ln1 A2 c2 l2 lc2 lm2 lw2 lr2 a3 w3 a4 w4
set_option maxRecDepth 100000 in
set_option maxHeartbeats 16000000 in
theorem sessionTells_closed : joinedFacts Try.pinned.checked.prog 16 Try.f16 Rows.sessionTellsSpec Rows.sessionTellsRow = true := by
  unfold joinedFacts
  refine and_t ?_ (by as_aux_lemma => kernel_rfl)
  refine and_t ?_ (by as_aux_lemma => kernel_rfl)
  refine and_t ?_ (by as_aux_lemma => kernel_rfl)
  refine and_t ?_ (by as_aux_lemma => kernel_rfl)
  refine and_t ?_ make_is
  refine and_t ?_ lifts_final
  refine and_t ?_ may_enter
  repeat (with_reducible refine and_t ?_ ?_; rotate_left 1; (as_aux_lemma => kernel_rfl))
  kernel_rfl
theorem sessionTells_over : Rows.sessionTellsRow.holds Try.pinned (OpenSpec.ofChange Rows.sessionTellsSpec) :=
  OpenClaim.holds_of_wide 16 Try.f16 rfl rfl rfl rfl rfl rfl rfl ⟨rfl, rfl, rfl, rfl, rfl⟩ rfl rfl rfl rfl rfl (by kernel_rfl) Try.func16 sessionTells_closed
    (of_decide_eq_true (by kernel_rfl)) (by unfold Func.isWrapper; first | (rw [if_pos (by decide +kernel)]; kernel_rfl) | (rw [if_neg (by decide +kernel)]; exact ⟨rfl, rfl⟩))
    (fun os started H enc _ => sessionTells_lifted os started H enc)
/-- The statement. -/
theorem sessionTells_proved : Rows.SessionTellsSaid := sessionTells_over
end Go.Proofs.Ytffehibdeogjeaa
