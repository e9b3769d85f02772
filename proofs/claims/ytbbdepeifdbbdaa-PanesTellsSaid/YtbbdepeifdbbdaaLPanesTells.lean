/- The law law19.PanesTells returns true at every input, and leaves its arguments as they were. No condition. -/
import Derived.Test.YtbbdepeifdbbdaaPaneTells
import Derived.Test.YtbbdepeifdbbdaaKitA
import Derived.Test.YtbbdepeifdbbdaaClosed1
import Derived.Test.YtbbdepeifdbbdaaClosed2
import Derived.Test.YtbbdepeifdbbdaaClosed3
namespace Go.Proofs.Ytbbdepeifdbbdaa
open Go.RowKit Go.ChangeShapes Go.WideShapes Go.ChangeAt
theorem and_t {a b : Bool} (h1 : a = true) (h2 : b = true) : (a && b) = true := by rw [h1, h2]; rfl
set_option maxRecDepth 100000 in
theorem panesTells_lifted (os : Os) (started : os.Started) (H : Type) (enc : TypeId × Value → H) :
    ReturnsInHanded {} Try.checked os 4 .any (Rows.panesTellsSpec.pre6 enc Try.prog Try.f4 Rows.panesTellsRow.domain false) (Rows.panesTellsSpec.post enc Try.prog Try.f4 false true false false) := by
  refine law_lift (C := Try.checked) (tb := 4) started (by kernel_rfl) (by kernel_rfl) Try.func4
    (ChangeSpec.witness6 (enc := enc) (C := Try.checked) false ⟨#[], #[.int .i64 0, .int .i64 0, .agg #[.int .u8 0, .int .i64 0, .int .i64 0], .agg #[.int .i64 0, .int .i64 0], .slice none 0 0], []⟩ 8 (by kernel_rfl) (by kernel_rfl) (by kernel_rfl) (by kernel_rfl))
    rfl rfl Try.underlying4 (by kernel_rfl) (by kernel_rfl) (fun ds hl => ?_) ?_
  · match ds, hl with
    | [_, _, _, _, _], _ => rfl
  · intro W base args ds ps hval0 hA0 hlt hsz
    have hval : ∀ (j : Nat) t v, Try.f4.params[j]? = some t → args[j]? = some v → Value.okWide Try.prog W .any base t v := hval0
    have hA : DataW.TrodAll enc Try.prog W 0 (fun _ => true) true Try.f4.params.toList args.toList ds ps := hA0
    rw [Try.params4] at hA hval hsz
    clear hA0 hval0
    obtain ⟨v0, vs0, d0, ds0, p0, q0, hargs, rfl, rfl, h0, r0⟩ := trodAll_cons hA
    obtain ⟨v1, vs1, d1, ds1, p1, q1, rfl, rfl, rfl, h1, r1⟩ := trodAll_cons r0
    obtain ⟨v2, vs2, d2, ds2, p2, q2, rfl, rfl, rfl, h2, r2⟩ := trodAll_cons r1
    obtain ⟨v3, vs3, d3, ds3, p3, q3, rfl, rfl, rfl, h3, r3⟩ := trodAll_cons r2
    obtain ⟨v4, vs4, d4, ds4, p4, q4, rfl, rfl, rfl, h4, r4⟩ := trodAll_cons r3
    obtain ⟨rfl, rfl, rfl⟩ := trodAll_nil r4
    obtain rfl : args = #[v0, v1, v2, v3, v4] := by cases args; simp_all
    obtain ⟨a0, rfl, rfl, rfl, w0⟩ := open_int Try.underlying2 (hval 0 2 v0 rfl rfl) h0
    obtain ⟨a1, rfl, rfl, rfl, w1⟩ := open_int Try.underlying2 (hval 1 2 v1 rfl rfl) h1
    obtain ⟨sv2, rfl, sf2⟩ := open_flat (n := 9) [some .u8, some .i64, some .i64] Try.underlying23 (by kernel_rfl) (by kernel_rfl) (hval 2 23 v2 rfl rfl) h2
    obtain ⟨a2_0, sv2, rfl, w2_0, sf2⟩ := sf2
    obtain ⟨a2_1, sv2, rfl, w2_1, sf2⟩ := sf2
    obtain ⟨a2_2, sv2, rfl, w2_2, sf2⟩ := sf2
    obtain rfl : sv2 = [] := sf2
    obtain ⟨sv3, rfl, sf3⟩ := open_flat (n := 9) [some .i64, some .i64] Try.underlying38 (by kernel_rfl) (by kernel_rfl) (hval 3 38 v3 rfl rfl) h3
    obtain ⟨a3_0, sv3, rfl, w3_0, sf3⟩ := sf3
    obtain ⟨a3_1, sv3, rfl, w3_1, sf3⟩ := sf3
    obtain rfl : sv3 = [] := sf3
    obtain ⟨A4, c4, l4, rfl, lc4, lm4, lw4, lr4⟩ := open_rows (n := 9) [some .i64, some .i64, some .i64] rcenc rctok Try.underlying24 (by kernel_rfl) (by kernel_rfl) rcenc_dec (by decide) (hval 4 24 v4 rfl rfl) h4
    have ln4 := open_none Try.underlying24 h4
    exact panesTells_walk (w := W) a0 w0 a1 w1 a2_0 w2_0 a2_1 w2_1 a2_2 w2_2 a3_0 w3_0 a3_1 w3_1 A4 c4 l4 lc4 lm4 lw4 lr4 ln4
set_option maxRecDepth 100000 in
set_option maxHeartbeats 16000000 in
theorem panesTells_closed : joinedFacts Try.pinned.checked.prog 4 Try.f4 Rows.panesTellsSpec Rows.panesTellsRow = true := by
  unfold joinedFacts
  refine and_t ?_ (by as_aux_lemma => kernel_rfl)
  refine and_t ?_ (by as_aux_lemma => kernel_rfl)
  refine and_t ?_ (by as_aux_lemma => kernel_rfl)
  refine and_t ?_ (by as_aux_lemma => kernel_rfl)
  refine and_t ?_ make_is
  refine and_t ?_ lifts_final
  refine and_t ?_ may_enter
  repeat (with_reducible refine and_t ?_ ?_; rotate_left 1; (as_aux_lemma => kernel_rfl))
  kernel_rfl
theorem panesTells_over : Rows.panesTellsRow.holds Try.pinned (OpenSpec.ofChange Rows.panesTellsSpec) :=
  OpenClaim.holds_of_wide 4 Try.f4 rfl rfl rfl rfl rfl rfl rfl ⟨rfl, rfl, rfl, rfl, rfl⟩ rfl rfl rfl rfl rfl (by kernel_rfl) Try.func4 panesTells_closed
    (of_decide_eq_true (by kernel_rfl)) (by unfold Func.isWrapper; first | (rw [if_pos (by decide +kernel)]; kernel_rfl) | (rw [if_neg (by decide +kernel)]; exact ⟨rfl, rfl⟩))
    (fun os started H enc _ => panesTells_lifted os started H enc)
/-- The statement. -/
theorem panesTells_proved : Rows.PanesTellsSaid := panesTells_over
end Go.Proofs.Ytbbdepeifdbbdaa
