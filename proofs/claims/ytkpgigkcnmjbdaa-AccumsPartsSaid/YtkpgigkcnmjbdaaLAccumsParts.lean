/- The law law16.AccumsParts returns true at every input, and leaves its arguments as they were. No condition. -/
import Derived.Test.YtkpgigkcnmjbdaaAccumsLaws
import Derived.Test.YtkpgigkcnmjbdaaOpen
namespace Go.Proofs.Ytkpgigkcnmjbdaa
open Go.RowKit Go.ChangeShapes Go.WideShapes Go.ChangeAt
set_option maxRecDepth 100000 in
theorem accumsParts_lifted (os : Os) (started : os.Started) (H : Type) (enc : TypeId × Value → H) :
    ReturnsInHanded {} Try.checked os 12 .any (Rows.accumsPartsSpec.pre6 enc Try.prog Try.f12 Rows.accumsPartsRow.domain false) (Rows.accumsPartsSpec.post enc Try.prog Try.f12 false true false false) := by
  refine law_lift (C := Try.checked) (tb := 4) started (by kernel_rfl) (by kernel_rfl) Try.func12
    (ChangeSpec.witness6 (enc := enc) (C := Try.checked) false ⟨#[], #[.agg #[.int .i64 0, .int .i64 0, .int .i64 0, .int .i64 0], .agg #[.int .i64 0, .int .i64 0, .int .i64 0, .int .i64 0]], []⟩ 8 (by kernel_rfl) (by kernel_rfl) (by kernel_rfl) (by kernel_rfl))
    rfl rfl Try.underlying4 (by kernel_rfl) (by kernel_rfl) (fun ds hl => ?_) ?_
  · match ds, hl with
    | [_, _], _ => rfl
  · intro W base args ds ps hval0 hA0 hlt hsz
    have hval : ∀ (j : Nat) t v, Try.f12.params[j]? = some t → args[j]? = some v → Value.okWide Try.prog W .any base t v := hval0
    have hA : DataW.TrodAll enc Try.prog W 0 (fun _ => true) true Try.f12.params.toList args.toList ds ps := hA0
    rw [Try.params12] at hA hval hsz
    clear hA0 hval0
    obtain ⟨v0, vs0, d0, ds0, p0, q0, hargs, rfl, rfl, h0, r0⟩ := trodAll_cons hA
    obtain ⟨v1, vs1, d1, ds1, p1, q1, rfl, rfl, rfl, h1, r1⟩ := trodAll_cons r0
    obtain ⟨rfl, rfl, rfl⟩ := trodAll_nil r1
    obtain rfl : args = #[v0, v1] := by cases args; simp_all
    obtain ⟨sv0, rfl, sf0⟩ := open_flat (n := 9) [some .i64, some .i64, some .i64, some .i64] Try.underlying38 (by kernel_rfl) (by kernel_rfl) (hval 0 38 v0 rfl rfl) h0
    obtain ⟨a0_0, sv0, rfl, w0_0, sf0⟩ := sf0
    obtain ⟨a0_1, sv0, rfl, w0_1, sf0⟩ := sf0
    obtain ⟨a0_2, sv0, rfl, w0_2, sf0⟩ := sf0
    obtain ⟨a0_3, sv0, rfl, w0_3, sf0⟩ := sf0
    obtain rfl : sv0 = [] := sf0
    obtain ⟨sv1, rfl, sf1⟩ := open_flat (n := 9) [some .i64, some .i64, some .i64, some .i64] Try.underlying38 (by kernel_rfl) (by kernel_rfl) (hval 1 38 v1 rfl rfl) h1
    obtain ⟨a1_0, sv1, rfl, w1_0, sf1⟩ := sf1
    obtain ⟨a1_1, sv1, rfl, w1_1, sf1⟩ := sf1
    obtain ⟨a1_2, sv1, rfl, w1_2, sf1⟩ := sf1
    obtain ⟨a1_3, sv1, rfl, w1_3, sf1⟩ := sf1
    obtain rfl : sv1 = [] := sf1
    exact accumsParts_walk a0_0 w0_0 a0_1 w0_1 a0_2 w0_2 a0_3 w0_3 a1_0 w1_0 a1_1 w1_1 a1_2 w1_2 a1_3 w1_3 W
theorem accumsParts_over : Rows.accumsPartsRow.holds Try.pinned (OpenSpec.ofChange Rows.accumsPartsSpec) :=
  OpenClaim.holds_of_wide 12 Try.f12 rfl rfl rfl rfl rfl rfl rfl ⟨rfl, rfl, rfl, rfl, rfl⟩ rfl rfl rfl rfl rfl (by kernel_rfl) Try.func12 (by kernel_rfl)
    (of_decide_eq_true (by kernel_rfl)) (by unfold Func.isWrapper; first | (rw [if_pos (by decide +kernel)]; kernel_rfl) | (rw [if_neg (by decide +kernel)]; exact ⟨rfl, rfl⟩))
    (fun os started H enc _ => accumsParts_lifted os started H enc)
/-- The statement. -/
theorem accumsParts_proved : Rows.AccumsPartsSaid := accumsParts_over
end Go.Proofs.Ytkpgigkcnmjbdaa
