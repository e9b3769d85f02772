/- The law law16.AccumsValues returns true at every input, and leaves its arguments as they were. No condition. -/
import Derived.Test.YtkpgigkcnmjbdaaAccumsValues
import Derived.Test.YtkpgigkcnmjbdaaOpen
namespace Go.Proofs.Ytkpgigkcnmjbdaa
open Go.RowKit Go.ChangeShapes Go.WideShapes Go.ChangeAt
set_option maxRecDepth 100000 in
theorem accumsValues_lifted (os : Os) (started : os.Started) (H : Type) (enc : TypeId × Value → H) :
    ReturnsInHanded {} Try.checked os 17 .any (Rows.accumsValuesSpec.pre6 enc Try.prog Try.f17 Rows.accumsValuesRow.domain false) (Rows.accumsValuesSpec.post enc Try.prog Try.f17 false true false false) := by
  refine law_lift (C := Try.checked) (tb := 4) started (by kernel_rfl) (by kernel_rfl) Try.func17
    (ChangeSpec.witness6 (enc := enc) (C := Try.checked) false ⟨#[], #[.slice none 0 0, .int .i64 0], []⟩ 8 (by kernel_rfl) (by kernel_rfl) (by kernel_rfl) (by kernel_rfl))
    rfl rfl Try.underlying4 (by kernel_rfl) (by kernel_rfl) (fun ds hl => ?_) ?_
  · match ds, hl with
    | [_, _], _ => rfl
  · intro W base args ds ps hval0 hA0 hlt hsz
    have hval : ∀ (j : Nat) t v, Try.f17.params[j]? = some t → args[j]? = some v → Value.okWide Try.prog W .any base t v := hval0
    have hA : DataW.TrodAll enc Try.prog W 0 (fun _ => true) true Try.f17.params.toList args.toList ds ps := hA0
    rw [Try.params17] at hA hval hsz
    clear hA0 hval0
    obtain ⟨v0, vs0, d0, ds0, p0, q0, hargs, rfl, rfl, h0, r0⟩ := trodAll_cons hA
    obtain ⟨v1, vs1, d1, ds1, p1, q1, rfl, rfl, rfl, h1, r1⟩ := trodAll_cons r0
    obtain ⟨rfl, rfl, rfl⟩ := trodAll_nil r1
    obtain rfl : args = #[v0, v1] := by cases args; simp_all
    obtain ⟨A0, c0, l0, rfl, lc0, lm0, lw0, lr0⟩ := open_rows (n := 9) [some .i64] ienc i64ok Try.underlying58 (by kernel_rfl) (by kernel_rfl) ienc_dec (by decide) (hval 0 58 v0 rfl rfl) h0
    obtain ⟨a1, rfl, rfl, rfl, w1⟩ := open_int Try.underlying3 (hval 1 3 v1 rfl rfl) h1
    exact accumsValues_walk (w := W) A0 c0 l0 lc0 lm0 lw0 lr0 a1 w1
theorem accumsValues_over : Rows.accumsValuesRow.holds Try.pinned (OpenSpec.ofChange Rows.accumsValuesSpec) :=
  OpenClaim.holds_of_wide 17 Try.f17 rfl rfl rfl rfl rfl rfl rfl ⟨rfl, rfl, rfl, rfl, rfl⟩ rfl rfl rfl rfl rfl (by kernel_rfl) Try.func17 (by kernel_rfl)
    (of_decide_eq_true (by kernel_rfl)) (by unfold Func.isWrapper; first | (rw [if_pos (by decide +kernel)]; kernel_rfl) | (rw [if_neg (by decide +kernel)]; exact ⟨rfl, rfl⟩))
    (fun os started H enc _ => accumsValues_lifted os started H enc)
/-- The statement. -/
theorem accumsValues_proved : Rows.AccumsValuesSaid := accumsValues_over
end Go.Proofs.Ytkpgigkcnmjbdaa
