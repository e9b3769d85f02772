/- The law law16.AccumsTells returns true at every input, and leaves its arguments as they were. No condition. -/
import Derived.Test.YtkpgigkcnmjbdaaAccumsTells
import Derived.Test.YtkpgigkcnmjbdaaOpen
namespace Go.Proofs.Ytkpgigkcnmjbdaa
open Go.RowKit Go.ChangeShapes Go.WideShapes Go.ChangeAt
set_option maxRecDepth 100000 in
theorem accumsTells_lifted (os : Os) (started : os.Started) (H : Type) (enc : TypeId × Value → H) :
    ReturnsInHanded {} Try.checked os 10 .any (Rows.accumsTellsSpec.pre6 enc Try.prog Try.f10 Rows.accumsTellsRow.domain false) (Rows.accumsTellsSpec.post enc Try.prog Try.f10 false true false false) := by
  refine law_lift (C := Try.checked) (tb := 4) started (by kernel_rfl) (by kernel_rfl) Try.func10
    (ChangeSpec.witness6 (enc := enc) (C := Try.checked) false ⟨#[], #[.agg #[.int .i64 0, .int .i64 0, .int .i64 0, .int .i64 0], .agg #[.int .i64 0, .int .i64 0, .int .i64 0, .int .i64 0], .int .i64 0, .int .u8 0], []⟩ 8 (by kernel_rfl) (by kernel_rfl) (by kernel_rfl) (by kernel_rfl))
    rfl rfl Try.underlying4 (by kernel_rfl) (by kernel_rfl) (fun ds hl => ?_) ?_
  · match ds, hl with
    | [_, _, _, _], _ => rfl
  · intro W base args ds ps hval0 hA0 hlt hsz
    have hval : ∀ (j : Nat) t v, Try.f10.params[j]? = some t → args[j]? = some v → Value.okWide Try.prog W .any base t v := hval0
    have hA : DataW.TrodAll enc Try.prog W 0 (fun _ => true) true Try.f10.params.toList args.toList ds ps := hA0
    rw [Try.params10] at hA hval hsz
    clear hA0 hval0
    obtain ⟨v0, vs0, d0, ds0, p0, q0, hargs, rfl, rfl, h0, r0⟩ := trodAll_cons hA
    obtain ⟨v1, vs1, d1, ds1, p1, q1, rfl, rfl, rfl, h1, r1⟩ := trodAll_cons r0
    obtain ⟨v2, vs2, d2, ds2, p2, q2, rfl, rfl, rfl, h2, r2⟩ := trodAll_cons r1
    obtain ⟨v3, vs3, d3, ds3, p3, q3, rfl, rfl, rfl, h3, r3⟩ := trodAll_cons r2
    obtain ⟨rfl, rfl, rfl⟩ := trodAll_nil r3
    obtain rfl : args = #[v0, v1, v2, v3] := by cases args; simp_all
    obtain ⟨sv0, rfl, sf0⟩ := open_flat (n := 9) [some .i64, some .i64, some .i64, some .i64] Try.underlying38 (by kernel_rfl) (by kernel_rfl) (hval 0 38 v0 rfl rfl) h0
    obtain ⟨a0_0, sv0, rfl, w0_0, sf0⟩ := sf0
    obtain ⟨a0_1, sv0, rfl, w0_1, sf0⟩ := sf0
    obtain ⟨a0_2, sv0, rfl, w0_2, sf0⟩ := sf0
    obtain ⟨a0_3, sv0, rfl, w0_3, sf0⟩ := sf0
    obtain rfl : sv0 = [] := sf0
    obtain ⟨sv1, rfl, sf1⟩ := open_flat (n := 9) [some .i64, some .i64, some .i64, some .i64] Try.underlying38 (by kernel_rfl) (by kernel_rfl) (hval 1 38 v1 rfl rfl) h1
    obtain ⟨a1_0, sv1, rfl, w1_0, sf1⟩ := sf1
    obtain ⟨a1_1, sv1, rfl, w1_1, sf1⟩ := sf1
    obtain ⟨a1_2, sv1, rfl, w1_2, sf1⟩ := sf1
    obtain ⟨a1_3, sv1, rfl, w1_3, sf1⟩ := sf1
    obtain rfl : sv1 = [] := sf1
    obtain ⟨a2, rfl, rfl, rfl, w2⟩ := open_int Try.underlying2 (hval 2 2 v2 rfl rfl) h2
    obtain ⟨a3, rfl, rfl, rfl, w3⟩ := open_int Try.underlying5 (hval 3 5 v3 rfl rfl) h3
    exact accumsTells_walk a0_0 w0_0 a0_1 w0_1 a0_2 w0_2 a0_3 w0_3 a1_0 w1_0 a1_1 w1_1 a1_2 w1_2 a1_3 w1_3 a2 w2 a3 w3 W
theorem accumsTells_over : Rows.accumsTellsRow.holds Try.pinned (OpenSpec.ofChange Rows.accumsTellsSpec) :=
  OpenClaim.holds_of_wide 10 Try.f10 rfl rfl rfl rfl rfl rfl rfl ⟨rfl, rfl, rfl, rfl, rfl⟩ rfl rfl rfl rfl rfl (by kernel_rfl) Try.func10 (by kernel_rfl)
    (of_decide_eq_true (by kernel_rfl)) (by unfold Func.isWrapper; first | (rw [if_pos (by decide +kernel)]; kernel_rfl) | (rw [if_neg (by decide +kernel)]; exact ⟨rfl, rfl⟩))
    (fun os started H enc _ => accumsTells_lifted os started H enc)
/-- The statement. -/
theorem accumsTells_proved : Rows.AccumsTellsSaid := accumsTells_over
end Go.Proofs.Ytkpgigkcnmjbdaa
