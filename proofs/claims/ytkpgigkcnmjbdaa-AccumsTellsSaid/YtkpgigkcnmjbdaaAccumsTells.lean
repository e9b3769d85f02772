/- The law AccumsTells (chapter 16): all functions of the accumulators return what the reference returns. No condition. -/
import Derived.Test.YtkpgigkcnmjbdaaAccumsLaws
namespace Go.Proofs.Ytkpgigkcnmjbdaa
open Go.RowKit Go.ChangeShapes Go.WideShapes Go.ChangeAt

set_option maxHeartbeats 4000000 in
set_option maxRecDepth 100000 in
theorem accumsTells_walk (a1 : Int) (_ : (Lit.int .i64 a1).wf = true) (a2 : Int) (_ : (Lit.int .i64 a2).wf = true) (a3 : Int) (_ : (Lit.int .i64 a3).wf = true) (a4 : Int) (_ : (Lit.int .i64 a4).wf = true)
    (b1 : Int) (_ : (Lit.int .i64 b1).wf = true) (b2 : Int) (_ : (Lit.int .i64 b2).wf = true) (b3 : Int) (_ : (Lit.int .i64 b3).wf = true) (b4 : Int) (_ : (Lit.int .i64 b4).wf = true)
    (v : Int) (hv : (Lit.int .i64 v).wf = true) (g : Int) (hg : (Lit.int .u8 g).wf = true) (w : World) :
    Calls Try.prog 10 #[.agg #[.int .i64 a1, .int .i64 a2, .int .i64 a3, .int .i64 a4], .agg #[.int .i64 b1, .int .i64 b2, .int .i64 b3, .int .i64 b4], .int .i64 v, .int .u8 g] w fun e w' => e = .returned (.bool true) ∧ Below w.heap.size w w' := by
  have hL : Loc w [] := trivial
  obtain ⟨⟨⟨p1, p2, p3, p4⟩, p5⟩, hj⟩ : ∃ p, ajoin ⟨a1, a2, a3, a4⟩ ⟨b1, b2, b3, b4⟩ = p := ⟨_, rfl⟩
  obtain ⟨⟨q1, q2⟩, hq⟩ : ∃ p, avalue g ⟨a1, a2, a3, a4⟩ = p := ⟨_, rfl⟩
  go_enter Try.func10, Try.ntmps10
  go_wp2_with (first
      | (go_at_call 29; refine (ajoin_any _ _ _ _ _ _ _ _ _).mono ?_; rintro e w1 ⟨rfl, hb1⟩; replace hL := (by with_reducible first | exact hL.below hb1 | exact (hL.new _ _).below hb1 | exact ((hL.new _ _).new _ _).below hb1 | exact (((hL.new _ _).new _ _).new _ _).below hb1 | exact ((((hL.new _ _).new _ _).new _ _).new _ _).below hb1); (repeat rw [World.size_alloc] at hL); have hF := hL; (repeat unfold Loc at hF))
      | (go_at_call 31; refine (rajoin_any _ _ _ _ _ _ _ _ _).mono ?_; rintro e w1 ⟨rfl, hb1⟩; replace hL := (by with_reducible first | exact hL.below hb1 | exact (hL.new _ _).below hb1 | exact ((hL.new _ _).new _ _).below hb1 | exact (((hL.new _ _).new _ _).new _ _).below hb1 | exact ((((hL.new _ _).new _ _).new _ _).new _ _).below hb1); (repeat rw [World.size_alloc] at hL); have hF := hL; (repeat unfold Loc at hF))
      | (go_at_call 32; refine (avalue_any _ _ _ _ _ _).mono ?_; rintro e w1 ⟨rfl, hb1⟩; replace hL := (by with_reducible first | exact hL.below hb1 | exact (hL.new _ _).below hb1 | exact ((hL.new _ _).new _ _).below hb1 | exact (((hL.new _ _).new _ _).new _ _).below hb1 | exact ((((hL.new _ _).new _ _).new _ _).new _ _).below hb1); (repeat rw [World.size_alloc] at hL); have hF := hL; (repeat unfold Loc at hF))
      | (go_at_call 33; refine (ravalue_any _ _ _ _ _ hg _).mono ?_; rintro e w1 ⟨rfl, hb1⟩; replace hL := (by with_reducible first | exact hL.below hb1 | exact (hL.new _ _).below hb1 | exact ((hL.new _ _).new _ _).below hb1 | exact (((hL.new _ _).new _ _).new _ _).below hb1 | exact ((((hL.new _ _).new _ _).new _ _).new _ _).below hb1); (repeat rw [World.size_alloc] at hL); have hF := hL; (repeat unfold Loc at hF)))
  obtain ⟨lE, hE, hR⟩ := Env.abs (w0 := w) (by repeat (first | exact Below.refl _ _ | assumption | (with_reducible exact Env.below (by assumption)) | (with_reducible refine below_new ?_ _) | (with_reducible refine below_drew ?_) | (with_reducible refine below_drewN ?_ _) | (with_reducible refine below_put ?_ ?_ _; rotate_left 1; (dsimp only; omega)) | (refine below_then ?_ (by assumption)))) hL; have hR' := hR; (repeat unfold Loc at hR)
  have o1 := Lib.hid hj
  go_region_held3 (Env w lE) (first | assumption | exact Env.step (by assumption) (by assumption) | exact Env.old (by assumption) _ | exact Env.drew hE | exact hE | ((repeat refine Env.far' ?_ (by assumption) (Env.lt (by assumption)) _); assumption))
    (first
      | (go_at_call 30; refine (acheck_any _ _ _ _ _).mono ?_; rintro e w2 ⟨rfl, hb2⟩; have hEhb2 := Env.step hb2 (by assumption); (try (have hqhb2 := (by with_reducible first | exact Loc.below hb2 (Loc.new (Loc.nil _) _ _) | exact Loc.below hb2 (Loc.drew (Loc.new (Loc.nil _) _ _)) | exact Loc.below hb2 (by assumption : Loc _ [_])); (repeat rw [World.size_drew] at hqhb2); have hrhb2 := hqhb2; (repeat unfold Loc at hrhb2))))
      | (go_at_call 34; refine (racheck_any _ _ _ _ _).mono ?_; rintro e w2 ⟨rfl, hb2⟩; have hEhb2 := Env.step hb2 (by assumption); (try (have hqhb2 := (by with_reducible first | exact Loc.below hb2 (Loc.new (Loc.nil _) _ _) | exact Loc.below hb2 (Loc.drew (Loc.new (Loc.nil _) _ _)) | exact Loc.below hb2 (by assumption : Loc _ [_])); (repeat rw [World.size_drew] at hqhb2); have hrhb2 := hqhb2; (repeat unfold Loc at hrhb2))))
      | (go_at_call 35; refine (aof_any _ _).mono ?_; rintro e w2 ⟨rfl, hb2⟩; have hEhb2 := Env.step hb2 (by assumption); (try (have hqhb2 := (by with_reducible first | exact Loc.below hb2 (Loc.new (Loc.nil _) _ _) | exact Loc.below hb2 (Loc.drew (Loc.new (Loc.nil _) _ _)) | exact Loc.below hb2 (by assumption : Loc _ [_])); (repeat rw [World.size_drew] at hqhb2); have hrhb2 := hqhb2; (repeat unfold Loc at hrhb2))))
      | (go_at_call 36; refine (raof_any _ hv _).mono ?_; rintro e w2 ⟨rfl, hb2⟩; have hEhb2 := Env.step hb2 (by assumption); (try (have hqhb2 := (by with_reducible first | exact Loc.below hb2 (Loc.new (Loc.nil _) _ _) | exact Loc.below hb2 (Loc.drew (Loc.new (Loc.nil _) _ _)) | exact Loc.below hb2 (by assumption : Loc _ [_])); (repeat rw [World.size_drew] at hqhb2); have hrhb2 := hqhb2; (repeat unfold Loc at hrhb2)))))
  go_wp2
  go_ret
  exact ⟨rfl, (by repeat (first | exact Below.refl _ _ | assumption | (with_reducible exact Env.below (by assumption)) | (with_reducible refine below_new ?_ _) | (with_reducible refine below_drew ?_) | (with_reducible refine below_drewN ?_ _) | (with_reducible refine below_put ?_ ?_ _; rotate_left 1; (dsimp only; omega)) | (refine below_then ?_ (by assumption))))⟩
end Go.Proofs.Ytkpgigkcnmjbdaa
