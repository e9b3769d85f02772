/- The law AccumsNames (chapter 16): limits and errors of the accumulators. No condition. -/
import Derived.Test.YtkpgigkcnmjbdaaAccumsLaws
namespace Go.Proofs.Ytkpgigkcnmjbdaa
open Go.RowKit Go.ChangeShapes Go.WideShapes Go.ChangeAt

def bads : List Acc := [⟨0, 1, 0, 0⟩, ⟨0, 0, 1, 0⟩, ⟨0, 0, 0, -1⟩, ⟨-1, 0, 0, 0⟩, ⟨1, 1, 0, 0⟩, ⟨1, 2, 2, 3⟩, ⟨2, 0, 1, 0⟩, ⟨1073741825, 0, 0, 0⟩]
def aenc (a : Acc) : List Value := [.int .i64 a.c, .int .i64 a.s, .int .i64 a.m, .int .i64 a.x]
theorem bads_bad : ∀ a ∈ bads, ¬ a.ok := by
  intro a ha
  simp [bads] at ha
  rcases ha with rfl | rfl | rfl | rfl | rfl | rfl | rfl | rfl <;> simp [Acc.ok]
theorem bad_facts {a : Acc} (h : ¬ a.ok) : ajoin a ⟨0, 0, 0, 0⟩ = (⟨0, 0, 0, 0⟩, 8) ∧ ajoin ⟨1, 1, 1, 1⟩ a = (⟨0, 0, 0, 0⟩, 8) ∧ avalue 2 a = (0, 8) ∧ avalue 5 a = (0, 2) ∧ acheck a = 8 := by
  simp [ajoin, avalue, acheck, h]
theorem bads_cells (w : World) (t : TypeId) : Rd aenc 4 (w.alloc (.cells (bads.flatMap aenc).toArray t)) (w.heap.size + 1) (some ⟨w.heap.size, 0, none⟩) bads := fun _ => by
  refine ⟨_, _, rfl, by omega, fun k x hx j u hu => ?_⟩
  rw [World.cell?_alloc_at _ _ _ _ rfl]
  simpa using flat_at (enc := aenc) (fun _ => rfl) bads k j x u hx hu

set_option maxHeartbeats 8000000 in
set_option maxRecDepth 100000 in
theorem accumsNames_walk (w : World) :
    Calls Try.prog 11 #[] w fun e w' => e = .returned (.bool true) ∧ Below w.heap.size w w' := by
  have h0 : Loc w [] := Loc.nil w
  have z1 : ajoin ⟨1073741824, 7, 0, 0⟩ ⟨1, 0, 0, 0⟩ = (⟨0, 0, 0, 0⟩, 4) := by simp [ajoin, Acc.ok]
  have z2 : ajoin ⟨1073741824, 7, 0, 0⟩ ⟨0, 0, 0, 0⟩ = (⟨1073741824, 7, 0, 0⟩, 0) := by simp [ajoin, Acc.ok, aboth]
  have z3 : avalue 1 ⟨0, 0, 0, 0⟩ = (0, 6) := by simp [avalue, Acc.ok]
  have z4 : avalue 0 ⟨0, 0, 0, 0⟩ = (0, 2) := by simp [avalue]
  have z5 : avalue 1 ⟨1073741824, 7, 0, 0⟩ = (1073741824, 0) := by simp [avalue, Acc.ok, atold]
  have z6 : avalue 4 ⟨1, -9, -9, -9⟩ = (-9, 0) := by simp [avalue, Acc.ok, atold]
  have hb0 := h0.new (bads.flatMap aenc) 38
  have hrd := bads_cells w 38
  obtain ⟨lE, hE0, hRr⟩ := Env.abs (w0 := w) ((Below.refl _ _).alloc (Nat.le_refl _) _) hb0
  have hRrd : ∀ X, Env w lE X → Rd aenc 4 X X.heap.size (some ⟨w.heap.size, 0, none⟩) bads := fun X hX => by
    obtain ⟨h1, h2, _⟩ := hRr X hX
    refine fun _ => ⟨_, _, rfl, h1, fun k x hx j u hu => ?_⟩
    rw [h2]
    simpa using flat_at (enc := aenc) (fun _ => rfl) bads k j x u hx hu
  have hRr' := Lib.hid hRr
  have hRrd' := Lib.hid hRrd
  clear hRr hRrd hb0 hrd h0
  have hE0' : Env w lE (w.alloc (.cells #[.int .i64 0, .int .i64 1, .int .i64 0, .int .i64 0, .int .i64 0, .int .i64 0, .int .i64 1, .int .i64 0, .int .i64 0, .int .i64 0, .int .i64 0, .int .i64 (-1), .int .i64 (-1), .int .i64 0, .int .i64 0, .int .i64 0, .int .i64 1, .int .i64 1, .int .i64 0, .int .i64 0, .int .i64 1, .int .i64 2, .int .i64 2, .int .i64 3, .int .i64 2, .int .i64 0, .int .i64 1, .int .i64 0, .int .i64 1073741825, .int .i64 0, .int .i64 0, .int .i64 0] 38)) := hE0
  have hE1 := Lib.hid hE0'
  clear hE0 hE0'
  go_enter Try.func11, Try.ntmps11
  go_wp2_with fail
  go_loopw [2] (fun i wr => ∃ k : Nat, k ≤ 8 ∧ i = .int .i64 k ∧ Env w lE wr) (fun i _ => 8 - (intOf i).toNat)
  case atStart => exact ⟨0, Nat.zero_le _, rfl, hE1.out⟩
  case round =>
    obtain ⟨k, hk, rfl, hE⟩ := hrel
    by_cases hlt : k < 8
    · have hlt' : k < bads.length := hlt
      have hx : bads[k]? = some bads[k] := List.getElem?_eq_getElem hlt'
      have hbad := bads_bad _ (List.getElem_mem hlt')
      obtain ⟨a, ha⟩ : ∃ a, a = bads[k] := ⟨_, rfl⟩
      rw [← ha] at hx hbad
      obtain ⟨j1, j2, j3, j4, j5⟩ := bad_facts hbad
      obtain ⟨c, s, m, x⟩ := a
      have hR : ∀ X, Env w lE X → X.cell? ⟨w.heap.size, k * 4, none⟩ = some (.int .i64 c) ∧ X.cell? ⟨w.heap.size, k * 4 + 1, none⟩ = some (.int .i64 s) ∧ X.cell? ⟨w.heap.size, k * 4 + 2, none⟩ = some (.int .i64 m) ∧ X.cell? ⟨w.heap.size, k * 4 + 3, none⟩ = some (.int .i64 x) ∧ w.heap.size < X.heap.size := fun X hX => by
        have h1 := (hRr'.out X hX).1
        obtain ⟨b, off, e, _, hc⟩ := (hRrd'.out X hX).at_ hx
        simp only [Option.some.injEq, Addr.mk.injEq, and_true] at e
        obtain ⟨rfl, rfl⟩ := e
        have c0 := hc 0 _ rfl
        have c1 := hc 1 _ rfl
        have c2 := hc 2 _ rfl
        have c3 := hc 3 _ rfl
        simp only [Nat.zero_add, Nat.add_zero] at c0 c1 c2 c3
        exact ⟨c0, c1, c2, c3, h1⟩
      have hFr := hR wr hE
      clear ha hx hbad hlt'
      go_wp2_with (first
        | (go_at_call 29; refine (ajoin_any _ _ _ _ _ _ _ _ _).mono ?_; rintro e w1 ⟨rfl, hb1⟩; have hEhb1 := Env.step hb1 (by first | assumption | exact Env.old (by assumption) _ | exact Env.old (Env.old (by assumption) _) _ | exact Env.old (Env.old (Env.old (by assumption) _) _) _)))
      go_region_held3 (Env w lE) (first | assumption | exact Env.step (by assumption) (by assumption) | exact Env.old (by assumption) _ | exact Env.drew hE | exact hE | exact Env.drew (by assumption) | exact Env.drew (Env.old (by assumption) _) | ((repeat first | refine Env.far0 ?_ (by assumption) _ | refine Env.far1 ?_ (by assumption) _ | refine Env.farA ?_ (by assumption) _); assumption))
        (first
          | (go_at_call 35; refine (aof_any _ _).mono ?_; rintro e w1 ⟨rfl, hb1⟩; have hEhb1 := Env.step hb1 (by assumption); (try (have hqhb1 := (by with_reducible first | exact Loc.below hb1 (Loc.new (Loc.nil _) _ _) | exact Loc.below hb1 (Loc.drew (Loc.new (Loc.nil _) _ _)) | exact Loc.below hb1 (by assumption : Loc _ [_])); (repeat rw [World.size_drew] at hqhb1); (repeat rw [World.size_alloc] at hqhb1); have hrhb1 := hqhb1; (repeat unfold Loc at hrhb1))))
          | (go_at_call 29; refine (ajoin_any _ _ _ _ _ _ _ _ _).mono ?_; rintro e w2 ⟨rfl, hb2⟩; have hEhb2 := Env.step hb2 (by assumption); (try (have hqhb2 := (by with_reducible first | exact Loc.below hb2 (Loc.new (Loc.nil _) _ _) | exact Loc.below hb2 (Loc.drew (Loc.new (Loc.nil _) _ _)) | exact Loc.below hb2 (by assumption : Loc _ [_])); (repeat rw [World.size_drew] at hqhb2); (repeat rw [World.size_alloc] at hqhb2); have hrhb2 := hqhb2; (repeat unfold Loc at hrhb2)))))
      all_goals
        go_wp2_with (first
          | (go_at_call 32; refine (avalue_any _ _ _ _ _ _).mono ?_; rintro e w1 ⟨rfl, hb1⟩; have hEhb1 := Env.step hb1 (by first | assumption | exact Env.old (by assumption) _ | exact Env.old (Env.old (by assumption) _) _ | exact Env.old (Env.old (Env.old (by assumption) _) _) _))
          | (go_at_call 30; refine (acheck_any _ _ _ _ _).mono ?_; rintro e w1 ⟨rfl, hb1⟩; have hEhb1 := Env.step hb1 (by first | assumption | exact Env.old (by assumption) _ | exact Env.old (Env.old (by assumption) _) _ | exact Env.old (Env.old (Env.old (by assumption) _) _) _)))
        go_roundw
        case rel => exact ⟨k + 1, by omega, by go_num, by (first | assumption | exact Env.step (by assumption) (by assumption) | exact Env.old (by assumption) _ | exact Env.drew hE | exact hE | exact Env.drew (by assumption) | exact Env.drew (Env.old (by assumption) _) | ((repeat first | refine Env.far0 ?_ (by assumption) _ | refine Env.far1 ?_ (by assumption) _ | refine Env.farA ?_ (by assumption) _); assumption))⟩
        case measure => simp [intOf]; omega
    · have hb := hE.1
      have hL := (Loc.nil wr).new [.int .i64 1073741824, .int .i64 7, .int .i64 0, .int .i64 0] 38
      obtain ⟨lF, hE, hR⟩ := Env.abs (w0 := w) (below_new hb _) hL
      have hR' := hR
      (repeat unfold Loc at hR)
      have hFr := hR _ hE
      go_wp2_with fail
      go_region_held3 (Env w lF) (first | assumption | exact Env.step (by assumption) (by assumption) | exact Env.old (by assumption) _ | exact Env.drew hE | exact hE | exact Env.drew (by assumption) | exact Env.drew (Env.old (by assumption) _) | ((repeat first | refine Env.far0 ?_ (by assumption) _ | refine Env.far1 ?_ (by assumption) _ | refine Env.farA ?_ (by assumption) _); assumption))
        (first
          | (go_at_call 35; refine (aof_any _ _).mono ?_; rintro e w1 ⟨rfl, hb1⟩; have hEhb1 := Env.step hb1 (by assumption); (try (have hqhb1 := (by with_reducible first | exact Loc.below hb1 (Loc.new (Loc.nil _) _ _) | exact Loc.below hb1 (Loc.drew (Loc.new (Loc.nil _) _ _)) | exact Loc.below hb1 (by assumption : Loc _ [_])); (repeat rw [World.size_drew] at hqhb1); (repeat rw [World.size_alloc] at hqhb1); have hrhb1 := hqhb1; (repeat unfold Loc at hrhb1))))
          | (go_at_call 29; refine (ajoin_any _ _ _ _ _ _ _ _ _).mono ?_; rintro e w2 ⟨rfl, hb2⟩; have hEhb2 := Env.step hb2 (by assumption); (try (have hqhb2 := (by with_reducible first | exact Loc.below hb2 (Loc.new (Loc.nil _) _ _) | exact Loc.below hb2 (Loc.drew (Loc.new (Loc.nil _) _ _)) | exact Loc.below hb2 (by assumption : Loc _ [_])); (repeat rw [World.size_drew] at hqhb2); (repeat rw [World.size_alloc] at hqhb2); have hrhb2 := hqhb2; (repeat unfold Loc at hrhb2)))))
      all_goals
        go_wp2_with (first
          | (go_at_call 29; refine (ajoin_any _ _ _ _ _ _ _ _ _).mono ?_; rintro e w1 ⟨rfl, hb1⟩; have hL := Loc.below hb1 (hR' _ (by (first | assumption | exact Env.step (by assumption) (by assumption) | exact Env.old (by assumption) _ | exact Env.drew hE | exact hE | exact Env.drew (by assumption) | exact Env.drew (Env.old (by assumption) _) | ((repeat first | refine Env.far0 ?_ (by assumption) _ | refine Env.far1 ?_ (by assumption) _ | refine Env.farA ?_ (by assumption) _); assumption)))); have hF := hL; (repeat unfold Loc at hF))
          | (go_at_call 32; refine (avalue_any _ _ _ _ _ _).mono ?_; rintro e w1 ⟨rfl, hb1⟩; replace hL := (by with_reducible first | exact hL.below hb1 | exact (hL.new _ _).below hb1 | exact ((hL.new _ _).new _ _).below hb1 | exact (((hL.new _ _).new _ _).new _ _).below hb1 | exact ((((hL.new _ _).new _ _).new _ _).new _ _).below hb1); (repeat rw [World.size_alloc] at hL); have hF := hL; (repeat unfold Loc at hF))
          | (go_at_call 35; refine (aof_any _ _).mono ?_; rintro e w1 ⟨rfl, hb1⟩; replace hL := (by with_reducible first | exact hL.below hb1 | exact (hL.new _ _).below hb1 | exact ((hL.new _ _).new _ _).below hb1 | exact (((hL.new _ _).new _ _).new _ _).below hb1 | exact ((((hL.new _ _).new _ _).new _ _).new _ _).below hb1); (repeat rw [World.size_alloc] at hL); have hF := hL; (repeat unfold Loc at hF))
          | (go_at_call 27; refine (alive16 _).mono ?_; rintro e w1 ⟨rfl, hb1⟩; replace hL := (by with_reducible first | exact hL.below hb1 | exact (hL.new _ _).below hb1 | exact ((hL.new _ _).new _ _).below hb1 | exact (((hL.new _ _).new _ _).new _ _).below hb1 | exact ((((hL.new _ _).new _ _).new _ _).new _ _).below hb1); (repeat rw [World.size_alloc] at hL); have hF := hL; (repeat unfold Loc at hF)))
        go_ret
        exact ⟨rfl, (by repeat (first | exact Below.refl _ _ | assumption | (with_reducible exact Env.below (by assumption)) | (with_reducible refine below_new ?_ _) | (with_reducible refine below_drew ?_) | (with_reducible refine below_drewN ?_ _) | (with_reducible refine below_put ?_ ?_ _; rotate_left 1; (dsimp only; omega)) | (refine below_then ?_ (by assumption))))⟩
end Go.Proofs.Ytkpgigkcnmjbdaa
