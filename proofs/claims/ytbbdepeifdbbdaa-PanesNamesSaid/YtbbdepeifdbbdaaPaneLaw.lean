/- What chapter 19's laws use: the contracts of Values and Parts as what the results read as; the chapter's examples hold. Condition: numbers within their types. -/
import Derived.Test.YtbbdepeifdbbdaaPaneValsW
import Derived.Test.YtbbdepeifdbbdaaPaneParts3
import Derived.Test.YtbbdepeifdbbdaaEnSame
import Derived.Test.YtbbdepeifdbbdaaStoreAliveP
namespace Go.Proofs.Ytbbdepeifdbbdaa
open Go.RowKit

/-- A slice that reads as entries. -/
def ValsR (a : List En) (m : Nat) (er : Int) (w : World) (r : Ending) (w' : World) : Prop :=
  ∃ A c, r = .returned (.tuple #[.slice A m c, .int .i64 er]) ∧ m ≤ c ∧ c ≤ maxLen ∧ (A = none → c = 0) ∧ Rd enenc 11 w' w'.heap.size A a ∧ Below w.heap.size w w'
theorem valsR_of {wk ws we : Int} {l : List Pt} {a : List En} {er : Int} {m : Nat} {w : World} (hv : pvals wk ws we l = (a, er)) (hm : a.length = m) {r : Ending} {w' : World} (h : ValsP wk ws we l w r w') : ValsR a m er w r w' := by
  obtain ⟨v, rfl, own, hb⟩ := h
  rw [hv] at own ⊢
  obtain ⟨A', c', rfl, h1, h2⟩ := own_shape_z own hm
  obtain ⟨A2, c2, e, _, hcm, _⟩ := own.form
  injection e with _ _ e3
  exact ⟨A', c', rfl, h1, by omega, h2, Own.rd enenc_len own, hb⟩
def PartsR (a : List (Int × Int)) (m : Nat) (er : Int) (w : World) (r : Ending) (w' : World) : Prop :=
  ∃ A c, r = .returned (.tuple #[.slice A m c, .int .i64 er]) ∧ m ≤ c ∧ c ≤ maxLen ∧ (A = none → c = 0) ∧ Rd senc 2 w' w'.heap.size A a ∧ Below w.heap.size w w'
def PartsP (k ws we a b : Int) (w : World) (r : Ending) (w' : World) : Prop := ∃ v, r = .returned (.tuple #[v, .int .i64 (pparts k ws we a b).2]) ∧ Own senc 2 w' w.heap.size 38 v (pparts k ws we a b).1 ∧ Below w.heap.size w w'
theorem partsR_of {k ws we x y : Int} {a : List (Int × Int)} {er : Int} {m : Nat} {w : World} (hv : pparts k ws we x y = (a, er)) (hm : a.length = m) {r : Ending} {w' : World} (h : PartsP k ws we x y w r w') : PartsR a m er w r w' := by
  obtain ⟨v, rfl, own, hb⟩ := h
  rw [hv] at own ⊢
  obtain ⟨A', c', rfl, h1, h2⟩ := own_shape_z own hm
  obtain ⟨A2, c2, e, _, hcm, _⟩ := own.form
  injection e with _ _ e3
  exact ⟨A', c', rfl, h1, by omega, h2, Own.rd senc_len own, hb⟩
theorem ex19_any (w : World) : Calls Try.prog 33 #[] w fun e w' => e = .returned (.agg #[.int .u8 2, .int .i64 10, .int .i64 4]) ∧ Below w.heap.size w w' := by
  go_enter Try.func33, Try.ntmps33
  go_wp2
  refine bodyPost_ret (v := _) (by rw [results_cell1 Try.results33]; go_simp; rfl) rfl ⟨?_, ?_⟩
  · rfl
  · exact (by repeat (first | exact Below.refl _ _ | assumption | (with_reducible exact Env.below (by assumption)) | (with_reducible refine below_new ?_ _) | (with_reducible refine below_drew ?_) | (with_reducible refine below_drewN ?_ _) | (with_reducible refine below_put ?_ ?_ _; rotate_left 1; (dsimp only; omega)) | (refine below_then ?_ (by assumption))))
def ax0 : List Pt := [⟨0, 5, 1, 0⟩, ⟨0, 9, 2, 0⟩]
def ax1 : List En := [⟨0, -4, 6, 1, 1, 1, 1, 0, 0, 0, 0⟩, ⟨0, 0, 10, 2, 3, 1, 2, 0, 0, 0, 0⟩, ⟨0, 4, 14, 2, 3, 1, 2, 0, 0, 0, 0⟩, ⟨0, 8, 18, 1, 2, 2, 2, 0, 0, 0, 0⟩]
theorem ax_all : allE 2 10 4 [] ax0 = some ax1 := by
  unfold ax0
  rw [allE_cons (b := [⟨0, -4, 6, 1, 1, 1, 1, 0, 0, 0, 0⟩, ⟨0, 0, 10, 1, 1, 1, 1, 0, 0, 0, 0⟩, ⟨0, 4, 14, 1, 1, 1, 1, 0, 0, 0, 0⟩]) (addE_lit val_nil (by unfold wok; decide) (.inl rfl) (by decide) (by decide +kernel)),
    allE_cons (b := ax1) (addE_lit ⟨by decide, by decide, by simp [SS, enlt]⟩ (by unfold wok; decide) (.inl rfl) (by decide) (by decide +kernel))]
  rfl
theorem ax_vals : pvals 2 10 4 ax0 = (ax1, 0) := by
  unfold pvals
  rw [if_neg (by decide), if_neg (by decide), if_pos (by decide), ax_all]
  rfl
def ax2 : List (Int × Int) := [(4, 6), (6, 8), (8, 10), (10, 12), (12, 14)]
theorem ax_parts : pparts 2 10 4 4 14 = (ax2, 0) := by decide +kernel
theorem ax_size : psize 10 4 = (2, 0) := by decide +kernel
theorem rd_recs (w : World) (P : List Pt) (e : TypeId) : Rd rcenc 3 (w.alloc (.cells (P.flatMap rcenc).toArray e)) (w.heap.size + 1) (some ⟨w.heap.size, 0, none⟩) P := by
  intro _
  refine ⟨w.heap.size, 0, rfl, by omega, fun k x hx j u hu => ?_⟩
  rw [World.cell?_alloc_at _ _ _ _ rfl]
  have := flat_at rcenc_len P k j x u hx hu
  simpa using this
set_option maxHeartbeats 16000000 in
set_option maxRecDepth 100000 in
theorem alive19 (w : World) : Calls Try.prog 34 #[] w fun e w' => e = .returned (.bool true) ∧ Below w.heap.size w w' := by
  have hsz := fun W => size_any 10 4 (by decide) (by decide) W
  rw [ax_size] at hsz
  have HSZ := Lib.hid hsz
  clear hsz
  go_enter Try.func34, Try.ntmps34
  go_wp2_with fail
  go_at_call 25
  refine (HSZ.out _).mono ?_
  rintro r w1 ⟨rfl, hb1⟩
  go_wp2_with fail
  go_at_call 33
  refine (ex19_any _).mono ?_
  rintro r w2 ⟨rfl, hb2⟩
  go_wp2_with fail
  go_at_call 27
  refine (parts_any 2 10 4 4 14 (by decide) _).mono ?_
  rintro r w3 h3
  obtain ⟨A3, c3, rfl, m3, -, z3, r3, hb3⟩ := partsR_of (m := 5) ax_parts rfl h3
  go_wp2_with fail
  go_at_call 33
  refine (ex19_any _).mono ?_
  rintro r w4 ⟨rfl, hb4⟩
  go_wp2_with fail
  go_at_call 29
  refine (values_any _ 2 2 ax0 2 10 4 (by decide) _ rfl (by omega) ((rd_recs w4 ax0 31).more (by simp)) (by intro x hx; simp [ax0] at hx; rcases hx with rfl | rfl <;> exact ⟨rfl, by decide⟩)).mono ?_
  rintro r w5 h5
  obtain ⟨A5, c5, rfl, m5, -, z5, r5, hb5⟩ := valsR_of (m := 4) ax_vals rfl h5
  have hb35 : Below w3.heap.size w3 w5 := below_then (below_then hb4 (below_new (Below.refl _ _) _)) hb5
  have hbw : Below w.heap.size w w5 := below_then (below_then (below_then hb1 hb2) hb3) hb35
  have r3' := rd_grown r3 hb35
  clear h3 h5 r3 hb1 hb2 hb3 hb4 hb5 hb35
  obtain ⟨b3, o3, rfl, -, p0, p1⟩ := span_cells r3' (k := 2) (x := (8, 10)) rfl
  obtain ⟨b5, o5, rfl, -, f0, f1, f2, f3, f4, -⟩ := en_cells r5 (k := 0) (x := ⟨0, -4, 6, 1, 1, 1, 1, 0, 0, 0, 0⟩) rfl
  obtain ⟨b6, o6, hq1, -, g0, g1, g2, g3, g4, -⟩ := en_cells r5 (k := 1) (x := ⟨0, 0, 10, 2, 3, 1, 2, 0, 0, 0, 0⟩) rfl
  obtain ⟨b7, o7, hq2, -, k0, k1, k2, k3, k4, -⟩ := en_cells r5 (k := 2) (x := ⟨0, 4, 14, 2, 3, 1, 2, 0, 0, 0, 0⟩) rfl
  obtain ⟨rfl, rfl⟩ : b5 = b6 ∧ o5 = o6 := by simpa using hq1
  obtain ⟨rfl, rfl⟩ : b5 = b7 ∧ o5 = o7 := by simpa using hq2
  simp only [Nat.zero_mul, Nat.one_mul, Nat.add_zero, Nat.reduceMul] at p0 p1 f0 f1 f2 f3 f4 g0 g1 g2 g3 g4 k0 k1 k2 k3 k4
  clear hq1 hq2 r3' r5
  go_wp2_with fail
  go_ret
  exact ⟨rfl, hbw⟩
end Go.Proofs.Ytbbdepeifdbbdaa
