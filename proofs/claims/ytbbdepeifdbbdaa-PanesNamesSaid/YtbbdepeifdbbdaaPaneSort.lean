/- slices.SortFunc at the panes' entries (chapter 19): by the end and the key. Condition: fewer than 2^40 entries. -/
import Derived.Test.YtbbdepeifdbbdaaKitG
import Derived.Test.YtbbdepeifdbbdaaSortLaid
import Derived.Test.YtbbdepeifdbbdaaPanePlain
import Derived.Shelf.SlSortCmp.WholeK
import Derived.Shelf.SlSortCmp.NoneTotal
namespace Go.Proofs.Ytbbdepeifdbbdaa
open Go.RowKit Go.Sort Go.Shelf

def bcmp (x y : En) : Int := orL [cmpI x.e y.e, cmpI x.k y.k]
theorem ltBc (x y : En) : ltOf bcmp x y = ltB x y := by
  unfold ltOf bcmp ltB
  rw [decide_eq_decide]
  unfold orL orL orL cmpI
  grind
theorem swoB : SWO (ltOf bcmp) where
  irrefl x := by rw [ltBc]; simp [ltB]
  trans x y z h1 h2 := by rw [ltBc] at *; simp only [ltB, decide_eq_true_eq] at *; omega
  ntrans x y z h1 h2 := by rw [ltBc] at *; simp only [ltB, decide_eq_false_iff_not] at *; omega
set_option maxHeartbeats 4000000 in
set_option maxRecDepth 100000 in
theorem cloB_any (a b : En) (W : World) : Calls Try.prog 69 #[.agg #[.int .i64 a.k, .int .i64 a.s, .int .i64 a.e, .int .i64 a.c1, .int .i64 a.s1, .int .i64 a.m1, .int .i64 a.x1, .int .i64 a.c2, .int .i64 a.s2, .int .i64 a.m2, .int .i64 a.x2], .agg #[.int .i64 b.k, .int .i64 b.s, .int .i64 b.e, .int .i64 b.c1, .int .i64 b.s1, .int .i64 b.m1, .int .i64 b.x1, .int .i64 b.c2, .int .i64 b.s2, .int .i64 b.m2, .int .i64 b.x2]] W fun e w' => e = .returned (.int .i64 (bcmp a b)) ∧ ∃ q os', w' = grow (W.drewN q) os' := by
  have hor := Lib.hid (show orL [cmpI a.e b.e, cmpI a.k b.k] = bcmp a b from rfl)
  go_enter Try.func69, Try.ntmps69
  go_wp2_with fail
  refine region_still_tail 12 (by kernel_rfl) (by kernel_rfl) ?_
  simp only [List.take_succ_cons, List.take_zero, List.drop_succ_cons, List.drop_zero]
  repeat still_step
  still_call (cmp_still _ _ _)
  repeat still_step
  still_call (cmp_still _ _ _)
  repeat still_step
  refine wpStill_nil ?_
  go_wp2_with (first
      | (go_at_call 70; refine (or2 (cmpI a.e b.e) (cmpI a.k b.k) _ _ (by simp) (by go_simp) (by go_simp)).mono ?_; rintro e w1 ⟨rfl, rfl⟩))
  go_ret
  exact ⟨ret_i64 hor.out, 1, _, by rw [alloc_eq_grow, alloc_eq_grow, alloc_eq_grow, grow_grow, grow_grow]; rfl⟩
theorem en_agg (w : World) : (isAgg 43).run Try.prog w = .ok true w := by kernel_rfl
theorem en_size (w : World) : (Go.sizeOf 43).run Try.prog w = .ok 11 w := by kernel_rfl
set_option maxHeartbeats 2000000 in
/-- Entries sorted by their ends and keys, in place. -/
theorem sortB_any (g n cap base : Nat) (l : List En) (w : World) (hl : l.length = n) (hn : n ≤ 1099511627776) (hown : Own enenc 11 w base 43 (.slice (some ⟨g, 0, none⟩) n cap) l) :
    Calls Try.prog 68 #[.slice (some ⟨g, 0, none⟩) n cap, .func (.func 69) #[] #[]] w fun e w' => e = .returned (.tuple #[]) ∧
      ∃ l', l'.Perm l ∧ (l'.Pairwise fun a b => ltB b a = false) ∧ Own enenc 11 w' base 43 (.slice (some ⟨g, 0, none⟩) n cap) l' ∧ w.grownBy w' (some g) := by
  have eg : ∀ args w, (callFunc 69 args).run Try.prog w = .ok (.enter 69 args) w := enters_of Try.func69 (by kernel_rfl) rfl
  have hcon := AnyQ.slices_SortFunc Try.sortEn 11 en_agg en_size enenc (fun _ => rfl) (fun x v hv => by simp [enenc] at hv; rcases hv with rfl | rfl | rfl | rfl | rfl | rfl | rfl | rfl | rfl | rfl | rfl <;> rfl) bcmp swoB 69 #[] g 0 cap l.toArray w eg (fun _ _ _ _ x y => cloB_any x y _)
    (own_holds enenc_len hown hl.symm) (World.ownsRow.lt hown g rfl).2 (by simp; omega)
  change Calls Try.prog 68 _ _ _ at hcon
  rw [List.size_toArray, hl] at hcon
  refine hcon.mono ?_
  rintro e w' ⟨he, d', m, os, hp, hs, hw⟩
  have hsz : d'.size = n := by have := hp.1; simpa [hl] using this
  have hpl : d'.toList.Perm l := by
    have h := permIn_all (d := l.toArray) (d' := d') (by rw [List.size_toArray, hl]; exact hp)
    simpa using h
  have hso : d'.toList.Pairwise fun a b => ltOf bcmp b a = false := sortedIn_all (by rw [hsz]; exact hs)
  obtain ⟨o1, o2⟩ := own_sorted (l' := d'.toList) enenc_len hown hl.symm hpl.length_eq hw
  refine ⟨he, d'.toList, hpl, hso.imp (fun {a b} h => ?_), o1, o2⟩
  rw [ltBc] at h
  exact h
theorem sortB_none (fv : Value) (w : World) : Calls Try.prog 68 #[.slice none 0 0, fv] w fun e w' => e = .returned (.tuple #[]) ∧ w' = w := by
  have h := AnyF.slices_SortFunc_none Try.sortEn none 0 fv w
  exact h
end Go.Proofs.Ytbbdepeifdbbdaa
