/- The contract of slide.All: the reference's windows and error, at every time and sizes. No condition. -/
import Derived.Test.YtkpgigkcnmjbdaaSlidePlain
import Derived.Test.YtkpgigkcnmjbdaaBack
namespace Go.Proofs.Ytkpgigkcnmjbdaa
open Go.RowKit Go.Shelf Go.WideShapes Go.ChangeShapes Go.ChangeAt
attribute [local go_sem] Oper.semAt_some

set_option maxHeartbeats 4000000 in
set_option maxRecDepth 100000 in
theorem sall_ok (t size every : Int) (w : World) (hr : sright size every) (ht1 : -1099511627776 ≤ t) (ht2 : t ≤ 1099511627776) :
    Calls Try.prog 39 #[.int .i64 t, .int .i64 size, .int .i64 every] w fun e w' => ∃ v, e = .returned (.tuple #[v, .int .i64 0]) ∧ Own senc 2 w' w.heap.size 23 v (swins t size every) ∧ Below w.heap.size w w' := by
  obtain ⟨i0, hi0, hz0, hz1, hz2⟩ := info_parts span_info
  obtain ⟨k1, k2, k3, k4⟩ := scount_facts (t := t) hr
  have hsw := Lib.hid (swins_eq (t := t) hr)
  obtain ⟨s1, s2, s3, s4, s5⟩ := hr
  obtain ⟨q1, q2, q3, q4, q5⟩ := floor_facts s2 ht1 ht2
  have hT : tspan t every = (t / every * every, t / every * every + every) := by
    unfold tspan; rw [if_pos (tchk_zero.2 ⟨s2, by omega, ht1, ht2⟩)]
  have hC : tchk t every = 0 := tchk_zero.2 ⟨s2, by omega, ht1, ht2⟩
  obtain ⟨K, hK⟩ : ∃ K, K = scount t size every := ⟨_, rfl⟩
  rw [← hK] at k1 k2 k3 k4 hsw
  obtain ⟨S, hS⟩ : ∃ S, S = t / every * every := ⟨_, rfl⟩
  rw [← hS] at q1 q2 q3 k3 k4 hT
  have hS' := Lib.hid hS; have hK' := Lib.hid hK
  have hT1 : (tspan t every).1 = S := by rw [hT]
  have hT2 : (tspan t every).2 = S + every := by rw [hT]
  clear hS hK q3 q4 q5 hT
  have hL : Loc w [] := trivial
  refine (callsIn_wide (n := 9)).1 ?_
  refine callsIn_of_wp_marks Try.func39 rfl trivial ?_ rfl
  simp only [Try.ntmps39, List.size_toArray, List.length_cons, List.length_nil, Nat.reduceAdd, Nat.reduceSub, Array.replicate_succ, Array.replicate_zero, List.push_toArray, List.append_toArray, List.nil_append, List.cons_append]
  gi_wp2_with (refine ⟨trivial, ?_⟩; gi_at_call 21; refine (callsIn_wide.2 (of_any _ _ _)).mono ?_; rintro e w1 ⟨rfl, hb1⟩; replace hL := (by with_reducible first | exact hL.below hb1 | exact (hL.new _ _).below hb1 | exact ((hL.new _ _).new _ _).below hb1 | exact (((hL.new _ _).new _ _).new _ _).below hb1 | exact ((((hL.new _ _).new _ _).new _ _).new _ _).below hb1); (repeat rw [World.size_alloc] at hL); have hF := hL; (repeat unfold Loc at hF))
  all_goals
    have hB0 : Below w.heap.size w (w1.alloc (.cells #[.int .i64 S, .int .i64 (S + every)] 23)) := (by repeat (first | exact Below.refl _ _ | assumption | (with_reducible exact Env.below (by assumption)) | (with_reducible refine below_new ?_ _) | (with_reducible refine below_drew ?_) | (with_reducible refine below_drewN ?_ _) | (with_reducible refine below_put ?_ ?_ _; rotate_left 1; (dsimp only; omega)) | (refine below_then ?_ (by assumption))))
    clear hL hF hb1
    gi_loopw [10, 11] (fun v s wr => ∃ k : Nat, k ≤ K ∧ s = .int .i64 (S - (k : Int) * every) ∧ Own senc 2 wr w.heap.size 23 v (sback t size every k) ∧ Below w.heap.size w wr) (fun _ s _ => (intOf s + size - t).toNat)
    case atStart => exact ⟨0, by omega, by simp, Own.nil _ _ _, hB0⟩
    case round =>
      obtain ⟨k, hk, rfl, hown, hb⟩ := hrel
      have m1 : (k : Int) * every ≤ 16 * every := Int.mul_le_mul_of_nonneg_right (by omega) (by omega)
      have m2 : 0 ≤ (k : Int) * every := Int.mul_nonneg (by omega) (by omega)
      have m3 : S - ((k + 1 : Nat) : Int) * every = S - (k : Int) * every - every := by
        rw [show ((k + 1 : Nat) : Int) = (k : Int) + 1 from by omega, Int.add_mul]; omega
      have M3 := Lib.hid m3
      have hsb := Lib.hid (sback_succ t size every k)
      have hsl := Lib.hid (sback_len t size every k)
      have hkk := k3 k
      obtain ⟨D, hD⟩ : ∃ D, D = S - (k : Int) * every := ⟨_, rfl⟩
      have hD' := Lib.hid hD
      have d1 : D ≤ 1099511627776 := by omega
      have d2 : -1200000000000 ≤ D := by omega
      rw [← hD] at hkk ⊢
      by_cases hlt : k < K
      · have h5 := hkk hlt
        clear m1 m2 m3 hD hkk k3
        gi_wp2_with (first
          | (gi_at_builtin; refine wpListIn_append_elem rfl _ _ 54 rfl w.heap.size 23 i0 (.agg #[.int .i64 0, .int .i64 0]) 2 16 Try.underlying54 hi0 hz0 hz1 hz2 rfl (by decide) senc (fun _ => rfl) _ _ (D, D + size) rfl (hown.alloc _) ⟨wr.heap.size, 0, none⟩ 1 rfl (span_new _ _ _ _ _ rfl) (span_one _) (by rw [hsl.out]; unfold maxLen; omega) (by rw [hsl.out]; omega) (by have := hb.size; simp; omega) ?_; intro v' w1 hown' hgrow hbel))
        have hb' := (hb.alloc hb.size _).trans hbel
        clear hown hgrow hbel hb
        gi_wp2
        go_roundw
        case rel => exact ⟨k + 1, by omega, by rw [M3.out, ← hD'.out], by rw [hsb.out, ← hS'.out, ← hD'.out]; exact hown', hb'⟩
        case measure => simp [intOf]; omega
      · obtain rfl : k = K := by omega
        clear hlt hkk hk
        rw [← hD] at k4
        clear m1 m2 m3 hD k3
        obtain ⟨A, c, rfl, hlc, hcm, hfr⟩ := hown.form
        gi_wp2_with (first
          | (refine ⟨trivial, ?_⟩; gi_at_call 54; refine (back_in Fence.wide _ trivial rfl _ _ _ _).mono ?_; rintro e w' ⟨rfl, rfl⟩))
        obtain ⟨H, hH⟩ : ∃ H, H = wr.heap.size := ⟨_, rfl⟩
        obtain ⟨zs, hzs⟩ : ∃ zs, zs = sback t size every k := ⟨_, rfl⟩
        rw [← hzs] at hown hlc hsl hsw ⊢
        have hrd := Own.rd (enc := senc) (sz := 2) (fun _ => rfl) hown
        rw [← hH] at hrd ⊢
        have bO := (Boxed.new wr 54 (.slice none 0 0)).alloc (.cells #[.slice A zs.length c] 54)
        have bB := Boxed.new (wr.alloc (.cells #[.slice none 0 0] 54)) 54 (.slice A zs.length c)
        rw [World.size_alloc, ← hH] at bB
        rw [← hH] at bO
        have hB1 : Below H wr ((wr.alloc (.cells #[.slice none 0 0] 54)).alloc (.cells #[.slice A zs.length c] 54)) := by
          rw [hH]; exact ((Below.refl _ wr).alloc (Nat.le_refl _) _).alloc (by simp) _
        have hsz : ((wr.alloc (.cells #[.slice none 0 0] 54)).alloc (.cells #[.slice A zs.length c] 54)).heap.size = H + 2 := by simp [hH]
        obtain ⟨W0, hW0⟩ : ∃ W0, (wr.alloc (.cells #[.slice none 0 0] 54)).alloc (.cells #[.slice A zs.length c] 54) = W0 := ⟨_, rfl⟩
        rw [hW0] at bO bB hB1 hsz ⊢
        have hlen : zs.length ≤ 16 := by rw [hsl.out]; exact k2
        have hwH : w.heap.size ≤ H := by rw [hH]; exact hb.size
        have hH' := Lib.hid hH
        clear hW0 hH hzs
        refine wpIn_rangeFunc_spans 14 63 64 (H + 2) 23 rfl (by omega) (gf := 61) (lb := #[.pointer (some ⟨H + 1, 0, none⟩)]) rfl trivial (enters_of Try.func61 (by kernel_rfl) rfl)
          (back_stops Fence.wide _ trivial rfl (by omega) (H + 1) H c A zs (by omega) W0 (by omega) (by omega) bB.cell (hrd.below hB1)) kpB_t (kpB_b (by omega) (by omega)) (fun _ => rfl)
          (fun pre W => (∃ v, Boxed W H 54 v ∧ W.ownsRow H 23 2 v (pre.map (·.2)).length ((pre.map (·.2)).flatMap senc) ∧ True) ∧ Boxed W (H + 1) 54 (.slice A zs.length c) ∧ Below H wr W)
          (OwnFrom.and (Go.Own.from (holdsRow_own H H 54 23 2 (fun pre : List (Nat × (Int × Int)) => (pre.map (·.2)).length) (fun pre => (pre.map (·.2)).flatMap senc) (fun _ _ => True)) _) (OwnFrom.and (Go.Own.from (boxed_own _ _ _) _) (ownFrom_below (by rw [hH'.out]; exact Nat.le_refl _) (by omega))))
          ⟨⟨_, bO, World.ownsRow_nil _ _ _ _, trivial⟩, bB, hB1⟩ ?assign ?body ?done
        case assign =>
          rintro l pre x W K ⟨⟨v, bv, hrow, -⟩, bA, hBW⟩ hK
          have hW : H ≤ W.heap.size := by rw [hH'.out]; exact hBW.size
          gi_wp2
          exact hK _ _ ((KeepsOthers.alloc _ _).from _) ⟨(Below.refl _ W).alloc (by omega) _, Below.heap_alloc W _ (H + 1) bA.lt⟩ ⟨⟨v, bv.alloc _, hrow.alloc _, trivial⟩, bA.alloc _, hBW.alloc (by omega) _⟩ ⟨W.heap.size, by have := bA.lt; omega, World.alloc_heap_new W _, rfl⟩
        case body =>
          rintro l pre x a' W ⟨⟨v, bv, hrow, -⟩, bA, hBW⟩ ⟨Bx, hBx, hx, rfl⟩ hpre
          have hc := bv.cell
          have hx1 : W.cell? ⟨Bx, 0, none⟩ = some (.int .i64 x.2.1) := by simp [World.cell?, hx]
          have hx2 : W.cell? ⟨Bx, 1, none⟩ = some (.int .i64 x.2.2) := by simp [World.cell?, hx]
          have hxl := (Array.getElem?_eq_some_iff.1 hx).1
          have hlp : (pre.map (·.2)).length ≤ 16 := by simp; omega
          have hWs : H ≤ W.heap.size := by rw [hH'.out]; exact hBW.size
          obtain ⟨x0, x1, x2⟩ := x
          dsimp only at hx hx1 hx2
          clear hx
          gi_wp2_with (first
            | (gi_at_builtin; refine wpListIn_append_own _ rfl _ _ 54 rfl H 23 i0 (.agg #[.int .i64 0, .int .i64 0]) 2 16 Try.underlying54 hi0 hz0 hz1 hz2 rfl (by decide) _ _ _ rfl (hrow.alloc _) ⟨W.heap.size, 0, none⟩ 1 1 (senc (x1, x2)) rfl rfl (span_new _ _ _ _ _ rfl) (span_one _) (by unfold maxLen; omega) (by omega) (by simp; omega) ?_; intro v' w1 hown' hgrow _; obtain ⟨g', cap', rfl⟩ := ownsRow_succ hown'; obtain ⟨hv1, hv2, hr2, hk2, hb2⟩ := bv.appended (by decide) hrow hWs (Nat.le_refl _) hown' hgrow; have hc1 := hv1.cell; have hf1 := hv1.frozen; have bA1 := ((bA.alloc _).kept hgrow (bA.not_row (by decide) hrow)).other (B' := H) (by omega) (.slice (some ⟨g', 0, none⟩) ((List.map (fun x => x.snd) pre).length + 1) cap')))
          simp only [List.length_map] at hv2 hr2 hk2 hb2 bA1
          exact ⟨hk2.from _, ⟨hb2, bA1.trans bA.symm⟩, ⟨_, hv2, by simpa using hr2⟩, bA1, hBW.trans hb2⟩
        case done =>
          rintro E ys W hD rfl ⟨⟨v, bv, hrow, -⟩, bA, hBW⟩ hK
          have hc := bv.cell
          rw [backAt_all, ← hsw.out] at hrow
          clear bA hown hrd bO bB
          gi_wp2
          have hwE : w.heap.size ≤ E := by omega
          have hBw : Below w.heap.size w W := below_then hb (by rw [← hH'.out]; exact hBW)
          have hown : Own senc 2 (W.putObj E (.deferred none)) H 23 v (swins t size every) := ownsRow_putObj hrow _ hK rfl
          refine ⟨by simp, .inl ⟨_, _, rfl, run_takeDeferred hK, ?_⟩⟩
          refine ⟨.tuple #[v, .int .i64 0], by simp [results, Try.f39, go_sem], ?_⟩
          exact ⟨v, rfl, hown.mono hwH, hBw.trans (belowK_b (w := w) (Nat.le_refl _) W E _ _ hwE hK rfl rfl)⟩

set_option maxHeartbeats 2000000 in
/-- slide.All, at every time and sizes: the reference's list and error. -/
theorem sall_any (t size every : Int) (w0 : (Lit.int .i64 size).wf = true) (w1 : (Lit.int .i64 every).wf = true) (w : World) :
    Calls Try.prog 39 #[.int .i64 t, .int .i64 size, .int .i64 every] w fun e w' => ∃ v, e = .returned (.tuple #[v, .int .i64 (rall t size every).2]) ∧ Own senc 2 w' w.heap.size 23 v (rall t size every).1 ∧ Below w.heap.size w w' := by
  obtain ⟨b1, b2⟩ := bounds_i64 w0
  obtain ⟨b3, b4⟩ := bounds_i64 w1
  clear w0 w1
  by_cases hr : sright size every
  · by_cases ht : t < -1099511627776 ∨ 1099511627776 < t
    · have h3 : rall t size every = ([], 16) := by unfold rall; rw [if_neg (by simp [hr]), if_pos ht]
      obtain ⟨s1, s2, s3, s4, s5⟩ := hr
      have h2 : tchk t every = 16 := by unfold tchk; rw [if_neg (by omega), if_pos ht]
      have H := Lib.hid h3
      clear ht h3
      have hL : Loc w [] := trivial
      go_enter Try.func39, Try.ntmps39
      go_wp2_with (go_at_call 21; refine (of_any _ _ _).mono ?_; rintro e w' ⟨rfl, hb1⟩; replace hL := (by with_reducible first | exact hL.below hb1 | exact (hL.new _ _).below hb1 | exact ((hL.new _ _).new _ _).below hb1 | exact (((hL.new _ _).new _ _).new _ _).below hb1 | exact ((((hL.new _ _).new _ _).new _ _).new _ _).below hb1); (repeat rw [World.size_alloc] at hL); have hF := hL; (repeat unfold Loc at hF))
      all_goals go_ret2
      all_goals exact ⟨.slice none 0 0, by simp [H.out], by rw [H.out]; exact Own.nil _ _ _, (by repeat (first | exact Below.refl _ _ | assumption | (with_reducible exact Env.below (by assumption)) | (with_reducible refine below_new ?_ _) | (with_reducible refine below_drew ?_) | (with_reducible refine below_drewN ?_ _) | (with_reducible refine below_put ?_ ?_ _; rotate_left 1; (dsimp only; omega)) | (refine below_then ?_ (by assumption))))⟩
    · have h3 : rall t size every = (swins t size every, 0) := by unfold rall; rw [if_neg (by simp [hr]), if_neg ht]
      rw [h3]
      exact sall_ok t size every w hr (by omega) (by omega)
  · have h3 : rall t size every = ([], 2) := by unfold rall; rw [if_pos hr]
    have H := Lib.hid h3
    have hr' := Lib.hid hr
    clear h3 hr
    go_enter Try.func39, Try.ntmps39
    go_wp2_with fail
    all_goals first
      | (exfalso; have hr := hr'.out; unfold sright at hr; grind)
      | (go_ret2; exact ⟨.slice none 0 0, by simp [H.out], by rw [H.out]; exact Own.nil _ _ _, Below.refl _ _⟩)
end Go.Proofs.Ytkpgigkcnmjbdaa
