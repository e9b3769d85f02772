/- The contracts of the reference's Overlap and With (chapter 15). Condition: lists of at most 2^40 spans. -/
import Derived.Test.YtffehibdeogjeaaSessRows
namespace Go.Proofs.Ytffehibdeogjeaa
open Go.RowKit

set_option maxHeartbeats 2000000 in
theorem rovl_any (a1 a2 b1 b2 : Int) (w : World) : Calls Try.prog 128 #[.agg #[.int .i64 a1, .int .i64 a2], .agg #[.int .i64 b1, .int .i64 b2]] w fun e w' => e = .returned (.bool (ovl (a1, a2) (b1, b2))) ∧ Below w.heap.size w w' := by
  by_cases h1 : a1 < b2
  · have e1 : decide (a1 < b2) = true := by simp [h1]
    have ho : ovl (a1, a2) (b1, b2) = decide (b1 < a2) := by simp [ovl, h1]
    have HO := Lib.hid ho
    clear ho h1
    go_enter Try.func128, Try.ntmps128
    go_wp2
    go_ret
    exact ⟨ret_bool HO.out.symm, (by repeat (first | with_reducible exact Below.refl _ _ | with_reducible assumption | (with_reducible exact Env.below (by assumption)) | (with_reducible refine below_new ?_ _) | (with_reducible refine below_drew ?_) | (with_reducible refine below_drewN ?_ _) | (with_reducible refine below_put ?_ ?_ _; rotate_left 1; (dsimp only; omega)) | (with_reducible refine below_then ?_ (by assumption))))⟩
  · have e1 : decide (a1 < b2) = false := by simp; omega
    have ho : ovl (a1, a2) (b1, b2) = false := by simp [ovl, h1]
    have HO := Lib.hid ho
    clear ho h1
    go_enter Try.func128, Try.ntmps128
    go_wp2
    go_ret
    exact ⟨ret_bool HO.out.symm, (by repeat (first | with_reducible exact Below.refl _ _ | with_reducible assumption | (with_reducible exact Env.below (by assumption)) | (with_reducible refine below_new ?_ _) | (with_reducible refine below_drew ?_) | (with_reducible refine below_drewN ?_ _) | (with_reducible refine below_put ?_ ?_ _; rotate_left 1; (dsimp only; omega)) | (with_reducible refine below_then ?_ (by assumption))))⟩
theorem wfold_snoc (l : List (Int × Int)) (k : Nat) (x : Int × Int) (st : (Int × Int) × List (Int × Int) × List (Int × Int)) (hx : l[k]? = some x) : (l.take (k + 1)).foldl wstep st = wstep ((l.take k).foldl wstep st) x := by
  rw [List.take_add_one, hx]
  simp

theorem with_app {w wr W0 w7 : World} {u v v' : Value} {bef beh : List (Int × Int)} {cs : List Value} {o : Obj} (hb : Below w.heap.size w wr) (hbN : Below wr.heap.size wr W0) (hu : Own senc 2 wr (w.heap.size + 1) 32 u bef) (hv : Own senc 2 wr (w.heap.size + 1) 32 v beh)
    (hap : ∀ g, u.ownBlock = some g → v.ownBlock ≠ some g) (hloc : Loc wr [(w.heap.size, cs)]) (hgr : (W0.alloc o).grownBy w7 u.ownBlock) (hsf : v'.ownBlock = u.ownBlock ∨ ∀ k, v'.ownBlock = some k → (W0.alloc o).heap.size ≤ k) :
    Own senc 2 w7 (w.heap.size + 1) 32 v beh ∧ (∀ g, v'.ownBlock = some g → v.ownBlock ≠ some g) ∧ Loc w7 [(w.heap.size, cs)] ∧ Below w.heap.size w w7 := by
  refine ⟨((hv.below hbN).alloc o).grown hgr ?_, fun g hg hvg => ?_, Loc.grown hgr (fun q hq => ?_) ((hloc.below hbN).old o), ?_⟩
  · cases hvb : v.ownBlock with
    | none => exact .inl rfl
    | some g => exact .inr (fun e => hap g e.symm hvb)
  · rcases hsf with h | h
    · exact hap g (h ▸ hg) hvg
    · have h1 := h g hg
      have h2 := (World.ownsRow.lt hv g hvg).2
      have h3 := hbN.size
      rw [World.size_alloc] at h1
      omega
  · simp at hq
    subst hq
    intro e
    have := (World.ownsRow.lt hu _ e.symm).1
    simp at this
    omega
  · have h1 := hb.trans (hbN.mono hb.size)
    exact (h1.alloc h1.size o).grown hgr (by rw [World.size_alloc]; have := h1.size; omega) (fun k hk => by have := (World.ownsRow.lt hu k hk).1; omega)

set_option maxHeartbeats 8000000 in
set_option maxRecDepth 100000 in
theorem rwith_any (A : Option Addr) (c n : Nat) (l : List (Int × Int)) (s1 s2 : Int) (w : World) (hln : l.length = n) (hn : n ≤ 1099511627776) (hr : Rd senc 2 w w.heap.size A l) :
    Calls Try.prog 100 #[.slice A n c, .agg #[.int .i64 s1, .int .i64 s2]] w fun e w' => ∃ v, e = .returned v ∧ Own senc 2 w' w.heap.size 32 v (withS l (s1, s2)) ∧ Below w.heap.size w w' := by
  obtain ⟨i0, hi0, hz0, hz1, hz2⟩ := info_parts sp_info
  have HL := Lib.hid hln
  clear hln
  go_enter Try.func100, Try.ntmps100
  go_wp2_with fail
  go_loopw [5, 6, 7] (fun u v i wr => ∃ (k : Nat) (t1 t2 : Int) (bef beh : List (Int × Int)), k ≤ n ∧ i = .int .i64 k ∧ (l.take k).foldl wstep ((s1, s2), [], []) = ((t1, t2), bef, beh) ∧ bef.length + beh.length ≤ k ∧ Own senc 2 wr (w.heap.size + 1) 32 u bef ∧ Own senc 2 wr (w.heap.size + 1) 32 v beh ∧
    (∀ g, u.ownBlock = some g → v.ownBlock ≠ some g) ∧ Loc wr [(w.heap.size, [.int .i64 t1, .int .i64 t2])] ∧ Below w.heap.size w wr) (fun _ _ i _ => n - (intOf i).toNat)
  case atStart => exact ⟨0, s1, s2, [], [], Nat.zero_le _, rfl, rfl, Nat.le_refl _, Own.nil _ _ _, Own.nil _ _ _, (by intro g h; cases h), (Loc.nil w).new [.int .i64 s1, .int .i64 s2] _, below_new (Below.refl _ _) _⟩
  case round =>
    obtain ⟨k, t1, t2, bef, beh, hk, rfl, hst, hlen, hob, hoh, hap, hloc, hb⟩ := hrel
    have hlc := hloc
    have hlc1 := hloc.1
    (repeat unfold Loc at hlc)
    have HST := Lib.hid hst; have HAP := Lib.hid hap
    clear hst hap
    by_cases h1 : k < n
    · obtain ⟨x, hx⟩ : ∃ x, l[k]? = some x := ⟨_, List.getElem?_eq_getElem (by rw [HL.out]; exact h1)⟩
      have hnx := wfold_snoc l k x ((s1, s2), [], []) hx
      rw [HST.out] at hnx
      obtain ⟨b, off, rfl, hbB, f1, f2⟩ := span_cells hr hx
      obtain ⟨x1, x2⟩ := x
      dsimp only at f1 f2
      have g1 := (hb.cell (p := ⟨b, off + k * 2, none⟩) hbB).trans f1
      have g2 := (hb.cell (p := ⟨b, off + k * 2 + 1, none⟩) hbB).trans f2
      have hbw : b < wr.heap.size := Nat.lt_of_lt_of_le hbB hb.size
      have hne : b ≠ w.heap.size := by omega
      have d1 : decide ((k : Int) < (n : Int)) = true := by simp; omega
      have d1' : decide (k < n) = true := by simp [h1]
      have i1 : (0 : Int) ≤ (k : Int) := by omega
      have i2 : (k : Int) < (n : Int) := by omega
      have e1 : IntKind.i64.wrap ((k : Int) + 1) = (k : Int) + 1 := IntWalk.i64_in _ (by omega)
      have HNX := Lib.hid hnx
      clear hx hnx f1 f2
      have hE : Env wr [] wr := ⟨Below.refl _ _, trivial⟩
      have hR : ∀ X, Env wr [] X → X.cell? ⟨b, off + k * 2, none⟩ = some (.int .i64 x1) ∧ X.cell? ⟨b, off + k * 2 + 1, none⟩ = some (.int .i64 x2) ∧ X.cell? ⟨w.heap.size, 0, none⟩ = some (.int .i64 t1) ∧ X.cell? ⟨w.heap.size, 1, none⟩ = some (.int .i64 t2) := fun X hX =>
        ⟨(hX.1.cell (p := ⟨b, off + k * 2, none⟩) hbw).trans g1, (hX.1.cell (p := ⟨b, off + k * 2 + 1, none⟩) hbw).trans g2, (hX.1.cell (p := ⟨w.heap.size, 0, none⟩) hlc.1).trans (hlc.2.1 0), (hX.1.cell (p := ⟨w.heap.size, 1, none⟩) hlc.1).trans (hlc.2.1 1)⟩
      by_cases hov : ovl (x1, x2) (t1, t2) = true
      · have hw : wstep ((t1, t2), bef, beh) (x1, x2) = ((min t1 x1, max t2 x2), bef, beh) := by unfold wstep; rw [if_pos hov]
        have HW := Lib.hid hw
        clear hw
        go_wp2_with fail
        refine wp_region_held_drew (S := Env wr []) (by kernel_rfl) (by (first | assumption | exact Env.step (by assumption) (by assumption) | exact Env.old (by assumption) _ | exact Env.drew hE | exact hE | exact Env.drew (by assumption) | exact Env.drew (Env.old (by assumption) _) | ((repeat first | refine Env.far0 ?_ (by assumption) _ | refine Env.far1 ?_ (by assumption) _ | refine Env.farA ?_ (by assumption) _); assumption))) (fun hHeld => ?_)
        refine hTake 0 (by kernel_rfl) (by kernel_rfl) (by kernel_rfl) (by decide) (by assumption) ?_; (intro oi hoi; simp only [List.getElem?_toArray, List.getElem?_cons_zero] at hoi; obtain rfl := Option.some.inj hoi; clear hoi); refine ⟨rfl, ?_⟩; apply Exists.intro; refine ⟨?_, fun _ _ _ h => h, ?_⟩; (intro w hSw; (try dsimp only at hSw); go_simp; (try with_reducible rfl)); (try simp only [Act.put, List.setIfInBounds_toArray, List.set_cons_zero, List.set_cons_succ]); refine hTake 1 (by kernel_rfl) (by kernel_rfl) (by kernel_rfl) (by decide) (by assumption) ?_; (intro oi hoi; simp only [List.getElem?_toArray, List.getElem?_cons_succ, List.getElem?_cons_zero] at hoi; obtain rfl := Option.some.inj hoi; clear hoi); refine ⟨rfl, ?_⟩; apply Exists.intro; refine ⟨?_, fun _ _ _ h => h, ?_⟩; (intro w hSw; (try dsimp only at hSw); go_simp; (try with_reducible rfl)); (try simp only [Act.put, List.setIfInBounds_toArray, List.set_cons_zero, List.set_cons_succ]); refine hTake 2 (by kernel_rfl) (by kernel_rfl) (by kernel_rfl) (by decide) (by assumption) ?_; (intro oi hoi; simp only [List.getElem?_toArray, List.getElem?_cons_succ, List.getElem?_cons_zero] at hoi; obtain rfl := Option.some.inj hoi; clear hoi); refine ⟨rfl, ?_⟩; apply Exists.intro; refine ⟨?_, fun _ _ _ h => h, ?_⟩; (intro w hSw; (try dsimp only at hSw); go_simp; (try with_reducible rfl)); (try simp only [Act.put, List.setIfInBounds_toArray, List.set_cons_zero, List.set_cons_succ]); refine hTake 3 (by kernel_rfl) (by kernel_rfl) (by kernel_rfl) (by decide) (by assumption) ?_; (intro oi hoi; simp only [List.getElem?_toArray, List.getElem?_cons_succ, List.getElem?_cons_zero] at hoi; obtain rfl := Option.some.inj hoi; clear hoi); refine ⟨rfl, ?_⟩; apply Exists.intro; refine ⟨?_, fun _ _ _ h => h, ?_⟩; (intro w hSw; (try dsimp only at hSw); go_simp; (try with_reducible rfl)); (try simp only [Act.put, List.setIfInBounds_toArray, List.set_cons_zero, List.set_cons_succ]); refine hTake 4 (by kernel_rfl) (by kernel_rfl) (by kernel_rfl) (by decide) (by assumption) ?_; (intro oi hoi; simp only [List.getElem?_toArray, List.getElem?_cons_succ, List.getElem?_cons_zero] at hoi; obtain rfl := Option.some.inj hoi; clear hoi); refine ⟨rfl, ?_⟩; apply Exists.intro; refine ⟨?_, fun _ _ _ h => h, ?_⟩; (intro w hSw; (try dsimp only at hSw); go_simp; (try with_reducible rfl)); (try simp only [Act.put, List.setIfInBounds_toArray, List.set_cons_zero, List.set_cons_succ])
        refine hOnly 5 (by kernel_rfl) (by decide) ?_; (intro oi hoi; simp only [List.getElem?_toArray, List.getElem?_cons_succ, List.getElem?_cons_zero] at hoi; obtain rfl := Option.some.inj hoi; clear hoi); intro K hK; go_simp
        go_at_call 128
        refine (rovl_any x1 x2 t1 t2 _).mono ?_
        rw [hov]
        rintro r w6 ⟨rfl, hb6⟩
        have hEhb6 := Env.step hb6 (by assumption); (try (have hqhb6 := (by with_reducible first | exact Loc.below hb6 (Loc.new (Loc.nil _) _ _) | exact Loc.below hb6 (Loc.drew (Loc.new (Loc.nil _) _ _)) | exact Loc.below hb6 (by assumption : Loc _ [_])); (repeat rw [World.size_drew] at hqhb6); (repeat rw [World.size_alloc] at hqhb6); have hrhb6 := hqhb6; (repeat unfold Loc at hrhb6)))
        (refine hK.out _ _ (by (first | assumption | exact Env.step (by assumption) (by assumption) | exact Env.old (by assumption) _ | exact Env.drew hE | exact hE | exact Env.drew (by assumption) | exact Env.drew (Env.old (by assumption) _) | ((repeat first | refine Env.far0 ?_ (by assumption) _ | refine Env.far1 ?_ (by assumption) _ | refine Env.farA ?_ (by assumption) _); assumption))) (fun hHeld => ?_); clear hK K; (try simp only [Act.put, List.setIfInBounds_toArray, List.set_cons_zero, List.set_cons_succ]))
        refine hTake 6 (by kernel_rfl) (by kernel_rfl) (by kernel_rfl) (by decide) (by assumption) ?_; (intro oi hoi; simp only [List.getElem?_toArray, List.getElem?_cons_succ, List.getElem?_cons_zero] at hoi; obtain rfl := Option.some.inj hoi; clear hoi); refine ⟨rfl, ?_⟩; apply Exists.intro; refine ⟨?_, fun _ _ _ h => h, ?_⟩; (intro w hSw; (try dsimp only at hSw); go_simp; (try with_reducible rfl)); (try simp only [Act.put, List.setIfInBounds_toArray, List.set_cons_zero, List.set_cons_succ])
        refine wpAnyH_done (by kernel_rfl) ?_ _
        have hbX := hHeld.1
        obtain ⟨r1, r2, r3, r4⟩ := hR _ hHeld
        have hl6 := hloc.below hbX
        have hl6' := hl6
        (repeat unfold Loc at hl6')
        clear hR hE hHeld hlc
        go_wp2_with fail
        go_region
        all_goals
          go_wp2
          go_roundw
          case rel =>
            have hmin : (if x1 < t1 then x1 else t1) = min t1 x1 := by split <;> omega
            have hmax : (if t2 < x2 then x2 else t2) = max t2 x2 := by split <;> omega
            rw [hmin, hmax]
            exact ⟨k + 1, min t1 x1, max t2 x2, bef, beh, by omega, by go_num, by rw [HNX.out, HW.out], by omega, own_drew ((hob.below hbX).grown (putW_grown w.heap.size 0 [_, _] 0 w6) (own_apart hob (by omega))), own_drew ((hoh.below hbX).grown (putW_grown w.heap.size 0 [_, _] 0 w6) (own_apart hoh (by omega))), HAP.out, ((hl6.put (by simp) 0 _ (by simp)).put (by simp) 1 _ (by simp)).drew, below_drew (below_put (below_put (below_then hb hbX) (Nat.le_refl _) _) (Nat.le_refl _) _)⟩
          case measure => simp [intOf]; omega
      · have hov' : ovl (x1, x2) (t1, t2) = false := by simpa using hov
        by_cases hlt : x1 < t1
        · have b6 : decide (x1 < t1) = true := by simp [hlt]
          have hw : wstep ((t1, t2), bef, beh) (x1, x2) = ((t1, t2), bef ++ [(x1, x2)], beh) := by unfold wstep; rw [if_neg hov, if_pos hlt]
          have HW := Lib.hid hw
          clear hw hov
          go_wp2_with fail
          refine wp_region_held_drew (S := Env wr []) (by kernel_rfl) (by (first | assumption | exact Env.step (by assumption) (by assumption) | exact Env.old (by assumption) _ | exact Env.drew hE | exact hE | exact Env.drew (by assumption) | exact Env.drew (Env.old (by assumption) _) | ((repeat first | refine Env.far0 ?_ (by assumption) _ | refine Env.far1 ?_ (by assumption) _ | refine Env.farA ?_ (by assumption) _); assumption))) (fun hHeld => ?_)
          refine hTake 0 (by kernel_rfl) (by kernel_rfl) (by kernel_rfl) (by decide) (by assumption) ?_; (intro oi hoi; simp only [List.getElem?_toArray, List.getElem?_cons_zero] at hoi; obtain rfl := Option.some.inj hoi; clear hoi); refine ⟨rfl, ?_⟩; apply Exists.intro; refine ⟨?_, fun _ _ _ h => h, ?_⟩; (intro w hSw; (try dsimp only at hSw); go_simp; (try with_reducible rfl)); (try simp only [Act.put, List.setIfInBounds_toArray, List.set_cons_zero, List.set_cons_succ]); refine hTake 1 (by kernel_rfl) (by kernel_rfl) (by kernel_rfl) (by decide) (by assumption) ?_; (intro oi hoi; simp only [List.getElem?_toArray, List.getElem?_cons_succ, List.getElem?_cons_zero] at hoi; obtain rfl := Option.some.inj hoi; clear hoi); refine ⟨rfl, ?_⟩; apply Exists.intro; refine ⟨?_, fun _ _ _ h => h, ?_⟩; (intro w hSw; (try dsimp only at hSw); go_simp; (try with_reducible rfl)); (try simp only [Act.put, List.setIfInBounds_toArray, List.set_cons_zero, List.set_cons_succ]); refine hTake 2 (by kernel_rfl) (by kernel_rfl) (by kernel_rfl) (by decide) (by assumption) ?_; (intro oi hoi; simp only [List.getElem?_toArray, List.getElem?_cons_succ, List.getElem?_cons_zero] at hoi; obtain rfl := Option.some.inj hoi; clear hoi); refine ⟨rfl, ?_⟩; apply Exists.intro; refine ⟨?_, fun _ _ _ h => h, ?_⟩; (intro w hSw; (try dsimp only at hSw); go_simp; (try with_reducible rfl)); (try simp only [Act.put, List.setIfInBounds_toArray, List.set_cons_zero, List.set_cons_succ]); refine hTake 3 (by kernel_rfl) (by kernel_rfl) (by kernel_rfl) (by decide) (by assumption) ?_; (intro oi hoi; simp only [List.getElem?_toArray, List.getElem?_cons_succ, List.getElem?_cons_zero] at hoi; obtain rfl := Option.some.inj hoi; clear hoi); refine ⟨rfl, ?_⟩; apply Exists.intro; refine ⟨?_, fun _ _ _ h => h, ?_⟩; (intro w hSw; (try dsimp only at hSw); go_simp; (try with_reducible rfl)); (try simp only [Act.put, List.setIfInBounds_toArray, List.set_cons_zero, List.set_cons_succ]); refine hTake 4 (by kernel_rfl) (by kernel_rfl) (by kernel_rfl) (by decide) (by assumption) ?_; (intro oi hoi; simp only [List.getElem?_toArray, List.getElem?_cons_succ, List.getElem?_cons_zero] at hoi; obtain rfl := Option.some.inj hoi; clear hoi); refine ⟨rfl, ?_⟩; apply Exists.intro; refine ⟨?_, fun _ _ _ h => h, ?_⟩; (intro w hSw; (try dsimp only at hSw); go_simp; (try with_reducible rfl)); (try simp only [Act.put, List.setIfInBounds_toArray, List.set_cons_zero, List.set_cons_succ])
          refine hOnly 5 (by kernel_rfl) (by decide) ?_; (intro oi hoi; simp only [List.getElem?_toArray, List.getElem?_cons_succ, List.getElem?_cons_zero] at hoi; obtain rfl := Option.some.inj hoi; clear hoi); intro K hK; go_simp
          go_at_call 128
          refine (rovl_any x1 x2 t1 t2 _).mono ?_
          rw [hov']
          rintro r w6 ⟨rfl, hb6⟩
          have hEhb6 := Env.step hb6 (by assumption); (try (have hqhb6 := (by with_reducible first | exact Loc.below hb6 (Loc.new (Loc.nil _) _ _) | exact Loc.below hb6 (Loc.drew (Loc.new (Loc.nil _) _ _)) | exact Loc.below hb6 (by assumption : Loc _ [_])); (repeat rw [World.size_drew] at hqhb6); (repeat rw [World.size_alloc] at hqhb6); have hrhb6 := hqhb6; (repeat unfold Loc at hrhb6)))
          (refine hK.out _ _ (by (first | assumption | exact Env.step (by assumption) (by assumption) | exact Env.old (by assumption) _ | exact Env.drew hE | exact hE | exact Env.drew (by assumption) | exact Env.drew (Env.old (by assumption) _) | ((repeat first | refine Env.far0 ?_ (by assumption) _ | refine Env.far1 ?_ (by assumption) _ | refine Env.farA ?_ (by assumption) _); assumption))) (fun hHeld => ?_); clear hK K; (try simp only [Act.put, List.setIfInBounds_toArray, List.set_cons_zero, List.set_cons_succ]))
          refine hTake 6 (by kernel_rfl) (by kernel_rfl) (by kernel_rfl) (by decide) (by assumption) ?_; (intro oi hoi; simp only [List.getElem?_toArray, List.getElem?_cons_succ, List.getElem?_cons_zero] at hoi; obtain rfl := Option.some.inj hoi; clear hoi); refine ⟨rfl, ?_⟩; apply Exists.intro; refine ⟨?_, fun _ _ _ h => h, ?_⟩; (intro w hSw; (try dsimp only at hSw); go_simp; (try with_reducible rfl)); (try simp only [Act.put, List.setIfInBounds_toArray, List.set_cons_zero, List.set_cons_succ])
          refine wpAnyH_done (by kernel_rfl) ?_ _
          have hbX := hHeld.1
          obtain ⟨r1, r2, r3, r4⟩ := hR _ hHeld
          clear hR hE hHeld hlc
          go_wp2_with fail
          (refine wp_region_quiet_lit (by kernel_rfl) (by kernel_rfl) ?_; (repeat (any_goals (first | go_big_quiet_step (fail) | quiet_step (fail)))); all_goals (refine wpQuiet_nil ?_; intro _ hw'; obtain ⟨nq, hw''⟩ := hw'; subst hw''))
          have hbN := below_drewN' hbX nq
          go_wp2_with (at_builtin; refine wpList_append_fs rfl _ _ 103 rfl (w.heap.size + 1) 32 i0 (.agg #[.int .i64 0, .int .i64 0]) 2 16 Try.underlying103 hi0 hz0 hz1 hz2 rfl (by decide) senc senc_len _ bef (x1, x2) rfl ((hob.below hbN).alloc (.cells #[.int .i64 x1, .int .i64 x2] 32)) ⟨w6.heap.size, 0, none⟩ 1 rfl (sp_new _ (x1, x2) 32 w6.heap.size rfl) (senc_one _) (by unfold maxLen; omega) (by omega) (by have h1 := hlc1; have h2 := hbN.size; rw [World.size_alloc]; omega) ?_; intro v' w7 own7 hgr7 hsf)
          obtain ⟨oh7, ap7, loc7, hb7⟩ := with_app hb hbN hob hoh HAP.out hloc hgr7 hsf
          go_wp2
          go_roundw
          case rel => exact ⟨k + 1, t1, t2, bef ++ [(x1, x2)], beh, by omega, by go_num, by rw [HNX.out, HW.out], by simp; omega, own7, oh7, ap7, loc7, hb7⟩
          case measure => simp [intOf]; omega
        · have b6 : decide (x1 < t1) = false := by simp; omega
          have hw : wstep ((t1, t2), bef, beh) (x1, x2) = ((t1, t2), bef, beh ++ [(x1, x2)]) := by unfold wstep; rw [if_neg hov, if_neg hlt]
          have HW := Lib.hid hw
          clear hw hov
          go_wp2_with fail
          refine wp_region_held_drew (S := Env wr []) (by kernel_rfl) (by (first | assumption | exact Env.step (by assumption) (by assumption) | exact Env.old (by assumption) _ | exact Env.drew hE | exact hE | exact Env.drew (by assumption) | exact Env.drew (Env.old (by assumption) _) | ((repeat first | refine Env.far0 ?_ (by assumption) _ | refine Env.far1 ?_ (by assumption) _ | refine Env.farA ?_ (by assumption) _); assumption))) (fun hHeld => ?_)
          refine hTake 0 (by kernel_rfl) (by kernel_rfl) (by kernel_rfl) (by decide) (by assumption) ?_; (intro oi hoi; simp only [List.getElem?_toArray, List.getElem?_cons_zero] at hoi; obtain rfl := Option.some.inj hoi; clear hoi); refine ⟨rfl, ?_⟩; apply Exists.intro; refine ⟨?_, fun _ _ _ h => h, ?_⟩; (intro w hSw; (try dsimp only at hSw); go_simp; (try with_reducible rfl)); (try simp only [Act.put, List.setIfInBounds_toArray, List.set_cons_zero, List.set_cons_succ]); refine hTake 1 (by kernel_rfl) (by kernel_rfl) (by kernel_rfl) (by decide) (by assumption) ?_; (intro oi hoi; simp only [List.getElem?_toArray, List.getElem?_cons_succ, List.getElem?_cons_zero] at hoi; obtain rfl := Option.some.inj hoi; clear hoi); refine ⟨rfl, ?_⟩; apply Exists.intro; refine ⟨?_, fun _ _ _ h => h, ?_⟩; (intro w hSw; (try dsimp only at hSw); go_simp; (try with_reducible rfl)); (try simp only [Act.put, List.setIfInBounds_toArray, List.set_cons_zero, List.set_cons_succ]); refine hTake 2 (by kernel_rfl) (by kernel_rfl) (by kernel_rfl) (by decide) (by assumption) ?_; (intro oi hoi; simp only [List.getElem?_toArray, List.getElem?_cons_succ, List.getElem?_cons_zero] at hoi; obtain rfl := Option.some.inj hoi; clear hoi); refine ⟨rfl, ?_⟩; apply Exists.intro; refine ⟨?_, fun _ _ _ h => h, ?_⟩; (intro w hSw; (try dsimp only at hSw); go_simp; (try with_reducible rfl)); (try simp only [Act.put, List.setIfInBounds_toArray, List.set_cons_zero, List.set_cons_succ]); refine hTake 3 (by kernel_rfl) (by kernel_rfl) (by kernel_rfl) (by decide) (by assumption) ?_; (intro oi hoi; simp only [List.getElem?_toArray, List.getElem?_cons_succ, List.getElem?_cons_zero] at hoi; obtain rfl := Option.some.inj hoi; clear hoi); refine ⟨rfl, ?_⟩; apply Exists.intro; refine ⟨?_, fun _ _ _ h => h, ?_⟩; (intro w hSw; (try dsimp only at hSw); go_simp; (try with_reducible rfl)); (try simp only [Act.put, List.setIfInBounds_toArray, List.set_cons_zero, List.set_cons_succ]); refine hTake 4 (by kernel_rfl) (by kernel_rfl) (by kernel_rfl) (by decide) (by assumption) ?_; (intro oi hoi; simp only [List.getElem?_toArray, List.getElem?_cons_succ, List.getElem?_cons_zero] at hoi; obtain rfl := Option.some.inj hoi; clear hoi); refine ⟨rfl, ?_⟩; apply Exists.intro; refine ⟨?_, fun _ _ _ h => h, ?_⟩; (intro w hSw; (try dsimp only at hSw); go_simp; (try with_reducible rfl)); (try simp only [Act.put, List.setIfInBounds_toArray, List.set_cons_zero, List.set_cons_succ])
          refine hOnly 5 (by kernel_rfl) (by decide) ?_; (intro oi hoi; simp only [List.getElem?_toArray, List.getElem?_cons_succ, List.getElem?_cons_zero] at hoi; obtain rfl := Option.some.inj hoi; clear hoi); intro K hK; go_simp
          go_at_call 128
          refine (rovl_any x1 x2 t1 t2 _).mono ?_
          rw [hov']
          rintro r w6 ⟨rfl, hb6⟩
          have hEhb6 := Env.step hb6 (by assumption); (try (have hqhb6 := (by with_reducible first | exact Loc.below hb6 (Loc.new (Loc.nil _) _ _) | exact Loc.below hb6 (Loc.drew (Loc.new (Loc.nil _) _ _)) | exact Loc.below hb6 (by assumption : Loc _ [_])); (repeat rw [World.size_drew] at hqhb6); (repeat rw [World.size_alloc] at hqhb6); have hrhb6 := hqhb6; (repeat unfold Loc at hrhb6)))
          (refine hK.out _ _ (by (first | assumption | exact Env.step (by assumption) (by assumption) | exact Env.old (by assumption) _ | exact Env.drew hE | exact hE | exact Env.drew (by assumption) | exact Env.drew (Env.old (by assumption) _) | ((repeat first | refine Env.far0 ?_ (by assumption) _ | refine Env.far1 ?_ (by assumption) _ | refine Env.farA ?_ (by assumption) _); assumption))) (fun hHeld => ?_); clear hK K; (try simp only [Act.put, List.setIfInBounds_toArray, List.set_cons_zero, List.set_cons_succ]))
          refine hTake 6 (by kernel_rfl) (by kernel_rfl) (by kernel_rfl) (by decide) (by assumption) ?_; (intro oi hoi; simp only [List.getElem?_toArray, List.getElem?_cons_succ, List.getElem?_cons_zero] at hoi; obtain rfl := Option.some.inj hoi; clear hoi); refine ⟨rfl, ?_⟩; apply Exists.intro; refine ⟨?_, fun _ _ _ h => h, ?_⟩; (intro w hSw; (try dsimp only at hSw); go_simp; (try with_reducible rfl)); (try simp only [Act.put, List.setIfInBounds_toArray, List.set_cons_zero, List.set_cons_succ])
          refine wpAnyH_done (by kernel_rfl) ?_ _
          have hbX := hHeld.1
          obtain ⟨r1, r2, r3, r4⟩ := hR _ hHeld
          clear hR hE hHeld hlc
          go_wp2_with fail
          (refine wp_region_quiet_lit (by kernel_rfl) (by kernel_rfl) ?_; (repeat (any_goals (first | go_big_quiet_step (fail) | quiet_step (fail)))); all_goals (refine wpQuiet_nil ?_; intro _ hw'; obtain ⟨nq, hw''⟩ := hw'; subst hw''))
          have hbN := below_drewN' hbX nq
          go_wp2_with (at_builtin; refine wpList_append_fs rfl _ _ 103 rfl (w.heap.size + 1) 32 i0 (.agg #[.int .i64 0, .int .i64 0]) 2 16 Try.underlying103 hi0 hz0 hz1 hz2 rfl (by decide) senc senc_len _ beh (x1, x2) rfl ((hoh.below hbN).alloc (.cells #[.int .i64 x1, .int .i64 x2] 32)) ⟨w6.heap.size, 0, none⟩ 1 rfl (sp_new _ (x1, x2) 32 w6.heap.size rfl) (senc_one _) (by unfold maxLen; omega) (by omega) (by have h1 := hlc1; have h2 := hbN.size; rw [World.size_alloc]; omega) ?_; intro v' w7 own7 hgr7 hsf)
          obtain ⟨oh7, ap7, loc7, hb7⟩ := with_app hb hbN hoh hob (fun g h1 h2 => HAP.out g h2 h1) hloc hgr7 hsf
          go_wp2
          go_roundw
          case rel => exact ⟨k + 1, t1, t2, bef, beh ++ [(x1, x2)], by omega, by go_num, by rw [HNX.out, HW.out], by simp; omega, oh7, own7, fun g h1 h2 => ap7 g h2 h1, loc7, hb7⟩
          case measure => simp [intOf]; omega
    · have d1 : decide ((k : Int) < (n : Int)) = false := by simp; omega
      have d1' : decide (k < n) = false := by simp [h1]
      obtain rfl : k = n := by omega
      have hfin : withS l (s1, s2) = bef ++ [(t1, t2)] ++ beh := by
        have := HST.out
        rw [List.take_of_length_le (by rw [HL.out]; omega)] at this
        unfold withS
        rw [this]
      have HF := Lib.hid hfin
      clear hfin
      obtain ⟨Ab, cb, hvb, -, zb⟩ := own_shape_z hoh rfl
      subst hvb
      have ZB := Lib.hid zb
      clear zb
      go_wp2_with (first
        | (at_builtin; refine wpList_append_fs rfl (.tmp 62) (.tmp 64) 103 rfl (w.heap.size + 1) 32 i0 (.agg #[.int .i64 0, .int .i64 0]) 2 16 Try.underlying103 hi0 hz0 hz1 hz2 rfl (by decide) senc senc_len _ bef (t1, t2) rfl (hob.alloc (.cells #[.int .i64 t1, .int .i64 t2] 32)) ⟨wr.heap.size, 0, none⟩ 1 rfl (sp_new _ (t1, t2) 32 wr.heap.size rfl) (senc_one _) (by unfold maxLen; omega) (by omega) (by have h1 := hlc1; rw [World.size_alloc]; omega) ?_; intro v' w7 own7 hgr7 hsf; obtain ⟨oh7, ap7, loc7, hb7⟩ := with_app hb (Below.refl _ _) hob hoh HAP.out hloc hgr7 hsf; obtain ⟨g7, c7, rfl, hg7, hgl7⟩ := World.ownsRow.form own7 (by simp); rw [show (bef ++ [(t1, t2)]).length = bef.length + 1 by simp] at own7 ⊢)
        | (at_builtin; refine wpList_append_more rfl (.tmp 65) (.tmp 66) 103 rfl (w.heap.size + 1) 32 i0 (.agg #[.int .i64 0, .int .i64 0]) 2 16 Try.underlying103 hi0 hz0 hz1 hz2 rfl (by decide) senc senc_len g7 c7 (bef.length + 1) (bef ++ [(t1, t2)] ++ beh).length (bef ++ [(t1, t2)]) beh (bef ++ [(t1, t2)] ++ beh) rfl own7 (by simp) Ab beh.length cb rfl rfl ZB.out (Own.rd senc_len oh7) (senc_one _) rfl rfl (by unfold maxLen; simp; omega) (by simp; omega) (by omega) ?_; intro g8 c8 w8 own8 hc8 hg8 hb8))
      go_ret
      exact ⟨_, rfl, by rw [HF.out]; have h8 := own8.mono (Nat.le_succ _); rw [show (bef ++ [(t1, t2)] ++ beh).length = bef.length + (beh.length + 1) by simp] at h8; exact h8, hb7.trans (hb8.mono (Nat.le_succ _))⟩
end Go.Proofs.Ytffehibdeogjeaa
