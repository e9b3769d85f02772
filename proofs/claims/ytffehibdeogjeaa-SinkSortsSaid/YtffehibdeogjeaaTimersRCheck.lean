/- The contract of the reference's Check (chapter 18). Condition: lists of at most 2^40 timers. -/
import Derived.Test.YtffehibdeogjeaaTimersPushed
namespace Go.Proofs.Ytffehibdeogjeaa
open Go.RowKit

/-- As far as the first k, with their children, and of number k the children before number c, are looked at. -/
def thr (l : List Tm) (k c : Nat) : Prop := (∀ i, i < k → tok (l.getD i t0)) ∧ (∀ i, 0 < i → i < c → i < l.length → tlt (l.getD i t0) (l.getD ((i - 1) / 2) t0) = false)
theorem thr_all (l : List Tm) : thr l l.length (2 * l.length + 1) → thv l := by
  rintro ⟨h1, h2⟩
  refine (thk_all l).1 ⟨h1, fun i h0 hi => h2 i h0 (by omega) hi⟩

set_option maxHeartbeats 8000000 in
set_option maxRecDepth 100000 in
theorem rtcheck_any (A : Option Addr) (c : Nat) (l : List Tm) (w : World) (hn : l.length ≤ 1099511627776) (hr : Rd tenc 3 w w.heap.size A l) :
    Calls Try.prog 22 #[.slice A l.length c] w fun e w' => e = .returned (.int .i64 (tck l)) ∧ Below w.heap.size w w' := by
  obtain ⟨n, hn'⟩ : ∃ n, n = l.length := ⟨_, rfl⟩
  rw [← hn'] at hn ⊢
  have HN := Lib.hid hn'
  by_cases hlen : 4000 < n
  · have e1 : tck l = 4 := by unfold tck; rw [if_pos (by omega)]
    have E1 := Lib.hid e1
    clear e1 hn'
    go_enter Try.func22, Try.ntmps22
    go_wp2
    go_ret
    exact ⟨ret_i64 E1.out.symm, Below.refl _ _⟩
  · clear hn'
    go_enter Try.func22, Try.ntmps22
    go_wp2
    go_loopw [3] (fun i wr => ∃ k : Nat, k ≤ n ∧ i = .int .i64 k ∧ thr l k (2 * k + 1) ∧ Below w.heap.size w wr) (fun i _ => n - (intOf i).toNat)
    case atStart => exact ⟨0, Nat.zero_le _, rfl, ⟨fun i hi => by omega, fun i _ hi => by omega⟩, Below.refl _ _⟩
    case round =>
      obtain ⟨k, hk, rfl, hth, hb⟩ := hrel
      have HT := Lib.hid hth
      clear hth
      by_cases hlt : k < n
      · obtain ⟨x, hx⟩ : ∃ x, l[k]? = some x := ⟨_, List.getElem?_eq_getElem (by rw [← HN.out]; exact hlt)⟩
        have GX := Lib.hid (getD_some (d := t0) hx)
        obtain ⟨b, off, rfl, hbB, f1, f2, f3⟩ := tm_cells hr hx
        have d1 := (hb.cell (p := ⟨b, off + k * 3, none⟩) hbB).trans f1
        have d2 := (hb.cell (p := ⟨b, off + k * 3 + 1, none⟩) hbB).trans f2
        have d3 := (hb.cell (p := ⟨b, off + k * 3 + 2, none⟩) hbB).trans f3
        clear hx
        by_cases hok : tok x
        · have b1 : decide (tok x) = true := by simp [hok]
          have HOK := Lib.hid hok
          clear hok
          go_wp2_with (go_at_call 27; refine (rtright_any x _).mono ?_; rintro e w1 ⟨rfl, hb1⟩)
          have hb2 : Below w.heap.size w w1 := below_then hb hb1
          clear hb1
          clear hb
          go_loopw [4] (fun ch wi => ∃ c' : Nat, 2 * k + 1 ≤ c' ∧ c' ≤ 2 * k + 3 ∧ ch = .int .i64 c' ∧ thr l k c' ∧ Below w.heap.size w wi) (fun ch _ => (2 * k + 3) - (intOf ch).toNat)
          case atStart => exact ⟨2 * k + 1, by omega, by omega, by go_num, HT.out, hb2⟩
          case round =>
            obtain ⟨c', hc1, hc2, rfl, hth', hbi⟩ := hrel
            have HT' := Lib.hid hth'
            clear hth' hb2
            by_cases hin : c' ≤ 2 * k + 2 ∧ c' < n
            · obtain ⟨hi1, hi2⟩ := hin
              obtain ⟨y, hy⟩ : ∃ y, l[c']? = some y := ⟨_, List.getElem?_eq_getElem (by rw [← HN.out]; exact hi2)⟩
              have GY := Lib.hid (getD_some (d := t0) hy)
              obtain ⟨b', off', e', _, g1, g2, g3⟩ := tm_cells hr hy
              simp only [Option.some.injEq, Addr.mk.injEq, and_true] at e'
              obtain ⟨rfl, rfl⟩ := e'
              have hE : Env w [] wr := ⟨hbi, trivial⟩
              have hR : ∀ X, Env w [] X → X.cell? ⟨b, off + c' * 3, none⟩ = some (.int .i64 y.s) ∧ X.cell? ⟨b, off + c' * 3 + 1, none⟩ = some (.int .i64 y.e) ∧ X.cell? ⟨b, off + c' * 3 + 2, none⟩ = some (.int .i64 y.k) ∧
                  X.cell? ⟨b, off + k * 3, none⟩ = some (.int .i64 x.s) ∧ X.cell? ⟨b, off + k * 3 + 1, none⟩ = some (.int .i64 x.e) ∧ X.cell? ⟨b, off + k * 3 + 2, none⟩ = some (.int .i64 x.k) := fun X hX =>
                ⟨(hX.1.cell (p := ⟨b, off + c' * 3, none⟩) hbB).trans g1, (hX.1.cell (p := ⟨b, off + c' * 3 + 1, none⟩) hbB).trans g2, (hX.1.cell (p := ⟨b, off + c' * 3 + 2, none⟩) hbB).trans g3,
                  (hX.1.cell (p := ⟨b, off + k * 3, none⟩) hbB).trans f1, (hX.1.cell (p := ⟨b, off + k * 3 + 1, none⟩) hbB).trans f2, (hX.1.cell (p := ⟨b, off + k * 3 + 2, none⟩) hbB).trans f3⟩
              have j1 : (0 : Int) ≤ (c' : Int) := by omega
              have j2 : (c' : Int) < (n : Int) := by omega
              have j3 : (0 : Int) ≤ (k : Int) := by omega
              have j4 : (k : Int) < (n : Int) := by omega
              have hpar : (c' - 1) / 2 = k := by omega
              have HPAR := Lib.hid hpar
              clear hpar hy g1 g2 g3
              by_cases hlt2 : tlt y x = true
              · have e1 : tck l = 8 := by
                  unfold tck
                  rw [if_neg (by rw [← HN.out]; exact hlen), if_neg]
                  intro h
                  have := ((thk_all l).2 h).2 c' (by omega) (by rw [← HN.out]; exact hi2)
                  rw [HPAR.out, GX.out, GY.out, hlt2] at this
                  cases this
                have E1 := Lib.hid e1
                clear e1
                go_wp2
                refine wp_region_held_drew (S := Env w []) (by kernel_rfl) (by (first | assumption | exact Env.step (by assumption) (by assumption) | exact Env.old (by assumption) _ | exact Env.drew hE | exact hE | exact Env.drew (by assumption) | exact Env.drew (Env.old (by assumption) _) | ((repeat first | refine Env.far0 ?_ (by assumption) _ | refine Env.far1 ?_ (by assumption) _ | refine Env.farA ?_ (by assumption) _); assumption))) (fun hHeld => ?_)
                refine hTake 0 (by kernel_rfl) (by kernel_rfl) (by kernel_rfl) (by decide) (by assumption) ?_; (intro oi hoi; simp only [List.getElem?_toArray, List.getElem?_cons_zero] at hoi; obtain rfl := Option.some.inj hoi; clear hoi); refine ⟨rfl, ?_⟩; apply Exists.intro; refine ⟨?_, fun _ _ _ h => h, ?_⟩; (intro w hSw; (try dsimp only at hSw); go_simp; (try with_reducible rfl)); (try simp only [Act.put, List.setIfInBounds_toArray, List.set_cons_zero, List.set_cons_succ]); refine hTake 1 (by kernel_rfl) (by kernel_rfl) (by kernel_rfl) (by decide) (by assumption) ?_; (intro oi hoi; simp only [List.getElem?_toArray, List.getElem?_cons_succ, List.getElem?_cons_zero] at hoi; obtain rfl := Option.some.inj hoi; clear hoi); refine ⟨rfl, ?_⟩; apply Exists.intro; refine ⟨?_, fun _ _ _ h => h, ?_⟩; (intro w hSw; (try dsimp only at hSw); go_simp; (try with_reducible rfl)); (try simp only [Act.put, List.setIfInBounds_toArray, List.set_cons_zero, List.set_cons_succ]); refine hTake 2 (by kernel_rfl) (by kernel_rfl) (by kernel_rfl) (by decide) (by assumption) ?_; (intro oi hoi; simp only [List.getElem?_toArray, List.getElem?_cons_succ, List.getElem?_cons_zero] at hoi; obtain rfl := Option.some.inj hoi; clear hoi); refine ⟨rfl, ?_⟩; apply Exists.intro; refine ⟨?_, fun _ _ _ h => h, ?_⟩; (intro w hSw; (try dsimp only at hSw); go_simp; (try with_reducible rfl)); (try simp only [Act.put, List.setIfInBounds_toArray, List.set_cons_zero, List.set_cons_succ]); refine hTake 3 (by kernel_rfl) (by kernel_rfl) (by kernel_rfl) (by decide) (by assumption) ?_; (intro oi hoi; simp only [List.getElem?_toArray, List.getElem?_cons_succ, List.getElem?_cons_zero] at hoi; obtain rfl := Option.some.inj hoi; clear hoi); refine ⟨rfl, ?_⟩; apply Exists.intro; refine ⟨?_, fun _ _ _ h => h, ?_⟩; (intro w hSw; (try dsimp only at hSw); go_simp; (try with_reducible rfl)); (try simp only [Act.put, List.setIfInBounds_toArray, List.set_cons_zero, List.set_cons_succ]); refine hTake 4 (by kernel_rfl) (by kernel_rfl) (by kernel_rfl) (by decide) (by assumption) ?_; (intro oi hoi; simp only [List.getElem?_toArray, List.getElem?_cons_succ, List.getElem?_cons_zero] at hoi; obtain rfl := Option.some.inj hoi; clear hoi); refine ⟨rfl, ?_⟩; apply Exists.intro; refine ⟨?_, fun _ _ _ h => h, ?_⟩; (intro w hSw; (try dsimp only at hSw); go_simp; (try with_reducible rfl)); (try simp only [Act.put, List.setIfInBounds_toArray, List.set_cons_zero, List.set_cons_succ]); refine hTake 5 (by kernel_rfl) (by kernel_rfl) (by kernel_rfl) (by decide) (by assumption) ?_; (intro oi hoi; simp only [List.getElem?_toArray, List.getElem?_cons_succ, List.getElem?_cons_zero] at hoi; obtain rfl := Option.some.inj hoi; clear hoi); refine ⟨rfl, ?_⟩; apply Exists.intro; refine ⟨?_, fun _ _ _ h => h, ?_⟩; (intro w hSw; (try dsimp only at hSw); go_simp; (try with_reducible rfl)); (try simp only [Act.put, List.setIfInBounds_toArray, List.set_cons_zero, List.set_cons_succ]); refine hTake 6 (by kernel_rfl) (by kernel_rfl) (by kernel_rfl) (by decide) (by assumption) ?_; (intro oi hoi; simp only [List.getElem?_toArray, List.getElem?_cons_succ, List.getElem?_cons_zero] at hoi; obtain rfl := Option.some.inj hoi; clear hoi); refine ⟨rfl, ?_⟩; apply Exists.intro; refine ⟨?_, fun _ _ _ h => h, ?_⟩; (intro w hSw; (try dsimp only at hSw); go_simp; (try with_reducible rfl)); (try simp only [Act.put, List.setIfInBounds_toArray, List.set_cons_zero, List.set_cons_succ]); refine hTake 7 (by kernel_rfl) (by kernel_rfl) (by kernel_rfl) (by decide) (by assumption) ?_; (intro oi hoi; simp only [List.getElem?_toArray, List.getElem?_cons_succ, List.getElem?_cons_zero] at hoi; obtain rfl := Option.some.inj hoi; clear hoi); refine ⟨rfl, ?_⟩; apply Exists.intro; refine ⟨?_, fun _ _ _ h => h, ?_⟩; (intro w hSw; (try dsimp only at hSw); go_simp; (try with_reducible rfl)); (try simp only [Act.put, List.setIfInBounds_toArray, List.set_cons_zero, List.set_cons_succ])
                refine hOnly 8 (by kernel_rfl) (by decide) ?_; (intro oi hoi; simp only [List.getElem?_toArray, List.getElem?_cons_succ, List.getElem?_cons_zero] at hoi; obtain rfl := Option.some.inj hoi; clear hoi); intro K hK; go_simp
                go_at_call 29
                refine (rtless_any y x _).mono ?_
                rw [hlt2]
                rintro e w3 ⟨rfl, hb3⟩
                have hEhb3 := Env.step hb3 (by assumption); (try (have hqhb3 := (by with_reducible first | exact Loc.below hb3 (Loc.new (Loc.nil _) _ _) | exact Loc.below hb3 (Loc.drew (Loc.new (Loc.nil _) _ _)) | exact Loc.below hb3 (by assumption : Loc _ [_])); (repeat rw [World.size_drew] at hqhb3); (repeat rw [World.size_alloc] at hqhb3); have hrhb3 := hqhb3; (repeat unfold Loc at hrhb3)))
                (refine hK.out _ _ (by (first | assumption | exact Env.step (by assumption) (by assumption) | exact Env.old (by assumption) _ | exact Env.drew hE | exact hE | exact Env.drew (by assumption) | exact Env.drew (Env.old (by assumption) _) | ((repeat first | refine Env.far0 ?_ (by assumption) _ | refine Env.far1 ?_ (by assumption) _ | refine Env.farA ?_ (by assumption) _); assumption))) (fun hHeld => ?_); clear hK K; (try simp only [Act.put, List.setIfInBounds_toArray, List.set_cons_zero, List.set_cons_succ]))
                refine wpAnyH_done (by kernel_rfl) ?_ _
                have hb4 := hHeld.1
                go_wp2
                go_ret
                exact ⟨ret_i64 E1.out.symm, hb4⟩
              · have hlt3 : tlt y x = false := by simpa using hlt2
                have hnx : thr l k (c' + 1) := ⟨HT'.out.1, fun i h0 hi hl => by
                  by_cases e : i = c'
                  · rw [e, HPAR.out, GX.out, GY.out]; exact hlt3
                  · exact HT'.out.2 i h0 (by omega) hl⟩
                have HNX := Lib.hid hnx
                clear hnx hlt2
                go_wp2
                refine wp_region_held_drew (S := Env w []) (by kernel_rfl) (by (first | assumption | exact Env.step (by assumption) (by assumption) | exact Env.old (by assumption) _ | exact Env.drew hE | exact hE | exact Env.drew (by assumption) | exact Env.drew (Env.old (by assumption) _) | ((repeat first | refine Env.far0 ?_ (by assumption) _ | refine Env.far1 ?_ (by assumption) _ | refine Env.farA ?_ (by assumption) _); assumption))) (fun hHeld => ?_)
                refine hTake 0 (by kernel_rfl) (by kernel_rfl) (by kernel_rfl) (by decide) (by assumption) ?_; (intro oi hoi; simp only [List.getElem?_toArray, List.getElem?_cons_zero] at hoi; obtain rfl := Option.some.inj hoi; clear hoi); refine ⟨rfl, ?_⟩; apply Exists.intro; refine ⟨?_, fun _ _ _ h => h, ?_⟩; (intro w hSw; (try dsimp only at hSw); go_simp; (try with_reducible rfl)); (try simp only [Act.put, List.setIfInBounds_toArray, List.set_cons_zero, List.set_cons_succ]); refine hTake 1 (by kernel_rfl) (by kernel_rfl) (by kernel_rfl) (by decide) (by assumption) ?_; (intro oi hoi; simp only [List.getElem?_toArray, List.getElem?_cons_succ, List.getElem?_cons_zero] at hoi; obtain rfl := Option.some.inj hoi; clear hoi); refine ⟨rfl, ?_⟩; apply Exists.intro; refine ⟨?_, fun _ _ _ h => h, ?_⟩; (intro w hSw; (try dsimp only at hSw); go_simp; (try with_reducible rfl)); (try simp only [Act.put, List.setIfInBounds_toArray, List.set_cons_zero, List.set_cons_succ]); refine hTake 2 (by kernel_rfl) (by kernel_rfl) (by kernel_rfl) (by decide) (by assumption) ?_; (intro oi hoi; simp only [List.getElem?_toArray, List.getElem?_cons_succ, List.getElem?_cons_zero] at hoi; obtain rfl := Option.some.inj hoi; clear hoi); refine ⟨rfl, ?_⟩; apply Exists.intro; refine ⟨?_, fun _ _ _ h => h, ?_⟩; (intro w hSw; (try dsimp only at hSw); go_simp; (try with_reducible rfl)); (try simp only [Act.put, List.setIfInBounds_toArray, List.set_cons_zero, List.set_cons_succ]); refine hTake 3 (by kernel_rfl) (by kernel_rfl) (by kernel_rfl) (by decide) (by assumption) ?_; (intro oi hoi; simp only [List.getElem?_toArray, List.getElem?_cons_succ, List.getElem?_cons_zero] at hoi; obtain rfl := Option.some.inj hoi; clear hoi); refine ⟨rfl, ?_⟩; apply Exists.intro; refine ⟨?_, fun _ _ _ h => h, ?_⟩; (intro w hSw; (try dsimp only at hSw); go_simp; (try with_reducible rfl)); (try simp only [Act.put, List.setIfInBounds_toArray, List.set_cons_zero, List.set_cons_succ]); refine hTake 4 (by kernel_rfl) (by kernel_rfl) (by kernel_rfl) (by decide) (by assumption) ?_; (intro oi hoi; simp only [List.getElem?_toArray, List.getElem?_cons_succ, List.getElem?_cons_zero] at hoi; obtain rfl := Option.some.inj hoi; clear hoi); refine ⟨rfl, ?_⟩; apply Exists.intro; refine ⟨?_, fun _ _ _ h => h, ?_⟩; (intro w hSw; (try dsimp only at hSw); go_simp; (try with_reducible rfl)); (try simp only [Act.put, List.setIfInBounds_toArray, List.set_cons_zero, List.set_cons_succ]); refine hTake 5 (by kernel_rfl) (by kernel_rfl) (by kernel_rfl) (by decide) (by assumption) ?_; (intro oi hoi; simp only [List.getElem?_toArray, List.getElem?_cons_succ, List.getElem?_cons_zero] at hoi; obtain rfl := Option.some.inj hoi; clear hoi); refine ⟨rfl, ?_⟩; apply Exists.intro; refine ⟨?_, fun _ _ _ h => h, ?_⟩; (intro w hSw; (try dsimp only at hSw); go_simp; (try with_reducible rfl)); (try simp only [Act.put, List.setIfInBounds_toArray, List.set_cons_zero, List.set_cons_succ]); refine hTake 6 (by kernel_rfl) (by kernel_rfl) (by kernel_rfl) (by decide) (by assumption) ?_; (intro oi hoi; simp only [List.getElem?_toArray, List.getElem?_cons_succ, List.getElem?_cons_zero] at hoi; obtain rfl := Option.some.inj hoi; clear hoi); refine ⟨rfl, ?_⟩; apply Exists.intro; refine ⟨?_, fun _ _ _ h => h, ?_⟩; (intro w hSw; (try dsimp only at hSw); go_simp; (try with_reducible rfl)); (try simp only [Act.put, List.setIfInBounds_toArray, List.set_cons_zero, List.set_cons_succ]); refine hTake 7 (by kernel_rfl) (by kernel_rfl) (by kernel_rfl) (by decide) (by assumption) ?_; (intro oi hoi; simp only [List.getElem?_toArray, List.getElem?_cons_succ, List.getElem?_cons_zero] at hoi; obtain rfl := Option.some.inj hoi; clear hoi); refine ⟨rfl, ?_⟩; apply Exists.intro; refine ⟨?_, fun _ _ _ h => h, ?_⟩; (intro w hSw; (try dsimp only at hSw); go_simp; (try with_reducible rfl)); (try simp only [Act.put, List.setIfInBounds_toArray, List.set_cons_zero, List.set_cons_succ])
                refine hOnly 8 (by kernel_rfl) (by decide) ?_; (intro oi hoi; simp only [List.getElem?_toArray, List.getElem?_cons_succ, List.getElem?_cons_zero] at hoi; obtain rfl := Option.some.inj hoi; clear hoi); intro K hK; go_simp
                go_at_call 29
                refine (rtless_any y x _).mono ?_
                rw [hlt3]
                rintro e w3 ⟨rfl, hb3⟩
                have hEhb3 := Env.step hb3 (by assumption); (try (have hqhb3 := (by with_reducible first | exact Loc.below hb3 (Loc.new (Loc.nil _) _ _) | exact Loc.below hb3 (Loc.drew (Loc.new (Loc.nil _) _ _)) | exact Loc.below hb3 (by assumption : Loc _ [_])); (repeat rw [World.size_drew] at hqhb3); (repeat rw [World.size_alloc] at hqhb3); have hrhb3 := hqhb3; (repeat unfold Loc at hrhb3)))
                (refine hK.out _ _ (by (first | assumption | exact Env.step (by assumption) (by assumption) | exact Env.old (by assumption) _ | exact Env.drew hE | exact hE | exact Env.drew (by assumption) | exact Env.drew (Env.old (by assumption) _) | ((repeat first | refine Env.far0 ?_ (by assumption) _ | refine Env.far1 ?_ (by assumption) _ | refine Env.farA ?_ (by assumption) _); assumption))) (fun hHeld => ?_); clear hK K; (try simp only [Act.put, List.setIfInBounds_toArray, List.set_cons_zero, List.set_cons_succ]))
                refine wpAnyH_done (by kernel_rfl) ?_ _
                have hb4 := hHeld.1
                go_wp2
                go_roundw
                case rel => exact ⟨c' + 1, by omega, by omega, by go_num, HNX.out, hb4⟩
                case measure => simp [intOf]; omega
            · have hnx : thr l (k + 1) (2 * (k + 1) + 1) := by
                refine ⟨fun i hi => ?_, fun i h0 hi hl => HT'.out.2 i h0 ?_ hl⟩
                · by_cases e : i = k
                  · rw [e, GX.out]; exact HOK.out
                  · exact HT.out.1 i (by omega)
                · have := HN.out
                  omega
              have HNX := Lib.hid hnx
              clear hnx
              go_wp2
              all_goals
                go_roundw
                case rel => exact ⟨k + 1, by omega, by go_num, HNX.out, hbi⟩
                case measure => simp [intOf]; omega
        · have b1 : decide (tok x) = false := by simp [hok]
          have e1 : tck l = 8 := by
            unfold tck
            rw [if_neg (by rw [← HN.out]; exact hlen), if_neg]
            intro h
            have := ((thk_all l).2 h).1 k (by rw [← HN.out]; exact hlt)
            rw [GX.out] at this
            exact hok this
          have E1 := Lib.hid e1
          clear e1 hok
          go_wp2_with (go_at_call 27; refine (rtright_any x _).mono ?_; rintro e w1 ⟨rfl, hb1⟩)
          go_ret
          exact ⟨ret_i64 E1.out.symm, below_then hb hb1⟩
      · obtain rfl : k = n := by omega
        have e1 : tck l = 0 := by
          have := HT.out
          rw [HN.out] at this
          unfold tck
          rw [if_neg (by rw [← HN.out]; exact hlen), if_pos (thr_all l this)]
        have E1 := Lib.hid e1
        clear e1
        go_wp2
        go_ret
        exact ⟨ret_i64 E1.out.symm, hb⟩
end Go.Proofs.Ytffehibdeogjeaa
